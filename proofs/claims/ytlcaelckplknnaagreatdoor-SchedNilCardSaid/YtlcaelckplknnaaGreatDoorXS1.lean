/- XS: the executor is sound: what its states and values say; finite maps; operands. -/
import Derived.Test.YtlcaelckplknnaaGreatDoorXC
set_option linter.unusedVariables false
set_option linter.unusedSimpArgs false
namespace Go.XC
open Go Go.SX
variable {β : Type} {P : Program}

/-! ways on -/
theorem oK_inv {α : Type} {o : Option α} {k : α → Option β} {r : β} (h : oK o k = some r) : ∃ x, o = some x ∧ k x = some r := by
  cases o with
  | none => cases h
  | some x => exact ⟨x, rfl, h⟩
theorem ck_inv {b : Bool} {k : Option β} {r : β} (h : ck b k = some r) : b = true ∧ k = some r := by
  cases b with
  | false => cases h
  | true => exact ⟨rfl, h⟩
theorem fN_inv {n : Nat} {k : Nat → Option β} {r : β} (h : fN n k = some r) : k n = some r := by
  cases n <;> exact h
theorem fI_inv {x : Int} {k : Int → Option β} {r : β} (h : fI x k = some r) : k x = some r := by
  cases x with
  | ofNat n => exact fN_inv (k := fun n => k (.ofNat n)) h
  | negSucc n => exact fN_inv (k := fun n => k (.negSucc n)) h
theorem retI_inv {kd : IntKind} {x : Int} {k : A → Option β} {r : β} (h : retI kd x k = some r) : k (.lit (.int kd x)) = some r := fI_inv (k := fun x => k (.lit (.int kd x))) h
theorem retB_inv {b : Bool} {k : A → Option β} {r : β} (h : retB b k = some r) : k (.lit (.bool b)) = some r := by
  cases b <;> exact h
theorem beq_iff {a b : Nat} (h : Nat.beq a b = true) : a = b := Nat.eq_of_beq_eq_true h

/-! finite maps -/
theorem sel4_cases {γ : Type} (a b c d : γ) (n : Nat) (hn : n < 4) (p : γ → Nat → Prop) (h : p (sel4 a b c d n) n) : (n = 0 ∧ p a 0) ∨ (n = 1 ∧ p b 1) ∨ (n = 2 ∧ p c 2) ∨ (n = 3 ∧ p d 3) := by
  match n, hn with
  | 0, _ => exact .inl ⟨rfl, h⟩
  | 1, _ => exact .inr (.inl ⟨rfl, h⟩)
  | 2, _ => exact .inr (.inr (.inl ⟨rfl, h⟩))
  | 3, _ => exact .inr (.inr (.inr ⟨rfl, h⟩))
theorem get_nil {α : Type} (i : Nat) : (Tr.nil : Tr α).get i = none := rfl
theorem get_lf {α : Type} (x : Option α) (i : Nat) : (Tr.lf x).get i = if i = 0 then x else none := by cases i <;> rfl
theorem get_nd {α : Type} (a b c d : Tr α) (i : Nat) : (Tr.nd a b c d).get i = if i % 4 = 0 then a.get (i / 4) else if i % 4 = 1 then b.get (i / 4) else if i % 4 = 2 then c.get (i / 4) else d.get (i / 4) := by
  have hlt : i % 4 < 4 := Nat.mod_lt _ (by omega)
  show sel4 (a.get (Nat.div i 4)) (b.get (Nat.div i 4)) (c.get (Nat.div i 4)) (d.get (Nat.div i 4)) (i % 4) = _
  match h : i % 4, hlt with
  | 0, _ => rfl
  | 1, _ => rfl
  | 2, _ => rfl
  | 3, _ => rfl
theorem setK_inv {α : Type} : ∀ (n : Nat) (t : Tr α) (i : Nat) (v : Option α) (k : Tr α → Option β) (r : β), setK n t i v k = some r → ∃ t', k t' = some r ∧ ∀ j, t'.get j = if j = i then v else t.get j
  | 0, t, i, v, k, r, h => by
    have h0 : i = 0 → k (.lf v) = some r → (∀ j, j ≠ 0 → t.get j = none) → ∃ t', k t' = some r ∧ ∀ j, t'.get j = if j = i then v else t.get j := by
      intro hi hk ht
      refine ⟨_, hk, fun j => ?_⟩
      rw [get_lf, hi]
      by_cases hj : j = 0
      · simp [hj]
      · simp [hj, ht j hj]
    cases t with
    | nil => cases i with
      | zero => exact h0 rfl h fun j _ => rfl
      | succ i => cases h
    | lf x => cases i with
      | zero => exact h0 rfl h fun j hj => by rw [get_lf, if_neg hj]
      | succ i => cases h
    | nd a b c d => cases h
  | n + 1, t, i, v, k, r, h => by
    have key : ∀ (a b c d : Tr α), (∀ j, t.get j = (Tr.nd a b c d).get j) →
        sel4 (setK n a (i / 4) v fun a => k (.nd a b c d)) (setK n b (i / 4) v fun b => k (.nd a b c d)) (setK n c (i / 4) v fun c => k (.nd a b c d)) (setK n d (i / 4) v fun d => k (.nd a b c d)) (i % 4) = some r →
        ∃ t', k t' = some r ∧ ∀ j, t'.get j = if j = i then v else t.get j := by
      intro a b c d ht h
      have hlt : i % 4 < 4 := Nat.mod_lt _ (by omega)
      rcases sel4_cases _ _ _ _ (i % 4) hlt (fun x _ => x = some r) h with ⟨hi, h⟩ | ⟨hi, h⟩ | ⟨hi, h⟩ | ⟨hi, h⟩
      all_goals
        obtain ⟨t', hk, hg⟩ := setK_inv n _ _ _ _ _ h
        refine ⟨_, hk, fun j => ?_⟩
        rw [ht j, get_nd, get_nd]
        by_cases hj : j = i
        · subst hj; simp [hi, hg]
        · rw [if_neg hj]
          simp only [hg]
          by_cases hd : j / 4 = i / 4
          · have hm : j % 4 ≠ i % 4 := by omega
            rw [hi] at hm
            have hj4 : j % 4 < 4 := Nat.mod_lt _ (by omega)
            simp only [hd, if_true]
            repeat' split
            all_goals first | rfl | (exfalso; omega)
          · simp [hd]
    cases t with
    | nil => exact key .nil .nil .nil .nil (fun j => by rw [get_nd]; simp [get_nil]) h
    | lf x => cases h
    | nd a b c d => exact key a b c d (fun _ => rfl) h

theorem at?_eq {α : Type} : ∀ (l : List α) (n : Nat), at? l n = l[n]?
  | [], n => by cases n <;> rfl
  | x :: l, 0 => rfl
  | x :: l, n + 1 => by simp only [at?, List.getElem?_cons_succ]; exact at?_eq l n

/-! what abstract values stand for -/
structure Vn where
  ρ : Nat → Option Nat
  ν : Nat → Option Nat
  σ : Nat → Option Int

def concC (V : Vn) : Cap → Option Nat
  | .n c => some c
  | .v j => V.ν j

mutual
def conc (V : Vn) : A → Option Value
  | .lit v => some v
  | .sym k i => (V.σ i).map (.int k)
  | .ptr b o => (V.ρ b).map fun x => .pointer (some ⟨x, o, none⟩)
  | .sl b o n c => (V.ρ b).bind fun x => (concC V c).map fun c => .slice (some ⟨x, o, none⟩) n c
  | .mp b => (V.ρ b).map fun x => .map (some x)
  | .fn f xs ys => (concL V xs).bind fun xs => (concL V ys).map fun ys => .func (.func f) xs.toArray ys.toArray
  | .ifc t x => (conc V x).map (.iface t)
  | .agg l => (concL V l).map fun l => .agg l.toArray
  | .tup l => (concL V l).map fun l => .tuple l.toArray
def concL (V : Vn) : List A → Option (List Value)
  | [] => some []
  | a :: l => (conc V a).bind fun v => (concL V l).map fun vs => v :: vs
end

structure Vn.le (V V' : Vn) : Prop where
  ρ : ∀ b x, V.ρ b = some x → V'.ρ b = some x
  ν : ∀ b x, V.ν b = some x → V'.ν b = some x
  σ : ∀ b x, V.σ b = some x → V'.σ b = some x
theorem Vn.le.refl (V : Vn) : V.le V := ⟨fun _ _ h => h, fun _ _ h => h, fun _ _ h => h⟩
theorem Vn.le.trans {a b c : Vn} (h : a.le b) (g : b.le c) : a.le c := ⟨fun _ _ x => g.ρ _ _ (h.ρ _ _ x), fun _ _ x => g.ν _ _ (h.ν _ _ x), fun _ _ x => g.σ _ _ (h.σ _ _ x)⟩

theorem concC_mono {V V' : Vn} (h : V.le V') {c : Cap} {n : Nat} (hc : concC V c = some n) : concC V' c = some n := by
  cases c with
  | n c => exact hc
  | v j => exact h.ν _ _ hc
mutual
theorem conc_mono {V V' : Vn} (h : V.le V') : ∀ (a : A) (v : Value), conc V a = some v → conc V' a = some v
  | .lit u, v, hv => by simpa [conc] using hv
  | .sym k i, v, hv => by
    simp only [conc, Option.map_eq_some_iff] at hv ⊢
    obtain ⟨x, hx, rfl⟩ := hv; exact ⟨x, h.σ _ _ hx, rfl⟩
  | .ptr b o, v, hv => by
    simp only [conc, Option.map_eq_some_iff] at hv ⊢
    obtain ⟨x, hx, rfl⟩ := hv; exact ⟨x, h.ρ _ _ hx, rfl⟩
  | .sl b o n c, v, hv => by
    simp only [conc, Option.bind_eq_some_iff, Option.map_eq_some_iff] at hv ⊢
    obtain ⟨x, hx, c', hc, rfl⟩ := hv; exact ⟨x, h.ρ _ _ hx, c', concC_mono h hc, rfl⟩
  | .mp b, v, hv => by
    simp only [conc, Option.map_eq_some_iff] at hv ⊢
    obtain ⟨x, hx, rfl⟩ := hv; exact ⟨x, h.ρ _ _ hx, rfl⟩
  | .fn f xs ys, v, hv => by
    simp only [conc, Option.bind_eq_some_iff, Option.map_eq_some_iff] at hv ⊢
    obtain ⟨x, hx, c', hc, rfl⟩ := hv; exact ⟨x, concL_mono h xs _ hx, c', concL_mono h ys _ hc, rfl⟩
  | .ifc t x, v, hv => by
    simp only [conc, Option.map_eq_some_iff] at hv ⊢
    obtain ⟨y, hx, rfl⟩ := hv; exact ⟨y, conc_mono h x _ hx, rfl⟩
  | .agg l, v, hv => by
    simp only [conc, Option.map_eq_some_iff] at hv ⊢
    obtain ⟨x, hx, rfl⟩ := hv; exact ⟨x, concL_mono h l _ hx, rfl⟩
  | .tup l, v, hv => by
    simp only [conc, Option.map_eq_some_iff] at hv ⊢
    obtain ⟨x, hx, rfl⟩ := hv; exact ⟨x, concL_mono h l _ hx, rfl⟩
theorem concL_mono {V V' : Vn} (h : V.le V') : ∀ (l : List A) (vs : List Value), concL V l = some vs → concL V' l = some vs
  | [], vs, hv => by simpa [concL] using hv
  | a :: l, vs, hv => by
    simp only [concL, Option.bind_eq_some_iff, Option.map_eq_some_iff] at hv ⊢
    obtain ⟨v, h1, us, h2, rfl⟩ := hv; exact ⟨v, conc_mono h a v h1, us, concL_mono h l us h2, rfl⟩
end

theorem concL_cons {V : Vn} {a : A} {l : List A} {vs : List Value} (h : concL V (a :: l) = some vs) : ∃ v us, conc V a = some v ∧ concL V l = some us ∧ vs = v :: us := by
  simp only [concL, Option.bind_eq_some_iff, Option.map_eq_some_iff] at h
  obtain ⟨v, h1, us, h2, rfl⟩ := h; exact ⟨v, us, h1, h2, rfl⟩
theorem concL_mk {V : Vn} {a : A} {l : List A} {v : Value} {us : List Value} (h1 : conc V a = some v) (h2 : concL V l = some us) : concL V (a :: l) = some (v :: us) := by
  simp [concL, h1, h2]
theorem concL_length {V : Vn} : ∀ {l : List A} {vs : List Value}, concL V l = some vs → vs.length = l.length
  | [], vs, h => by simp [concL] at h; simp [← h]
  | a :: l, vs, h => by
    obtain ⟨v, us, h1, h2, rfl⟩ := concL_cons h
    simp [concL_length h2]
theorem concL_at {V : Vn} : ∀ {l : List A} {vs : List Value} {i : Nat} {a : A}, concL V l = some vs → l[i]? = some a → ∃ v, conc V a = some v ∧ vs[i]? = some v
  | [], vs, i, a, h, ha => by simp at ha
  | x :: l, vs, i, a, h, ha => by
    obtain ⟨v, us, h1, h2, rfl⟩ := concL_cons h
    cases i with
    | zero => simp at ha; subst ha; exact ⟨v, h1, by simp⟩
    | succ i => simp at ha; obtain ⟨u, h3, h4⟩ := concL_at h2 ha; exact ⟨u, h3, by simpa using h4⟩
theorem concL_append {V : Vn} : ∀ {l m : List A} {vs us : List Value}, concL V l = some vs → concL V m = some us → concL V (l ++ m) = some (vs ++ us)
  | [], m, vs, us, h, g => by simp [concL] at h; subst h; simpa using g
  | x :: l, m, vs, us, h, g => by
    obtain ⟨v, ts, h1, h2, rfl⟩ := concL_cons h
    exact concL_mk h1 (concL_append h2 g)
theorem concL_drop {V : Vn} : ∀ {l : List A} {vs : List Value} (n : Nat), concL V l = some vs → concL V (l.drop n) = some (vs.drop n)
  | l, vs, 0, h => h
  | [], vs, n + 1, h => by simp [concL] at h; subst h; simp [concL]
  | x :: l, vs, n + 1, h => by
    obtain ⟨v, ts, h1, h2, rfl⟩ := concL_cons h
    exact concL_drop n h2
theorem concL_take {V : Vn} : ∀ {l : List A} {vs : List Value} (n : Nat), concL V l = some vs → concL V (l.take n) = some (vs.take n)
  | l, vs, 0, h => by simp [concL]
  | [], vs, n + 1, h => by simp [concL] at h; subst h; simp [concL]
  | x :: l, vs, n + 1, h => by
    obtain ⟨v, ts, h1, h2, rfl⟩ := concL_cons h
    exact concL_mk h1 (concL_take n h2)

/-! states -/
def BlkOk (V : Vn) (w : World) (b : Nat) : Blk → Prop
  | .cells T n z o tail => ∃ c : Array Value, w.heap[b]? = some (.cells c T) ∧ n ≤ c.size ∧ (∀ i a, (Blk.cells T n z o tail).rd i = some a → ∃ v, conc V a = some v ∧ c[i]? = some v) ∧
      match tail with
      | none => True
      | some (j, sz) => ∃ q, V.ν j = some q ∧ c.size = q * sz
  | .map es clock => ∃ es' : List MapEntry, w.heap[b]? = some (.map es'.toArray clock) ∧ es'.length = es.length ∧
      ∀ (i : Nat) e, es[i]? = some e → ∃ e', es'[i]? = some e' ∧ e'.born = e.born ∧ conc V e.key = some e'.key ∧ conc V e.val = some e'.val
  | .iter m since seen stepped => ∃ m', w.heap[b]? = some (.mapIter m' since seen.toArray stepped) ∧ match m with
      | none => m' = none
      | some id => ∃ x, V.ρ id = some x ∧ m' = some x

/-- a block that is there -/
def live (s : St) (id : Nat) : Prop := ∃ B, s.h.get id = some B

structure Rel (V : Vn) (s : St) (w : World) : Prop where
  nb : ∀ id, s.nb ≤ id → V.ρ id = none
  nc : ∀ j, s.nc ≤ j → V.ν j = none
  blk : ∀ id B, s.h.get id = some B → ∃ b, V.ρ id = some b ∧ BlkOk V w b B
  inj : ∀ id id' b, live s id → live s id' → V.ρ id = some b → V.ρ id' = some b → id = id'
  iv : ∀ i r, s.iv[i]? = some r → ∃ x, V.σ i = some x ∧ r.1 ≤ x ∧ x ≤ r.2

/-- from a state and a world to others -/
structure Mv (V : Vn) (s : St) (w : World) (V' : Vn) (s' : St) (w' : World) : Prop where
  ext : V.le V'
  rel : Rel V' s' w'
  frame : ∀ b, b < w.heap.size → (∀ id, live s id → V.ρ id ≠ some b) → w'.heap[b]? = w.heap[b]?
  img : ∀ id b, live s' id → V'.ρ id = some b → (∃ id0, live s id0 ∧ V.ρ id0 = some b) ∨ w.heap.size ≤ b
  rest : SX.Rest w w'
  nf : ∀ a : Addr, w.heap.size ≤ a.block → w'.frozen? a = false

/-- an environment's values -/
def ERel (V : Vn) (E : Tr A) (e : Env) : Prop := ∀ t a, E.get t = some a → ∃ v, conc V a = some v ∧ lk e t = some v

theorem ERel.mono {V V' : Vn} (h : V.le V') {E : Tr A} {e : Env} (he : ERel V E e) : ERel V' E e := fun t a ha => by
  obtain ⟨v, h1, h2⟩ := he t a ha
  exact ⟨v, conc_mono h a v h1, h2⟩

/-! constants and operands -/
theorem ofV1_conc {v : Value} {a : A} (h : ofV1 v = some a) (V : Vn) : conc V a = some v := by
  unfold ofV1 at h
  split at h <;> first | (obtain rfl := Option.some.inj h; rfl) | cases h
theorem ofVsK_inv : ∀ (l : List Value) (k : List A → Option β) (r : β), ofVsK l k = some r → ∃ as, k as = some r ∧ ∀ V, concL V as = some l
  | [], k, r, h => ⟨[], h, fun V => by simp [concL]⟩
  | v :: l, k, r, h => by
    obtain ⟨a, ha, h⟩ := oK_inv h
    obtain ⟨as, hk, hl⟩ := ofVsK_inv l _ r h
    exact ⟨a :: as, hk, fun V => concL_mk (ofV1_conc ha V) (hl V)⟩
theorem ofVK_inv {v : Value} {k : A → Option β} {r : β} (h : ofVK v k = some r) : ∃ a, k a = some r ∧ ∀ V, conc V a = some v := by
  unfold ofVK at h
  split at h
  · obtain ⟨as, hk, hl⟩ := ofVsK_inv _ _ _ h
    exact ⟨_, hk, fun V => by simp [conc, hl V]⟩
  · obtain ⟨a, ha, h⟩ := oK_inv h
    exact ⟨a, h, fun V => ofV1_conc ha V⟩

theorem evK_inv {E : Tr A} {x : Operand} {k : A → Option β} {r : β} (h : evK E x k = some r) : ∃ a, k a = some r ∧ ∀ V e, ERel V E e → ∃ v, conc V a = some v ∧ evo e x = some v := by
  unfold evK at h
  split at h
  · obtain ⟨a, ha, h⟩ := oK_inv h
    exact ⟨a, h, fun V e he => he _ _ ha⟩
  · obtain ⟨a, h, ha⟩ := ofVK_inv h
    exact ⟨a, h, fun V e he => ⟨_, ha V, rfl⟩⟩
  · exact ⟨_, h, fun V e he => ⟨_, by simp [conc, concL], rfl⟩⟩
  · cases h
theorem evsK_inv {E : Tr A} : ∀ (l : List Operand) (k : List A → Option β) (r : β), evsK E l k = some r → ∃ as, k as = some r ∧ ∀ V e, ERel V E e → ∃ vs, concL V as = some vs ∧ evs (evo e) l = some vs
  | [], k, r, h => ⟨[], h, fun V e he => ⟨[], by simp [concL], rfl⟩⟩
  | x :: l, k, r, h => by
    obtain ⟨a, h, ha⟩ := evK_inv (show evK E x (fun a => evsK E l fun as => k (a :: as)) = some r from h)
    obtain ⟨as, h, has⟩ := evsK_inv l _ r h
    refine ⟨a :: as, h, fun V e he => ?_⟩
    obtain ⟨v, h1, h2⟩ := ha V e he
    obtain ⟨vs, h3, h4⟩ := has V e he
    exact ⟨v :: vs, concL_mk h1 h3, by simp [evs, h2, h4]⟩
/-- parts with their places -/
def PL (V : Vn) (ps : List (Nat × A)) (us : List (Nat × Value)) : Prop := us.map (·.1) = ps.map (·.1) ∧ concL V (ps.map (·.2)) = some (us.map (·.2))
theorem evpsK_inv {E : Tr A} : ∀ (l : List (Nat × Operand)) (k : List (Nat × A) → Option β) (r : β), evpsK E l k = some r → ∃ as, k as = some r ∧ ∀ V e, ERel V E e → ∃ vs, PL V as vs ∧ evps (evo e) l = some vs
  | [], k, r, h => ⟨[], h, fun V e he => ⟨[], ⟨rfl, by simp [concL]⟩, rfl⟩⟩
  | (i, x) :: l, k, r, h => by
    obtain ⟨a, h, ha⟩ := evK_inv (show evK E x (fun a => evpsK E l fun as => k ((i, a) :: as)) = some r from h)
    obtain ⟨as, h, has⟩ := evpsK_inv l _ r h
    refine ⟨(i, a) :: as, h, fun V e he => ?_⟩
    obtain ⟨v, h1, h2⟩ := ha V e he
    obtain ⟨vs, h3, h4⟩ := has V e he
    exact ⟨(i, v) :: vs, ⟨by simp [h3.1], by simpa using concL_mk h1 h3.2⟩, by simp [evps, h2, h4]⟩

end Go.XC
