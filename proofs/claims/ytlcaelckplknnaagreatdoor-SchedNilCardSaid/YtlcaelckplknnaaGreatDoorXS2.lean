/- XS: the executor is sound: quiet operations. -/
import Derived.Test.YtlcaelckplknnaaGreatDoorXS1
import Derived.MapKept
set_option linter.unusedVariables false
set_option linter.unusedSimpArgs false
namespace Go.XC
open Go Go.SX
variable {β : Type} {P : Program}

theorem cell_at {w : World} {x i : Nat} {c : Array Value} {T : TypeId} {fz : Nat × Nat} (h : w.heap[x]? = some (.cells c T fz)) : w.cell? ⟨x, i, none⟩ = c[i]? := by
  unfold World.cell?; simp [h]

theorem rd_sound {V : Vn} {s : St} {w : World} (hR : Rel V s w) {b i x : Nat} {B : Blk} {a : A} (hB : s.h.get b = some B) (ha : B.rd i = some a) (hx : V.ρ b = some x) :
    ∃ v, conc V a = some v ∧ w.cell? ⟨x, i, none⟩ = some v := by
  obtain ⟨x', hx', hok⟩ := hR.blk b B hB
  rw [hx] at hx'; obtain rfl := Option.some.inj hx'
  cases B with
  | cells T n z o tail =>
    obtain ⟨c, h1, h2, h3, _⟩ := hok
    obtain ⟨v, h4, h5⟩ := h3 i a ha
    exact ⟨v, h4, by rw [cell_at h1]; exact h5⟩
  | map es c => cases ha
  | iter m a b c => cases ha

theorem rdK_inv {s : St} {b i : Nat} {k : A → Option β} {r : β} (h : rdK s b i k = some r) :
    ∃ a, k a = some r ∧ (∃ B, s.h.get b = some B ∧ B.rd i = some a) := by
  obtain ⟨B, hB, h⟩ := oK_inv h
  obtain ⟨a, ha, h⟩ := oK_inv h
  exact ⟨a, h, B, hB, ha⟩
theorem rdNK_inv {s : St} {b : Nat} : ∀ (n i : Nat) (k : List A → Option β) (r : β), rdNK s b i n k = some r →
    ∃ as, k as = some r ∧ as.length = n ∧ ∀ j a, as[j]? = some a → ∃ B, s.h.get b = some B ∧ B.rd (i + j) = some a
  | 0, i, k, r, h => ⟨[], h, rfl, fun j a ha => by simp at ha⟩
  | n + 1, i, k, r, h => by
    obtain ⟨a, h, B, hB, ha⟩ := rdK_inv h
    obtain ⟨as, h, hl, hr⟩ := rdNK_inv n _ _ _ h
    refine ⟨a :: as, h, by simp [hl], fun j a' ha' => ?_⟩
    cases j with
    | zero => simp at ha'; subst ha'; exact ⟨B, hB, ha⟩
    | succ j =>
      simp at ha'
      obtain ⟨B', h1, h2⟩ := hr j a' ha'
      exact ⟨B', h1, by rw [show i + (j + 1) = Nat.succ i + j by omega]; exact h2⟩
/-- what was read, in the world -/
theorem rdN_sound' {V : Vn} {s : St} {w : World} (hR : Rel V s w) {b x : Nat} (hx : V.ρ b = some x) : ∀ (as : List A) (i : Nat), (∀ (j : Nat) a, as[j]? = some a → ∃ B, s.h.get b = some B ∧ B.rd (i + j) = some a) →
    ∃ vs, concL V as = some vs ∧ ∀ j, j < as.length → w.cell? ⟨x, i + j, none⟩ = vs[j]?
  | [], i, h => ⟨[], by simp [concL], fun j hj => by simp at hj⟩
  | a :: as, i, h => by
    obtain ⟨B, hB, ha⟩ := h 0 a rfl
    obtain ⟨v, h1, h2⟩ := rd_sound hR hB ha hx
    obtain ⟨vs, h3, h4⟩ := rdN_sound' hR hx as (i + 1) (fun j a' ha' => by
      have := h (j + 1) a' (by simpa using ha')
      rw [show i + 1 + j = i + (j + 1) by omega]; exact this)
    refine ⟨v :: vs, concL_mk h1 h3, fun j hj => ?_⟩
    cases j with
    | zero => simpa using h2
    | succ j => rw [show i + (j + 1) = i + 1 + j by omega, h4 j (by simpa using hj)]; simp

theorem okS_sound {V : Vn} {s : Srt} {a : A} {v : Value} (h : okS s a = true) (hv : conc V a = some v) : ∃ d : s.D, v = s.val d := by
  cases s
  case kv => exact ⟨v, rfl⟩
  all_goals
    cases a
    case lit u =>
      simp only [conc, Option.some.injEq] at hv; subst hv
      cases u <;> first | (exact ⟨_, rfl⟩) | (simp [okS] at h; done) | skip
      all_goals first
        | (have h' := beqK_eq h; subst h'; exact ⟨_, rfl⟩)
        | (rename_i k1 k2 n; have : k1 = k2 := by (cases k1 <;> cases k2 <;> first | rfl | (simp [okS, beqFK] at h))
           subst this; exact ⟨_, rfl⟩)
        | (exact ⟨⟨_, _, _⟩, rfl⟩)
    case sym k i =>
      first
      | (have h' := beqK_eq h; subst h'; simp only [conc, Option.map_eq_some_iff] at hv; obtain ⟨x, _, rfl⟩ := hv; exact ⟨x, rfl⟩)
      | (simp [okS] at h; done)
    case ptr b o =>
      first
      | (simp [okS] at h; done)
      | (simp only [conc, Option.map_eq_some_iff] at hv; obtain ⟨x, _, rfl⟩ := hv; exact ⟨some ⟨x, o, none⟩, rfl⟩)
    case sl b o n c =>
      first
      | (simp [okS] at h; done)
      | (simp only [conc, Option.bind_eq_some_iff, Option.map_eq_some_iff] at hv; obtain ⟨x, _, c', _, rfl⟩ := hv; exact ⟨⟨some ⟨x, o, none⟩, n, c'⟩, rfl⟩)
    case mp b =>
      first
      | (simp [okS] at h; done)
      | (simp only [conc, Option.map_eq_some_iff] at hv; obtain ⟨x, _, rfl⟩ := hv; exact ⟨some x, rfl⟩)
    all_goals (simp [okS] at h; done)

theorem ldA_of {V : Vn} {w : World} {x o : Nat} {K : List Value → M} : ∀ (ss : List Srt) (as : List A) (vs : List Value) (i : Nat), okSs ss as = true → concL V as = some vs → (∀ j, j < as.length → w.cell? ⟨x, o + (i + j), none⟩ = vs[j]?) →
    K vs w → ldA ss ⟨x, o, none⟩ i K w
  | [], [], vs, i, _, hv, _, hK => by simp [concL] at hv; subst hv; exact hK
  | s :: ss, a :: as, vs, i, h, hv, hc, hK => by
    obtain ⟨v, us, h1, h2, rfl⟩ := concL_cons hv
    unfold okSs at h
    split at h
    case h_2 => cases h
    rename_i h0
    obtain ⟨d, rfl⟩ := okS_sound h0 h1
    refine ⟨d, ?_, ?_⟩
    · rw [add_mk]; simpa using hc 0 (by simp)
    · refine ldA_of (K := fun vs => K (s.val d :: vs)) ss as us (i + 1) h h2 (fun j hj => ?_) hK
      have := hc (j + 1) (by simpa using hj)
      rw [show o + (i + 1 + j) = o + (i + (j + 1)) by omega, this]; simp
  | [], _ :: _, _, _, h, _, _, _ => by cases h
  | _ :: _, [], _, _, h, _, _, _ => by cases h

theorem loadX_inv {s : St} {T : TypeId} {b o : Nat} {k : A → Option β} {r : β} (h : loadX P s T b o k = some r) :
    ∃ a, k a = some r ∧ ∀ V w x (K : Value → M), Rel V s w → V.ρ b = some x → (∀ v, conc V a = some v → K v w) → loadM P T ⟨x, o, none⟩ K w := by
  unfold loadX at h
  split at h
  · rename_i hg
    split at h
    · rename_i ss n h1 h2
      obtain ⟨h3, h⟩ := ck_inv h
      obtain ⟨as, h, hl, hr⟩ := rdNK_inv _ _ _ _ h
      obtain ⟨h4, h⟩ := ck_inv h
      refine ⟨_, h, fun V w x K hR hx hK => ?_⟩
      obtain ⟨vs, h5, h6⟩ := rdN_sound' hR hx as o hr
      unfold loadM
      rw [hg, h1, h2]
      simp only [h3]
      refine ldA_of (V := V) ss as vs 0 h4 h5 (fun j hj => by rw [Nat.zero_add]; exact h6 j hj) ?_
      exact hK _ (by simp [conc, h5])
    · cases h
  · rename_i hg
    split at h
    · rename_i d hd
      obtain ⟨a, h, B, hB, ha⟩ := rdK_inv h
      obtain ⟨h4, h⟩ := ck_inv h
      refine ⟨_, h, fun V w x K hR hx hK => ?_⟩
      obtain ⟨v, h5, h6⟩ := rd_sound hR hB ha hx
      unfold loadM
      rw [hg, hd]
      obtain ⟨e, rfl⟩ := okS_sound h4 h5
      exact ⟨e, h6, hK _ h5⟩
    · cases h
  · cases h

/-! numbers -/
theorem leI_iff' {a b : Int} : leI a b = true ↔ a ≤ b := by simp [leI]
theorem ltI_iff' {a b : Int} : ltI a b = true ↔ a < b := by simp [ltI]
theorem eqI_iff' {a b : Int} : eqI a b = true ↔ a = b := by simp [eqI]
theorem neI_iff' {a b : Int} : neI a b = true ↔ a ≠ b := by simp [neI]

theorem intX_inv {op : BinOp} {kd : IntKind} {x y : Int} {k : A → Option β} {r : β} (h : intX op kd x y k = some r) :
    ∃ u, k (.lit u) = some r ∧ ∀ (K : Value → M) w, K u w → intM op kd x y K w := by
  cases op
  case quo => obtain ⟨h1, h⟩ := ck_inv h; exact ⟨_, retI_inv h, fun K w hK => ⟨neI_iff'.1 h1, hK⟩⟩
  case rem => obtain ⟨h1, h⟩ := ck_inv h; exact ⟨_, retI_inv h, fun K w hK => ⟨neI_iff'.1 h1, hK⟩⟩
  case shl => obtain ⟨h1, h⟩ := ck_inv h; exact ⟨_, retI_inv h, fun K w hK => ⟨leI_iff'.1 h1, hK⟩⟩
  case shr => obtain ⟨h1, h⟩ := ck_inv h; exact ⟨_, retI_inv h, fun K w hK => ⟨leI_iff'.1 h1, hK⟩⟩
  all_goals first
    | exact ⟨_, retI_inv h, fun K w hK => hK⟩
    | exact ⟨_, retB_inv h, fun K w hK => hK⟩

theorem symX_inv {op : BinOp} {kd : IntKind} {lo hi y : Int} {k : A → Option β} {r : β} (h : symX op kd lo hi y k = some r) :
    ∃ u, k (.lit u) = some r ∧ ∀ (K : Value → M) w x, lo ≤ x → x ≤ hi → K u w → intM op kd x y K w := by
  have hlt : ∀ {a b : Int}, a < b → ltI a b = true := fun h => ltI_iff'.2 h
  have hle : ∀ {a b : Int}, a ≤ b → leI a b = true := fun h => leI_iff'.2 h
  have hnlt : ∀ {a b : Int}, b ≤ a → ltI a b = false := fun h => by simp [ltI]; exact h
  have hnle : ∀ {a b : Int}, b < a → leI a b = false := fun h => by simp [leI]; exact h
  have hne : ∀ {a b : Int}, a ≠ b → eqI a b = false := fun h => by simp [eqI, h]
  have hnn : ∀ {a b : Int}, a ≠ b → neI a b = true := fun h => neI_iff'.2 h
  cases op
  case quo =>
    obtain ⟨h1, h⟩ := ck_inv h
    obtain ⟨h2, h⟩ := ck_inv h
    obtain ⟨h3, h⟩ := ck_inv h
    refine ⟨_, retI_inv h, fun K w x hl hh hK => ?_⟩
    have h1 := ltI_iff'.1 h1; have h2 := leI_iff'.1 h2; have h3 := eqI_iff'.1 h3
    refine ⟨by omega, ?_⟩
    have e1 : x.tdiv y = x / y := Int.tdiv_eq_ediv_of_nonneg (by omega)
    have e2 : lo / y ≤ x / y := Int.ediv_le_ediv h1 hl
    have e3 : x / y ≤ hi / y := Int.ediv_le_ediv h1 hh
    have e4 : x / y = lo / y := by omega
    rw [e1, e4]; exact hK
  all_goals (simp only [symX] at h)
  all_goals first | (cases h; done) | skip
  all_goals
    split at h
    · rename_i g; simp only [ltI_iff', leI_iff'] at g
      refine ⟨_, h, fun K w x hl hh hK => ?_⟩
      simp only [intM]
      first
      | (rw [hlt (by omega)]; exact hK)
      | (rw [hle (by omega)]; exact hK)
      | (rw [hne (by omega)]; exact hK)
      | (rw [hnn (by omega)]; exact hK)
    · rename_i g _; simp only [ltI_iff', leI_iff'] at g
      refine ⟨_, h, fun K w x hl hh hK => ?_⟩
      simp only [intM]
      first
      | (rw [hnlt (by omega)]; exact hK)
      | (rw [hnle (by omega)]; exact hK)
      | (rw [hne (by omega)]; exact hK)
      | (rw [hnn (by omega)]; exact hK)
    · cases h

theorem litsK_inv : ∀ (l : List A) (k : List Value → Option β) (r : β), litsK l k = some r → ∃ vs, k vs = some r ∧ ∀ V, concL V l = some vs
  | [], k, r, h => ⟨[], h, fun V => by simp [concL]⟩
  | a :: l, k, r, h => by
    cases a
    case lit v =>
      obtain ⟨vs, h1, h2⟩ := litsK_inv l _ r h
      exact ⟨v :: vs, h1, fun V => concL_mk (by simp [conc]) (h2 V)⟩
    all_goals cases h

theorem negX_inv {neg b : Bool} {k : A → Option β} {r : β} (h : negX neg b k = some r) : ∃ u, k (.lit u) = some r ∧ ∀ (K : Value → M) w, K u w → eqOut neg K b w := by
  cases neg
  · exact ⟨_, retB_inv h, fun K w hK => hK⟩
  · exact ⟨_, retB_inv h, fun K w hK => hK⟩

theorem eqX_inv {T : TypeId} {neg : Bool} {x y : A} {k : A → Option β} {r : β} (h : eqX P T neg x y k = some r) :
    ∃ u, k (.lit u) = some r ∧ ∀ (K : Value → M) w V a b, conc V x = some a → conc V y = some b → K u w → eqM P T neg a b K w := by
  unfold eqX at h
  split at h
  · split at h
    · rename_i hu
      obtain ⟨u, h1, h2⟩ := negX_inv h
      refine ⟨u, h1, fun K w V a b ha hb hK => ?_⟩
      simp only [conc, Option.some.injEq] at ha hb; subst ha hb
      simp only [eqM, hu]; exact ⟨rfl, h2 K w hK⟩
    · rename_i hu
      obtain ⟨u, h1, h2⟩ := negX_inv h
      refine ⟨u, h1, fun K w V a b ha hb hK => ?_⟩
      simp only [conc, Option.some.injEq, Option.bind_eq_some_iff, Option.map_eq_some_iff] at ha hb; subst hb
      obtain ⟨xs, _, ys, _, rfl⟩ := ha
      simp only [eqM, hu]; exact ⟨rfl, h2 K w hK⟩
    · cases h
  · split at h
    · rename_i hu
      obtain ⟨u, h1, h2⟩ := negX_inv h
      refine ⟨u, h1, fun K w V a b ha hb hK => ?_⟩
      simp only [conc, Option.some.injEq] at ha hb; subst ha hb
      simp only [eqM, hu]; exact h2 K w hK
    · cases h
  · split at h
    · rename_i hu
      obtain ⟨u, h1, h2⟩ := negX_inv h
      refine ⟨u, h1, fun K w V a b ha hb hK => ?_⟩
      simp only [conc, Option.some.injEq] at ha hb; subst ha hb
      simp only [eqM, hu]; exact h2 K w hK
    · rename_i hu
      obtain ⟨u, h1, h2⟩ := negX_inv h
      refine ⟨u, h1, fun K w V a b ha hb hK => ?_⟩
      simp only [conc, Option.some.injEq, Option.map_eq_some_iff] at ha hb; subst hb
      obtain ⟨x, _, rfl⟩ := ha
      simp only [eqM, hu]; exact h2 K w hK
    · cases h
  · split at h
    · rename_i hu
      obtain ⟨u, h1, h2⟩ := negX_inv h
      refine ⟨u, h1, fun K w V a b ha hb hK => ?_⟩
      simp only [conc, Option.some.injEq] at ha hb; subst ha hb
      simp only [eqM, hu]; exact h2 K w hK
    · rename_i hu
      obtain ⟨u, h1, h2⟩ := negX_inv h
      refine ⟨u, h1, fun K w V a b ha hb hK => ?_⟩
      simp only [conc, Option.some.injEq, Option.bind_eq_some_iff, Option.map_eq_some_iff] at ha hb; subst hb
      obtain ⟨x, _, c, _, rfl⟩ := ha
      simp only [eqM, hu]; exact h2 K w hK
    · cases h
  · split at h
    · rename_i hu
      obtain ⟨u, h1, h2⟩ := negX_inv h
      refine ⟨u, h1, fun K w V a b ha hb hK => ?_⟩
      simp only [conc, Option.some.injEq] at ha hb; subst ha hb
      simp only [eqM, hu]; exact h2 K w hK
    · rename_i hu
      obtain ⟨u, h1, h2⟩ := negX_inv h
      refine ⟨u, h1, fun K w V a b ha hb hK => ?_⟩
      simp only [conc, Option.some.injEq, Option.map_eq_some_iff] at ha hb; subst hb
      obtain ⟨x, _, rfl⟩ := ha
      simp only [eqM, hu]; exact h2 K w hK
    · cases h
  · split at h
    · obtain ⟨vs, h, hvs⟩ := litsK_inv _ _ _ h
      obtain ⟨us, h, hus⟩ := litsK_inv _ _ _ h
      obtain ⟨b, hb, h⟩ := oK_inv h
      obtain ⟨u, h1, h2⟩ := negX_inv h
      refine ⟨u, h1, fun K w V a b ha hb' hK => ?_⟩
      simp only [conc, hvs, hus, Option.map_some, Option.some.injEq] at ha hb'; subst ha hb'
      simp only [eqM, hb]; exact h2 K w hK
    · cases h
  · cases h

theorem binX_inv {s : St} {op : BinOp} {T : TypeId} {x y : A} {k : A → Option β} {r : β} (h : binX P s op T x y k = some r) :
    ∃ u, k (.lit u) = some r ∧ ∀ (K : Value → M) w V a b, Rel V s w → conc V x = some a → conc V y = some b → K u w → binM P op T a b K w := by
  unfold binX at h
  split at h
  · rename_i kd a kd' b
    have fin : ∀ {op : BinOp}, op ≠ .shl → op ≠ .shr → ck (beqK kd kd') (intX op kd a b k) = some r → ∃ u, k (.lit u) = some r ∧ ∀ (K : Value → M) w V a' b', Rel V s w → conc V (.lit (.int kd a)) = some a' → conc V (.lit (.int kd' b)) = some b' → K u w → binM P op T a' b' K w := by
      intro op n1 n2 h
      obtain ⟨h1, h⟩ := ck_inv h
      obtain ⟨u, h2, h3⟩ := intX_inv h
      refine ⟨u, h2, fun K w V a' b' _ ha hb hK => ?_⟩
      simp only [conc, Option.some.injEq] at ha hb; subst ha hb
      cases op <;> first | exact absurd rfl n1 | exact absurd rfl n2 | (simp only [binM, h1]; exact h3 K w hK)
    split at h
    · obtain ⟨u, h2, h3⟩ := intX_inv h
      refine ⟨u, h2, fun K w V a' b' _ ha hb hK => ?_⟩
      simp only [conc, Option.some.injEq] at ha hb; subst ha hb
      simp only [binM]; exact h3 K w hK
    · obtain ⟨u, h2, h3⟩ := intX_inv h
      refine ⟨u, h2, fun K w V a' b' _ ha hb hK => ?_⟩
      simp only [conc, Option.some.injEq] at ha hb; subst ha hb
      simp only [binM]; exact h3 K w hK
    · rename_i n1 n2; exact fin (fun e => n1 e) (fun e => n2 e) h
  · rename_i kd i kd' b
    obtain ⟨h1, h⟩ := ck_inv h
    obtain ⟨rg, hi, h⟩ := oK_inv h
    obtain ⟨u, h2, h3⟩ := symX_inv h
    refine ⟨u, h2, fun K w V a' b' hR ha hb hK => ?_⟩
    simp only [conc, Option.some.injEq, Option.map_eq_some_iff] at ha hb; subst hb
    obtain ⟨x, hx, rfl⟩ := ha
    rw [at?_eq] at hi
    obtain ⟨x', hx', h4, h5⟩ := hR.iv i rg hi
    rw [hx] at hx'; obtain rfl := Option.some.inj hx'
    have := h3 K w x h4 h5 hK
    have hsh : op ≠ .shl ∧ op ≠ .shr := by
      constructor <;> (intro e; subst e; simp only [symX] at h; cases h)
    cases op <;> first | exact absurd rfl hsh.1 | exact absurd rfl hsh.2 | (simp only [binM, h1]; exact this)
  · have key : ∀ {neg : Bool} {op : BinOp} {x y : A}, op = (bif neg then BinOp.neq else BinOp.eql) → eqX P T neg x y k = some r → ∃ u, k (.lit u) = some r ∧ ∀ (K : Value → M) w V a b, Rel V s w → conc V x = some a → conc V y = some b → K u w → binM P op T a b K w := by
      intro neg op x y hop h
      obtain ⟨u, h2, h3⟩ := eqX_inv h
      refine ⟨u, h2, fun K w V a b hR ha hb hK => ?_⟩
      have h4 := h3 K w V a b ha hb hK
      have hb0 : ∀ kd n, b ≠ .int kd n := by
        intro kd n e; subst e
        unfold eqM at h4; exact h4
      cases neg <;> simp only [cond_true, cond_false] at hop <;> subst hop
      all_goals
        unfold binM
        split
        · exact h4
        · split
          · exact absurd rfl (hb0 _ _)
          · exact h4
    split at h
    · exact key (neg := false) rfl h
    · exact key (neg := true) rfl h
    · cases h

end Go.XC
