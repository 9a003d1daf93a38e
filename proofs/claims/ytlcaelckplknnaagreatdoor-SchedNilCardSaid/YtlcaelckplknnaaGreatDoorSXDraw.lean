/- SX: regions that draw their order: quiet operations first; what does something keeps what was read. -/
import Derived.Test.YtlcaelckplknnaaGreatDoorSXReg
set_option linter.unusedVariables false
set_option linter.unusedSimpArgs false
namespace Go.SX
open Go

variable {P : Program} {ops : Array Oper} {B : Array Nat}

/-- operation i yields v, reading rs -/
def YI (P : Program) (ops : Array Oper) (o : Oper) (v : Value) (rs : List Rd) (a : Act) (w : World) : Prop :=
  (Region.wanted o (yielded ops a.tmps) = true ∧ Ylds P o a.eval rs w v) ∨ (Region.wanted o (yielded ops a.tmps) = false ∧ v = undef ∧ rs = [])

abbrev Lds := List (Nat × List Rd)
def Keep (B : Array Nat) (i : Nat) (lds : Lds) (w w' : World) : Prop := ∀ r ∈ keeps (B.getD i 0) lds, r.same w w'

def can (P : Program) (ops : Array Oper) (B : Array Nat) (Q : Exit → Act → World → Prop) : Nat → Array Bool → Lds → Act → World → Prop
  | 0, _, _, _, _ => False
  | fuel + 1, listed, lds, a, w =>
    match Region.ready .any ops listed with
    | [] => Q .normal a w
    | r :: rs => match firstQ (quietAt P ops) (r :: rs) with
      | some i => ∃ o v rd, ops[i]? = some o ∧ YI P ops o v rd a w ∧ can P ops B Q fuel (listed.setIfInBounds i true) ((i, rd) :: lds) (a.put o.dst v) w
      | none => ∀ i ∈ r :: rs, wpOp P ops Q i (fun a' w' => Rest w w' ∧ Keep B i lds w w' ∧ can P ops B Q fuel (listed.setIfInBounds i true) lds a' w') a w

theorem mem_keeps {b : Nat} {r : Rd} : ∀ {lds : Lds}, r ∈ keeps b lds ↔ ∃ l rs, (l, rs) ∈ lds ∧ b.testBit l = false ∧ r ∈ rs
  | [] => by simp [keeps]
  | (l, rs) :: t => by
    simp only [keeps]
    cases hb : b.testBit l with
    | true =>
      simp only [mem_keeps (lds := t)]
      constructor
      · rintro ⟨l', rs', h1, h2, h3⟩; exact ⟨l', rs', List.mem_cons_of_mem _ h1, h2, h3⟩
      · rintro ⟨l', rs', h1, h2, h3⟩
        cases h1 with
        | head => rw [hb] at h2; cases h2
        | tail _ h1 => exact ⟨l', rs', h1, h2, h3⟩
    | false =>
      simp only [List.mem_append, mem_keeps (lds := t)]
      constructor
      · rintro (h | ⟨l', rs', h1, h2, h3⟩)
        · exact ⟨l, rs, List.mem_cons_self, hb, h⟩
        · exact ⟨l', rs', List.mem_cons_of_mem _ h1, h2, h3⟩
      · rintro ⟨l', rs', h1, h2, h3⟩
        cases h1 with
        | head => exact .inl h3
        | tail _ h1 => exact .inr ⟨l', rs', h1, h2, h3⟩

theorem can_congr {Q : Exit → Act → World → Prop} : ∀ (f : Nat) (listed : Array Bool) (lds lds' : Lds) (a : Act) (w : World), (∀ x, x ∈ lds ↔ x ∈ lds') → can P ops B Q f listed lds a w → can P ops B Q f listed lds' a w
  | 0, _, _, _, _, _, _, h => h
  | f + 1, listed, lds, lds', a, w, hl, h => by
    unfold can at h ⊢
    cases hr : Region.ready .any ops listed with
    | nil => simp only [hr] at h ⊢; exact h
    | cons r rs =>
      simp only [hr] at h ⊢
      cases hq : firstQ (quietAt P ops) (r :: rs) with
      | some i =>
        simp only [hq] at h ⊢
        obtain ⟨o, v, rd, h1, h2, h3⟩ := h
        exact ⟨o, v, rd, h1, h2, can_congr f _ _ _ _ _ (fun x => by simp [hl x]) h3⟩
      | none =>
        simp only [hq] at h ⊢
        intro i hi
        refine wpOp_mono (fun a' w' hh => ⟨hh.1, fun r hr => ?_, can_congr f _ _ _ _ _ hl hh.2.2⟩) (h i hi)
        refine hh.2.1 r ?_
        rw [mem_keeps] at hr ⊢
        obtain ⟨l, rs', h1, h2, h3⟩ := hr
        exact ⟨l, rs', (hl _).2 h1, h2, h3⟩

theorem firstQ_some {q : Nat → Bool} : ∀ {l : List Nat} {i : Nat}, firstQ q l = some i → i ∈ l ∧ q i = true
  | x :: l, i, h => by
    simp only [firstQ] at h
    cases hx : q x with
    | true => simp only [hx, Option.some.injEq] at h; subst h; exact ⟨List.mem_cons_self, hx⟩
    | false => simp only [hx] at h; exact ⟨List.mem_cons_of_mem _ (firstQ_some h).1, (firstQ_some h).2⟩
theorem firstQ_none {q : Nat → Bool} : ∀ {l : List Nat}, firstQ q l = none → ∀ i ∈ l, q i = false
  | x :: l, h, i, hi => by
    simp only [firstQ] at h
    cases hx : q x with
    | true => simp only [hx] at h; cases h
    | false =>
      simp only [hx] at h
      cases hi with
      | head => exact hx
      | tail _ hi => exact firstQ_none h i hi

/-- the region's look, as a statement -/
structure Fine (ops : Array Oper) (B : Array Nat) : Prop where
  sel : ∀ (j : Nat) (o : Oper) cs b, ops[j]? = some o → o.op ≠ .select cs b
  apart : ∀ (i j : Nat) (oi oj : Oper), ops[i]? = some oi → ops[j]? = some oj → i ≠ j → (∀ e ∈ oi.after, Region.binds .any e = true → e.on ≠ j) → (∀ e ∈ oj.after, Region.binds .any e = true → e.on ≠ i) → oi.apart ops oj = true
  just : ∀ (i : Nat) (oi : Oper), ops[i]? = some oi → ∀ j, j < i → (B.getD i 0).testBit j = true → ∃ e ∈ oi.after, Region.binds .any e = true ∧ (e.on = j ∨ (j < e.on ∧ (B.getD e.on 0).testBit j = true))
  back : ∀ (i : Nat) (oi : Oper), ops[i]? = some oi → ∀ e ∈ oi.after, Region.binds .any e = true → e.on < i
  low : ∀ (i : Nat) (oi : Oper), ops[i]? = some oi → B.getD i 0 < 2 ^ i

/-- what stands ahead of what is listed is listed -/
def Closed (ops : Array Oper) (listed : Array Bool) : Prop :=
  ∀ j oj, ops[j]? = some oj → listed.getD j false = true → ∀ e ∈ oj.after, Region.binds .any e = true → listed.getD e.on false = true

theorem Closed.set {listed : Array Bool} (h : Closed ops listed) {i : Nat} (hi : i ∈ Region.ready .any ops listed) : Closed ops (listed.setIfInBounds i true) := by
  intro j oj hj hl e he hb
  by_cases hij : i = j
  · subst hij
    obtain ⟨h0, o, ho, hall⟩ := mem_ready.1 hi
    rw [hj] at ho
    obtain rfl := Option.some.inj ho
    exact getD_set_true (hall e he hb)
  · rw [getD_set_ne false hij] at hl
    exact getD_set_true (h j oj hj hl e he hb)

/-- the bits of what is ready are listed -/
theorem bits_listed (hF : Fine ops B) {listed : Array Bool} (hc : Closed ops listed) : ∀ (i : Nat) (oi : Oper), ops[i]? = some oi → (∀ e ∈ oi.after, Region.binds .any e = true → listed.getD e.on false = true) →
    ∀ j, j < i → (B.getD i 0).testBit j = true → listed.getD j false = true := by
  intro i
  induction i using Nat.strongRecOn with
  | _ i ih =>
    intro oi hi hall j hj hb
    obtain ⟨e, he, hbi, h⟩ := hF.just i oi hi j hj hb
    have hel := hall e he hbi
    rcases h with h | ⟨hje, h⟩
    · rw [← h]; exact hel
    · have hlt := hF.back i oi hi e he hbi
      rcases hoe : ops[e.on]? with _ | oe
      · have hsz : ops.size ≤ e.on := by
          rcases Nat.lt_or_ge e.on ops.size with h' | h'
          · rw [Array.getElem?_eq_getElem h'] at hoe; cases hoe
          · exact h'
        have := (Array.getElem?_eq_some_iff.1 hi).1
        omega
      · exact ih e.on hlt oe hoe (hc e.on oe hoe hel) j hje h

/-- what is not listed stands not ahead of what is ready -/
theorem not_ahead (hF : Fine ops B) {listed : Array Bool} (hc : Closed ops listed) {i q : Nat} (hi : i ∈ Region.ready .any ops listed) (hq : q ∈ Region.ready .any ops listed) : (B.getD i 0).testBit q = false := by
  obtain ⟨h0, oi, hoi, hall⟩ := mem_ready.1 hi
  obtain ⟨g0, oq, hoq, _⟩ := mem_ready.1 hq
  by_cases hqi : q < i
  · cases hb : (B.getD i 0).testBit q with
    | false => rfl
    | true =>
      have := bits_listed hF hc i oi hoi hall q hqi hb
      rcases Nat.lt_or_ge q listed.size with h' | h'
      · simp [h'] at g0 this; rw [g0] at this; cases this
      · simp [Array.getElem?_eq_none h'] at this
  · have h1 := hF.low i oi hoi
    exact Nat.testBit_lt_two_pow (Nat.lt_of_lt_of_le h1 (Nat.pow_le_pow_right (by omega) (by omega)))

theorem both_apart (hF : Fine ops B) {listed : Array Bool} {i j : Nat} {oi oj : Oper} (hoi : ops[i]? = some oi) (hoj : ops[j]? = some oj) (hi : i ∈ Region.ready .any ops listed) (hj : j ∈ Region.ready .any ops listed) (hne : i ≠ j) : oi.apart ops oj = true := by
  have g : ∀ {i j : Nat} {oi : Oper}, ops[i]? = some oi → i ∈ Region.ready .any ops listed → j ∈ Region.ready .any ops listed → ∀ e ∈ oi.after, Region.binds .any e = true → e.on ≠ j := by
    intro i j oi hoi hi hj e he hb heq
    obtain ⟨h0, o, ho, hall⟩ := mem_ready.1 hi
    rw [hoi] at ho
    obtain rfl := Option.some.inj ho
    have h1 := hall e he hb
    obtain ⟨g0, _⟩ := mem_ready.1 hj
    rw [heq] at h1
    rcases Nat.lt_or_ge j listed.size with h' | h'
    · simp [h'] at g0 h1; rw [g0] at h1; cases h1
    · simp [Array.getElem?_eq_none h'] at h1
  exact hF.apart i j oi oj hoi hoj hne (g hoi hi hj) (g hoj hj hi)

theorem YI.of_same {o : Oper} {v : Value} {rs : List Rd} {a a' : Act} {w : World} (h : YI P ops o v rs a w) (he : execOp a'.eval o = execOp a.eval o) (hw : Region.wanted o (yielded ops a'.tmps) = Region.wanted o (yielded ops a.tmps)) : YI P ops o v rs a' w := by
  unfold YI Ylds at *
  rw [hw, he]; exact h
theorem YI.world {o : Oper} {v : Value} {rs : List Rd} {a : Act} {w w' : World} (h : YI P ops o v rs a w) (hs : ∀ r ∈ rs, r.same w w') : YI P ops o v rs a w' := by
  rcases h with ⟨h1, h2, h3⟩ | ⟨h1, h2, h3⟩
  · exact .inl ⟨h1, fun r hr => (hs r hr).ok (h2 r hr), fun w'' hw => h3 w'' fun r hr => (hs r hr).trans (hw r hr)⟩
  · exact .inr ⟨h1, h2, h3⟩
theorem YI.wpOp {i : Nat} {o : Oper} {v : Value} {rs : List Rd} {a : Act} {w : World} (hi : ops[i]? = some o) (h : YI P ops o v rs a w) {K : Act → World → Prop} {Q : Exit → Act → World → Prop} (hk : K (a.put o.dst v) w) : wpOp P ops Q i K a w := by
  unfold Go.wpOp
  simp only [hi]
  rcases h with ⟨h1, h2, h3⟩ | ⟨h1, h2, h3⟩
  · simp only [h1, if_true]
    exact .inl (wp_value (h3 w fun r _ => Rd.same.refl w r) hk)
  · simp only [h1, Bool.false_eq_true, if_false]; rw [← h2]; exact hk
theorem YI.put (hsel : ∀ (j : Nat) (o : Oper) cs b, ops[j]? = some o → o.op ≠ .select cs b) {i : Nat} {oi oj : Oper} (hoi : ops[i]? = some oi) {v u : Value} {rs : List Rd} {a : Act} {w : World} (hap : oj.apart ops oi = true) (h : YI P ops oi v rs a w) : YI P ops oi v rs (a.put oj.dst u) w := by
  obtain ⟨h1, h2, h3⟩ := Oper.apart_spec hap
  exact h.of_same (execOp_put oi (fun cs b => hsel i oi cs b hoi) a oj.dst u h1) (wanted_put oi a oj.dst u h1)
theorem YI.unput (hsel : ∀ (j : Nat) (o : Oper) cs b, ops[j]? = some o → o.op ≠ .select cs b) {i : Nat} {oi oj : Oper} (hoi : ops[i]? = some oi) {v u : Value} {rs : List Rd} {a : Act} {w : World} (hap : oj.apart ops oi = true) (h : YI P ops oi v rs (a.put oj.dst u) w) : YI P ops oi v rs a w := by
  obtain ⟨h1, h2, h3⟩ := Oper.apart_spec hap
  exact h.of_same (execOp_put oi (fun cs b => hsel i oi cs b hoi) a oj.dst u h1).symm (wanted_put oi a oj.dst u h1).symm

theorem apart_symm {x y : Oper} (h : x.apart ops y = true) : y.apart ops x = true := by
  obtain ⟨h1, h2, h3⟩ := Oper.apart_spec h
  simp only [Oper.apart, Bool.and_eq_true]
  constructor
  · cases hd : y.dst with
    | none => rfl
    | some d =>
      simp only [Bool.and_eq_true, Bool.not_eq_true', bne_iff_ne, ne_eq]
      refine ⟨?_, fun hx => h2 d hx hd⟩
      have := h3 d hd
      simpa using this
  · cases hd : x.dst with
    | none => rfl
    | some d => have := h1 d hd; simpa using this

/-- the two laws on quiet operations: one that is ready can be taken first; and what is so behind it is so ahead of it -/
theorem can_quiet (hF : Fine ops B) {Q : Exit → Act → World → Prop} : ∀ (f : Nat),
    (∀ (listed : Array Bool) (lds : Lds) (a : Act) (w : World) (i : Nat), can P ops B Q (f + 1) listed lds a w → i ∈ Region.ready .any ops listed → quietAt P ops i = true →
      ∃ o v rd, ops[i]? = some o ∧ YI P ops o v rd a w ∧ can P ops B Q f (listed.setIfInBounds i true) ((i, rd) :: lds) (a.put o.dst v) w) ∧
    (∀ (listed : Array Bool) (lds : Lds) (a : Act) (w : World) (i : Nat) (o : Oper) (v : Value) (rd : List Rd), i ∈ Region.ready .any ops listed → quietAt P ops i = true → ops[i]? = some o → YI P ops o v rd a w →
      can P ops B Q f (listed.setIfInBounds i true) ((i, rd) :: lds) (a.put o.dst v) w → can P ops B Q (f + 1) listed lds a w) := by
  intro f
  induction f with
  | zero =>
    constructor
    · intro listed lds a w i h hi hq
      unfold can at h
      cases hr : Region.ready .any ops listed with
      | nil => rw [hr] at hi; cases hi
      | cons r rs =>
        simp only [hr] at h
        cases hfq : firstQ (quietAt P ops) (r :: rs) with
        | some q =>
          simp only [hfq] at h
          obtain ⟨o, v, rd, h1, h2, h3⟩ := h
          exact h3.elim
        | none => have := firstQ_none hfq i (hr ▸ hi); rw [this] at hq; cases hq
    · intro listed lds a w i o v rd hi hq ho hy h
      exact h.elim
  | succ f ih =>
    obtain ⟨ihA, ihB⟩ := ih
    constructor
    · intro listed lds a w i h hi hq
      unfold can at h
      cases hr : Region.ready .any ops listed with
      | nil => rw [hr] at hi; cases hi
      | cons r rs =>
        simp only [hr] at h
        cases hfq : firstQ (quietAt P ops) (r :: rs) with
        | none => have := firstQ_none hfq i (hr ▸ hi); rw [this] at hq; cases hq
        | some q =>
          simp only [hfq] at h
          obtain ⟨oq, vq, rq', h1, h2, h3⟩ := h
          have hqm := firstQ_some hfq
          have hqr : q ∈ Region.ready .any ops listed := by rw [hr]; exact hqm.1
          by_cases hiq : i = q
          · subst hiq; exact ⟨oq, vq, rq', h1, h2, h3⟩
          · obtain ⟨o, v, rd, g1, g2, g3⟩ := ihA _ _ _ _ i h3 (ready_mono hi hiq) hq
            have hap := both_apart hF h1 g1 hqr hi (Ne.symm hiq)
            have g2' : YI P ops o v rd a w := g2.unput hF.sel g1 hap
            refine ⟨o, v, rd, g1, g2', ?_⟩
            refine ihB _ _ _ _ q oq vq rq' (ready_mono hqr (Ne.symm hiq)) hqm.2 h1 (h2.put hF.sel h1 (apart_symm hap)) ?_
            rw [Array.setIfInBounds_comm _ _ hiq]
            rw [Act.put_comm a v vq (fun d hd => (Oper.apart_spec (apart_symm hap)).2.1 d hd)]
            exact can_congr f _ _ _ _ _ (fun x => by simp only [List.mem_cons]; constructor <;> (rintro (h | h | h) <;> simp [h])) g3
    · intro listed lds a w i o v rd hi hq ho hy h
      unfold can
      cases hr : Region.ready .any ops listed with
      | nil => rw [hr] at hi; cases hi
      | cons r rs =>
        simp only []
        cases hfq : firstQ (quietAt P ops) (r :: rs) with
        | none => have := firstQ_none hfq i (hr ▸ hi); rw [this] at hq; cases hq
        | some q =>
          simp only []
          have hqm := firstQ_some hfq
          have hqr : q ∈ Region.ready .any ops listed := by rw [hr]; exact hqm.1
          by_cases hiq : i = q
          · subst hiq; exact ⟨o, v, rd, ho, hy, h⟩
          · obtain ⟨oq, vq, rq', g1, g2, g3⟩ := ihA _ _ _ _ q h (ready_mono hqr (Ne.symm hiq)) hqm.2
            have hap := both_apart hF ho g1 hi hqr hiq
            refine ⟨oq, vq, rq', g1, g2.unput hF.sel g1 hap, ?_⟩
            refine ihB _ _ _ _ i o v rd (ready_mono hi hiq) hq ho (hy.put hF.sel ho (apart_symm hap)) ?_
            rw [Array.setIfInBounds_comm _ _ (Ne.symm hiq)]
            rw [Act.put_comm a vq v (fun d hd => (Oper.apart_spec (apart_symm hap)).2.1 d hd)]
            exact can_congr f _ _ _ _ _ (fun x => by simp only [List.mem_cons]; constructor <;> (rintro (h | h | h) <;> simp [h])) g3

end Go.SX
