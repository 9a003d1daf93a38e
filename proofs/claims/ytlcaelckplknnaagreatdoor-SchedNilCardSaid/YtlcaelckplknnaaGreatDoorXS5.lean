/- XS: the executor is sound: how states and worlds change. -/
import Derived.Test.YtlcaelckplknnaaGreatDoorXS4
set_option linter.unusedVariables false
set_option linter.unusedSimpArgs false
namespace Go.XC
open Go Go.SX
variable {β : Type} {P : Program}

def ER (V : Vn) (es : List Ent) (es' : List MapEntry) : Prop := es'.length = es.length ∧
  ∀ (i : Nat) e, es[i]? = some e → ∃ e', es'[i]? = some e' ∧ e'.born = e.born ∧ conc V e.key = some e'.key ∧ conc V e.val = some e'.val
theorem ER.mono {V V' : Vn} (h : V.le V') {es : List Ent} {es' : List MapEntry} (he : ER V es es') : ER V' es es' :=
  ⟨he.1, fun i e hi => by obtain ⟨e', h1, h2, h3, h4⟩ := he.2 i e hi; exact ⟨e', h1, h2, conc_mono h _ _ h3, conc_mono h _ _ h4⟩⟩

theorem BlkOk.mono {V V' : Vn} (h : V.le V') {w w' : World} {b : Nat} {B : Blk} (hw : w'.heap[b]? = w.heap[b]?) (hB : BlkOk V w b B) : BlkOk V' w' b B := by
  cases B with
  | cells T n z o tail =>
    obtain ⟨c, h1, h2, h3, h4⟩ := hB
    refine ⟨c, by rw [hw]; exact h1, h2, fun i a ha => ?_, ?_⟩
    · obtain ⟨v, h5, h6⟩ := h3 i a ha; exact ⟨v, conc_mono h _ _ h5, h6⟩
    · cases tail with
      | none => trivial
      | some t => obtain ⟨j, sz⟩ := t; obtain ⟨q, h5, h6⟩ := h4; exact ⟨q, h.ν _ _ h5, h6⟩
  | map es c =>
    obtain ⟨es', h1, h2⟩ := hB
    exact ⟨es', by rw [hw]; exact h1, ER.mono h h2⟩
  | iter m a l c =>
    obtain ⟨m', h1, h2⟩ := hB
    refine ⟨m', by rw [hw]; exact h1, ?_⟩
    cases m with
    | none => exact h2
    | some id => obtain ⟨x, h3, h4⟩ := h2; exact ⟨x, h.ρ _ _ h3, h4⟩
theorem BlkOk.lt {V : Vn} {w : World} {b : Nat} {B : Blk} (hB : BlkOk V w b B) : b < w.heap.size := by
  have : ∃ o, w.heap[b]? = some o := by
    cases B with
    | cells T n z o tail => obtain ⟨c, h1, _⟩ := hB; exact ⟨_, h1⟩
    | map es c => obtain ⟨es', h1, _⟩ := hB; exact ⟨_, h1⟩
    | iter m a l c => obtain ⟨m', h1, _⟩ := hB; exact ⟨_, h1⟩
  obtain ⟨o, h⟩ := this
  exact (Array.getElem?_eq_some_iff.1 h).1

theorem frozen_none {w : World} {a : Addr} (h : w.heap.size ≤ a.block) : w.frozen? a = false := by
  unfold World.frozen?; rw [Array.getElem?_eq_none h]
theorem frozen_frz' {w w' : World} {a : Addr} (h : SX.Rest w w') (hb : a.block < w.heap.size) : w'.frozen? a = w.frozen? a := by
  have := h.frz hb
  unfold SX.frz at this
  unfold World.frozen?
  cases h1 : w'.heap[a.block]? with
  | none =>
    have := h.size
    rw [Array.getElem?_eq_none_iff] at h1; omega
  | some o' =>
    cases h2 : w.heap[a.block]? with
    | none => rw [Array.getElem?_eq_none_iff] at h2; omega
    | some o =>
      rw [h1, h2] at this
      cases o <;> cases o' <;> simp only [] at this ⊢ <;> first | rfl | (rw [this]; done) | (rw [← this]; simp; done) | (rw [this]; simp; done)
theorem frozen_push {w w' : World} {o : Obj} (hw : w'.heap = w.heap.push o) (ho : ∀ c T fz, o = .cells c T fz → fz = (0, 0)) (a : Addr) (ha : w.heap.size ≤ a.block) : w'.frozen? a = false := by
  unfold World.frozen?
  rw [hw, Array.getElem?_push]
  by_cases h : a.block = w.heap.size
  · rw [if_pos h]
    cases o with
    | cells c T fz => rw [ho c T fz rfl]; simp
    | _ => rfl
  · rw [if_neg h, Array.getElem?_eq_none ha]
theorem Mv.refl {V : Vn} {s : St} {w w' : World} (hR : Rel V s w) (hw : w'.heap = w.heap) (hr : SX.Rest w w') : Mv V s w V s w' where
  ext := Vn.le.refl V
  rel := ⟨hR.nb, hR.nc, fun id B h => by obtain ⟨b, h1, h2⟩ := hR.blk id B h; exact ⟨b, h1, h2.mono (Vn.le.refl V) (by rw [hw])⟩, hR.inj, hR.iv⟩
  frame := fun b _ _ => by rw [hw]
  img := fun id b hl hx => .inl ⟨id, hl, hx⟩
  rest := hr
  nf := fun a ha => frozen_none (by rw [hw]; exact ha)
theorem Mv.trans {V V1 V2 : Vn} {s s1 s2 : St} {w w1 w2 : World} (h : Mv V s w V1 s1 w1) (g : Mv V1 s1 w1 V2 s2 w2) : Mv V s w V2 s2 w2 where
  ext := h.ext.trans g.ext
  rel := g.rel
  frame := fun b hb hn => by
    rw [g.frame b (Nat.lt_of_lt_of_le hb h.rest.size) ?_, h.frame b hb hn]
    intro id hl hx
    rcases h.img id b hl hx with ⟨id0, h1, h2⟩ | h1
    · exact hn id0 h1 h2
    · omega
  img := fun id b hl hx => by
    rcases g.img id b hl hx with ⟨id0, h1, h2⟩ | h1
    · exact h.img id0 b h1 h2
    · exact .inr (Nat.le_trans h.rest.size h1)
  rest := h.rest.trans g.rest
  nf := fun a ha => by
    rcases Nat.lt_or_ge a.block w1.heap.size with hlt | hge
    · rw [frozen_frz' g.rest hlt]; exact h.nf a ha
    · exact g.nf a hge

/-- one block is another one, or new -/
theorem mv_put {V V' : Vn} {s s' : St} {w w' : World} (hR : Rel V s w) (hV : V.le V') (id x : Nat) (hiv : s'.iv = s.iv) (hnb : ∀ j, s'.nb ≤ j → V'.ρ j = none) (hnc : ∀ j, s'.nc ≤ j → V'.ν j = none)
    (hx : V'.ρ id = some x) (hB : ∀ B, s'.h.get id = some B → BlkOk V' w' x B) (hoth : ∀ j B, j ≠ id → s'.h.get j = some B → s.h.get j = some B ∧ V.ρ j ≠ some x)
    (hw : ∀ b, b < w.heap.size → b ≠ x → w'.heap[b]? = w.heap[b]?) (hx' : (∃ id0, live s id0 ∧ V.ρ id0 = some x) ∨ w.heap.size ≤ x) (hr : SX.Rest w w') (hnf : ∀ a : Addr, w.heap.size ≤ a.block → w'.frozen? a = false) : Mv V s w V' s' w' where
  nf := hnf
  ext := hV
  rel := by
    have hold : ∀ j B, j ≠ id → s'.h.get j = some B → ∃ b, V.ρ j = some b ∧ V'.ρ j = some b ∧ b ≠ x ∧ b < w.heap.size ∧ BlkOk V w b B := by
      intro j B hj hB'
      obtain ⟨h1, h2⟩ := hoth j B hj hB'
      obtain ⟨b, h3, h4⟩ := hR.blk j B h1
      exact ⟨b, h3, hV.ρ _ _ h3, fun e => h2 (e ▸ h3), h4.lt, h4⟩
    refine ⟨hnb, hnc, fun j B hj => ?_, fun j j' b hl hl' hb hb' => ?_, fun i r hi => ?_⟩
    · by_cases e : j = id
      · subst e; exact ⟨x, hx, hB B hj⟩
      · obtain ⟨b, h1, h2, h3, h4, h5⟩ := hold j B e hj
        exact ⟨b, h2, h5.mono hV (hw b h4 h3)⟩
    · obtain ⟨B, hB1⟩ := hl
      obtain ⟨B', hB2⟩ := hl'
      by_cases e : j = id
      · by_cases e' : j' = id
        · rw [e, e']
        · obtain ⟨b', h1, h2, h3, _⟩ := hold j' B' e' hB2
          subst e
          rw [hx] at hb; obtain rfl := Option.some.inj hb
          rw [h2] at hb'; exact absurd (Option.some.inj hb') h3
      · obtain ⟨b1, h1, h2, h3, _⟩ := hold j B e hB1
        by_cases e' : j' = id
        · subst e'
          rw [hx] at hb'; obtain rfl := Option.some.inj hb'
          rw [h2] at hb; exact absurd (Option.some.inj hb) h3
        · obtain ⟨b2, g1, g2, g3, _⟩ := hold j' B' e' hB2
          rw [h2] at hb; rw [g2] at hb'
          obtain rfl := Option.some.inj hb
          obtain rfl := Option.some.inj hb'
          exact hR.inj j j' _ ⟨B, (hoth j B e hB1).1⟩ ⟨B', (hoth j' B' e' hB2).1⟩ h1 g1
    · rw [hiv] at hi
      obtain ⟨y, h1, h2⟩ := hR.iv i r hi
      exact ⟨y, hV.σ _ _ h1, h2⟩
  frame := fun b hb hn => by
    refine hw b hb fun e => ?_
    subst e
    rcases hx' with ⟨id0, h1, h2⟩ | h1
    · exact hn id0 h1 h2
    · omega
  img := fun j b hl hb => by
    obtain ⟨B, hB'⟩ := hl
    by_cases e : j = id
    · subst e
      rw [hx] at hb; obtain rfl := Option.some.inj hb
      exact hx'
    · obtain ⟨h1, h2⟩ := hoth j B e hB'
      obtain ⟨b', h3, h4⟩ := hR.blk j B h1
      have := hV.ρ _ _ h3
      rw [this] at hb; obtain rfl := Option.some.inj hb
      exact .inl ⟨j, ⟨B, h1⟩, h3⟩
  rest := hr

/-- a valuation with a block more -/
def Vn.bind (V : Vn) (id x : Nat) : Vn := { V with ρ := fun i => if i = id then some x else V.ρ i }
def Vn.cap (V : Vn) (j q : Nat) : Vn := { V with ν := fun i => if i = j then some q else V.ν i }
theorem Vn.le_bind {V : Vn} {id x : Nat} (h : V.ρ id = none) : V.le (V.bind id x) :=
  ⟨fun b y hb => by
    by_cases e : b = id
    · subst e; rw [h] at hb; cases hb
    · simp [Vn.bind, e, hb], fun _ _ h => h, fun _ _ h => h⟩
theorem Vn.le_cap {V : Vn} {j q : Nat} (h : V.ν j = none) : V.le (V.cap j q) :=
  ⟨fun _ _ h => h, fun b y hb => by
    by_cases e : b = j
    · subst e; rw [h] at hb; cases hb
    · simp [Vn.cap, e, hb], fun _ _ h => h⟩

/-- a new block -/
theorem mv_new {V : Vn} {s s' : St} {w w' : World} (hR : Rel V s w) {o : Obj} {B : Blk} (hget : ∀ j, s'.h.get j = if j = s.nb then some B else s.h.get j) (hiv : s'.iv = s.iv) (hnb : s'.nb = s.nb + 1) (hnc : s'.nc = s.nc)
    (hw : w'.heap = w.heap.push o) (hr : SX.Rest w w') (ho : ∀ c T fz, o = .cells c T fz → fz = (0, 0)) (hB : BlkOk (V.bind s.nb w.heap.size) w' w.heap.size B) : Mv V s w (V.bind s.nb w.heap.size) s' w' := by
  refine mv_put hR (Vn.le_bind (hR.nb _ (Nat.le_refl _))) s.nb w.heap.size hiv ?_ ?_ (by simp [Vn.bind]) ?_ ?_ ?_ (.inr (Nat.le_refl _)) hr (fun a ha => frozen_push hw ho a ha)
  · intro j hj
    rw [hnb] at hj
    have : j ≠ s.nb := by omega
    simp [Vn.bind, this, hR.nb j (by omega)]
  · intro j hj
    rw [hnc] at hj
    exact hR.nc j hj
  · intro B' hB'
    rw [hget, if_pos rfl] at hB'
    obtain rfl := Option.some.inj hB'
    exact hB
  · intro j B' hj hB'
    rw [hget, if_neg hj] at hB'
    refine ⟨hB', fun e => ?_⟩
    obtain ⟨b, h1, h2⟩ := hR.blk j B' hB'
    rw [e] at h1; obtain rfl := Option.some.inj h1
    exact absurd h2.lt (Nat.lt_irrefl _)
  · intro b hb hne
    rw [hw, Array.getElem?_push, if_neg hne]

theorem newK_inv {s : St} {B : Blk} {k : Nat → St → Option β} {r : β} (h : newK s B k = some r) :
    ∃ s', k s.nb s' = some r ∧ (∀ j, s'.h.get j = if j = s.nb then some B else s.h.get j) ∧ s'.iv = s.iv ∧ s'.nb = s.nb + 1 ∧ s'.nc = s.nc := by
  obtain ⟨h', hk, hg⟩ := setK_inv _ _ _ _ _ _ h
  exact ⟨_, hk, hg, rfl, rfl, rfl⟩
theorem setBK_inv {s : St} {b : Nat} {B : Option Blk} {k : St → Option β} {r : β} (h : setBK s b B k = some r) :
    ∃ s', k s' = some r ∧ (∀ j, s'.h.get j = if j = b then B else s.h.get j) ∧ s'.iv = s.iv ∧ s'.nb = s.nb ∧ s'.nc = s.nc := by
  obtain ⟨h', hk, hg⟩ := setK_inv _ _ _ _ _ _ h
  exact ⟨_, hk, hg, rfl, rfl, rfl⟩

/-- a block is another one -/
theorem mv_set {V : Vn} {s s' : St} {w w' : World} (hR : Rel V s w) {b x : Nat} {B0 B : Blk} (hb : s.h.get b = some B0) (hx : V.ρ b = some x) (hget : ∀ j, s'.h.get j = if j = b then some B else s.h.get j) (hiv : s'.iv = s.iv) (hnb : s'.nb = s.nb) (hnc : s'.nc = s.nc)
    (hw : ∀ y, y < w.heap.size → y ≠ x → w'.heap[y]? = w.heap[y]?) (hr : SX.Rest w w') (hsz : w'.heap.size = w.heap.size) (hB : BlkOk V w' x B) : Mv V s w V s' w' := by
  refine mv_put hR (Vn.le.refl V) b x hiv (by rw [hnb]; exact hR.nb) (by rw [hnc]; exact hR.nc) hx ?_ ?_ hw (.inl ⟨b, ⟨B0, hb⟩, hx⟩) hr (fun a ha => frozen_none (by rw [hsz]; exact ha))
  · intro B' hB'
    rw [hget, if_pos rfl] at hB'
    obtain rfl := Option.some.inj hB'
    exact hB
  · intro j B' hj hB'
    rw [hget, if_neg hj] at hB'
    exact ⟨hB', fun e => hj (hR.inj j b x ⟨B', hB'⟩ ⟨B0, hb⟩ e hx)⟩

/-! rows of cells -/
theorem putCs_inv {n : Nat} : ∀ (vs : List A) (o : Tr A) (i : Nat) (k : Tr A → Option β) (r : β), putCs n o i vs k = some r →
    ∃ o', k o' = some r ∧ (vs = [] ∨ i + vs.length ≤ n) ∧ ∀ j, o'.get j = if i ≤ j ∧ j < i + vs.length then vs[j - i]? else o.get j
  | [], o, i, k, r, h => ⟨o, h, .inl rfl, fun j => by
      have : ¬ (i ≤ j ∧ j < i + ([] : List A).length) := by simp only [List.length_nil]; omega
      rw [if_neg this]⟩
  | v :: vs, o, i, k, r, h => by
    obtain ⟨h1, h⟩ := ck_inv h
    have h1 := Nat.le_of_ble_eq_true h1
    obtain ⟨o1, h, hg⟩ := setK_inv _ _ _ _ _ _ h
    obtain ⟨o', hk, hl, hg'⟩ := putCs_inv vs o1 (Nat.succ i) k r h
    refine ⟨o', hk, .inr ?_, fun j => ?_⟩
    · rcases hl with rfl | hl
      · simpa using h1
      · simp only [List.length_cons]; omega
    · rw [hg' j, hg j]
      simp only [List.length_cons]
      by_cases e : j = i
      · subst e
        have : ¬ (Nat.succ j ≤ j ∧ j < Nat.succ j + vs.length) := by omega
        rw [if_neg this, if_pos rfl, if_pos (by omega)]
        simp
      · by_cases e2 : Nat.succ i ≤ j ∧ j < Nat.succ i + vs.length
        · rw [if_pos e2, if_pos (by omega), show j - i = (j - Nat.succ i) + 1 by omega]; simp
        · rw [if_neg e2, if_neg e, if_neg (by omega)]

theorem setN_heap {x o : Nat} {T : TypeId} {fz : Nat × Nat} : ∀ (vs : List Value) (i : Nat) (w : World) (c : Array Value), w.heap[x]? = some (.cells c T fz) →
    ∃ c' : Array Value, (setN ⟨x, o, none⟩ i vs w).heap[x]? = some (.cells c' T fz) ∧ c'.size = c.size ∧ (∀ j, c'[j]? = if o + i ≤ j ∧ j < o + i + vs.length ∧ j < c.size then vs[j - (o + i)]? else c[j]?) ∧
      ∀ b, b ≠ x → (setN ⟨x, o, none⟩ i vs w).heap[b]? = w.heap[b]?
  | [], i, w, c, h => ⟨c, h, rfl, fun j => by
      have : ¬ (o + i ≤ j ∧ j < o + i + ([] : List Value).length ∧ j < c.size) := by simp only [List.length_nil]; omega
      rw [if_neg this], fun _ _ => rfl⟩
  | v :: vs, i, w, c, h => by
    have h1 : (w.setCell (Addr.add ⟨x, o, none⟩ i) v).heap[x]? = some (.cells (c.setIfInBounds (o + i) v) T fz) := by
      rw [add_mk]; unfold World.setCell; simp [Array.getElem?_modify, h]
    have h2 : ∀ b, b ≠ x → (w.setCell (Addr.add ⟨x, o, none⟩ i) v).heap[b]? = w.heap[b]? := by
      intro b hb
      rw [add_mk]; unfold World.setCell; simp [Array.getElem?_modify, Ne.symm hb]
    obtain ⟨c', g1, g2, g3, g4⟩ := setN_heap vs (i + 1) _ _ h1
    refine ⟨c', g1, by rw [g2]; simp, fun j => ?_, fun b hb => by rw [setN, g4 b hb, h2 b hb]⟩
    rw [g3 j]
    simp only [Array.size_setIfInBounds, List.length_cons]
    by_cases e : o + (i + 1) ≤ j ∧ j < o + (i + 1) + vs.length ∧ j < c.size
    · rw [if_pos e, if_pos (by omega), show j - (o + i) = (j - (o + (i + 1))) + 1 by omega]; simp
    · rw [if_neg e, Array.getElem?_setIfInBounds]
      by_cases e2 : o + i = j
      · by_cases e3 : j < c.size
        · rw [if_pos e2, if_pos (by omega), if_pos (by omega)]
          simp [← e2]
        · rw [if_pos e2, if_neg (by omega), if_neg (by omega)]
          simp [Array.getElem?_eq_none_iff]; omega
      · rw [if_neg e2]
        by_cases e4 : o + i ≤ j ∧ j < o + i + (vs.length + 1) ∧ j < c.size
        · exfalso; omega
        · rw [if_neg e4]

theorem allOk1_sound {V : Vn} : ∀ {l : List A} {vs : List Value}, allOk1 l = true → concL V l = some vs → vs.all ok1 = true
  | [], vs, h, hv => by simp [concL] at hv; subst hv; rfl
  | a :: l, vs, h, hv => by
    obtain ⟨v, us, h1, h2, rfl⟩ := concL_cons hv
    unfold allOk1 at h
    split at h
    · rename_i h0
      have h3 := allOk1_sound h h2
      have h4 : ok1 v = true := by
        unfold ok1A at h0
        split at h0
        · cases h0
        · cases h0
        · have := lit_conc h1; subst this; exact h0
        · rename_i n1 n2 n3
          cases a
          case agg l => exact absurd rfl (n1 l)
          case tup l => exact absurd rfl (n2 l)
          case lit u => exact absurd rfl (n3 u)
          all_goals
            simp only [conc, Option.bind_eq_some_iff, Option.map_eq_some_iff] at h1
          case sl => obtain ⟨x, _, c, _, rfl⟩ := h1; rfl
          case fn => obtain ⟨x, _, c, _, rfl⟩ := h1; rfl
          all_goals (obtain ⟨x, _, rfl⟩ := h1; rfl)
      simp [h4, h3]
    · cases h

theorem frozen00 {w : World} {x i : Nat} {c : Array Value} {T : TypeId} (h : w.heap[x]? = some (.cells c T)) : w.frozen? ⟨x, i, none⟩ = false := by
  unfold World.frozen?; simp [h]

theorem rd_cells {T n : Nat} {z : List A} {o : Tr A} {tail : Option (Nat × Nat)} {i : Nat} {a : A} (h : (Blk.cells T n z o tail).rd i = some a) :
    i < n ∧ (match o.get i with | some a => some a | none => at? z (Nat.mod i z.length)) = some a := by
  simp only [Blk.rd] at h
  cases hb : Nat.blt i n with
  | false => rw [hb] at h; cases h
  | true => rw [hb] at h; exact ⟨Nat.le_of_ble_eq_true hb, h⟩
theorem rd_cells_mk {T n : Nat} {z : List A} {o : Tr A} {tail : Option (Nat × Nat)} {i : Nat} {a : A} (hi : i < n) (h : (match o.get i with | some a => some a | none => at? z (Nat.mod i z.length)) = some a) :
    (Blk.cells T n z o tail).rd i = some a := by
  have hb : Nat.blt i n = true := Nat.ble_eq_true_of_le hi
  simp only [Blk.rd, hb]; exact h

/-- cells are written -/
theorem stX_inv {s : St} {b i : Nat} {vs : List A} {k : St → Option β} {r : β} (h : stX s b i vs k = some r) :
    ∃ s', k s' = some r ∧ ∀ V w x us (K : M), Rel V s w → V.ρ b = some x → concL V vs = some us → (∀ w', Mv V s w V s' w' → K w') → stN ⟨x, i, none⟩ us K w := by
  obtain ⟨hok, h⟩ := ck_inv h
  split at h
  · rename_i T n z o tail hB
    obtain ⟨o', h, hl, hg⟩ := putCs_inv _ _ _ _ _ h
    obtain ⟨s', hk, hget, hiv, hnb, hnc⟩ := setBK_inv h
    refine ⟨s', hk, fun V w x us K hR hx hv hK => ?_⟩
    obtain ⟨x', hx', c, h1, h2, h3, h4⟩ := hR.blk _ _ hB
    rw [hx] at hx'; obtain rfl := Option.some.inj hx'
    have hlen := concL_length hv
    refine ⟨fun j hj => ?_, allOk1_sound hok hv, hK _ ?_⟩
    · rw [add_mk]
      have hlt : i + j < c.size := by
        rcases hl with rfl | hl
        · simp at hlen; rw [hlen] at hj; simp at hj
        · rw [hlen] at hj; omega
      exact ⟨⟨c[i + j], by rw [cell_at h1]; simp [hlt]⟩, frozen00 h1⟩
    · obtain ⟨c', g1, g2, g3, g4⟩ := setN_heap (x := x) (o := i) us 0 w c h1
      refine mv_set hR hB hx hget hiv hnb hnc (fun y _ hy => g4 y hy) (Rest.setN us 0 w) (size_setN _ us 0 w) ⟨c', g1, by omega, fun j a ha => ?_, ?_⟩
      · -- what is read now
        have hj := rd_cells ha
        obtain ⟨hj, ha'⟩ := hj
        rw [hg j] at ha'
        rw [g3 j, Nat.add_zero]
        by_cases e : i ≤ j ∧ j < i + vs.length
        · rw [if_pos e] at ha'
          have hlt : j - i < vs.length := by omega
          have e1 : vs[j - i]? = some vs[j - i] := by simp [hlt]
          rw [e1] at ha'
          simp only [Option.some.injEq] at ha'
          obtain ⟨v, e2, e3⟩ := concL_at hv e1
          rw [if_pos (by omega)]
          exact ⟨v, ha' ▸ e2, e3⟩
        · rw [if_neg e] at ha'
          rw [if_neg (by rw [hlen]; omega)]
          exact h3 j a (rd_cells_mk hj ha')
      · cases tail with
        | none => trivial
        | some t => obtain ⟨j, sz⟩ := t; obtain ⟨q, e1, e2⟩ := h4; exact ⟨q, e1, by rw [g2]; exact e2⟩
  · cases h

/-- a new block of some cells -/
theorem laidK_inv {s : St} {T : TypeId} {vs : List A} {tail : Option (Nat × Nat)} {k : Nat → St → Option β} {r : β} (h : laidK s T vs tail k = some r) :
    ∃ s' B, k s.nb s' = some r ∧ allOk1 vs = true ∧ (∀ j, s'.h.get j = if j = s.nb then some B else s.h.get j) ∧ s'.iv = s.iv ∧ s'.nb = s.nb + 1 ∧ s'.nc = s.nc ∧
      ∀ V w x us (c : Array Value), concL V vs = some us → w.heap[x]? = some (.cells c T) → us.length ≤ c.size → (∀ i, i < us.length → c[i]? = us[i]?) → (∀ j sz, tail = some (j, sz) → ∃ q, V.ν j = some q ∧ c.size = q * sz) → BlkOk V w x B := by
  obtain ⟨hok, h⟩ := ck_inv h
  have h := fN_inv h
  obtain ⟨o', h, hl, hg⟩ := putCs_inv _ _ _ _ _ h
  obtain ⟨s', hk, hget, hiv, hnb, hnc⟩ := newK_inv h
  refine ⟨s', _, hk, hok, hget, hiv, hnb, hnc, fun V w x us c hv hw hsz hc ht => ⟨c, hw, ?_, fun i a ha => ?_, ?_⟩⟩
  · rw [← concL_length hv]; exact hsz
  · obtain ⟨hlt, ha⟩ := rd_cells ha
    rw [hg i, if_pos (by omega)] at ha
    have e1 : vs[i - 0]? = some vs[i] := by simp [hlt]
    rw [e1] at ha
    simp only [Option.some.injEq] at ha
    obtain ⟨v, e2, e3⟩ := concL_at (i := i) (a := vs[i]) hv (by simp [hlt])
    exact ⟨v, ha ▸ e2, by rw [hc i (by rw [concL_length hv]; exact hlt)]; exact e3⟩
  · cases tail with
    | none => trivial
    | some t => obtain ⟨j, sz⟩ := t; exact ht j sz rfl

theorem al_new {s : St} {T : TypeId} {vs : List A} {k : Nat → St → Option β} {r : β} (h : laidK s T vs none k = some r) :
    ∃ s', k s.nb s' = some r ∧ ∀ V w us (K : Addr → M), Rel V s w → concL V vs = some us → (∀ V' w' x, Mv V s w V' s' w' → V'.ρ s.nb = some x → K ⟨x, 0, none⟩ w') → al T us K w := by
  obtain ⟨s', B, hk, _, hget, hiv, hnb, hnc, hB⟩ := laidK_inv h
  refine ⟨s', hk, fun V w us K hR hv hK => ?_⟩
  refine hK (V.bind s.nb w.heap.size) _ _ ?_ (by simp [Vn.bind])
  refine mv_new hR (o := .cells us.toArray T) hget hiv hnb hnc rfl (Rest.alloc _ _) (fun c T fz h => by cases h; rfl) ?_
  exact hB _ _ _ us us.toArray (concL_mono (Vn.le_bind (hR.nb _ (Nat.le_refl _))) _ _ hv) (by show (w.heap.push _)[w.heap.size]? = _; simp) (by simp) (fun i hi => by simp) (fun j sz e => by cases e)

end Go.XC
