/- SX: plain laws on worlds, for proofs over the evaluator's words. -/
import Derived.Test.YtlcaelckplknnaaGreatDoorSXCode
set_option linter.unusedVariables false
set_option linter.unusedSimpArgs false
namespace Go.SX
open Go

/-- the cells of a block -/
def cel (w : World) (b : Nat) : Option (List Value) := match w.heap[b]? with
  | some (.cells c _ _) => some c.toList
  | _ => none
/-- what of a block must not be written -/
def frz (w : World) (b : Nat) : Nat × Nat := match w.heap[b]? with
  | some (.cells _ _ r) => r
  | _ => (0, 0)
/-- a map's entries -/
def ents (w : World) (b : Nat) : Option (Array MapEntry × Nat) := match w.heap[b]? with
  | some (.map es c) => some (es, c)
  | _ => none

theorem cell_cel (w : World) (b i : Nat) : w.cell? ⟨b, i, none⟩ = (cel w b).bind (·[i]?) := by
  unfold World.cell? cel
  cases w.heap[b]? with
  | none => rfl
  | some o => cases o <;> simp
theorem frozen_frz (w : World) (b i : Nat) : w.frozen? ⟨b, i, none⟩ = (decide ((frz w b).1 ≤ i) && decide (i < (frz w b).2)) := by
  unfold World.frozen? frz
  cases w.heap[b]? with
  | none => simp
  | some o => cases o <;> simp
theorem add_mk (b o n : Nat) : Addr.add ⟨b, o, none⟩ n = ⟨b, o + n, none⟩ := by
  unfold Addr.add; by_cases h : n = 0 <;> simp [h]

theorem cel_lt {w : World} {b : Nat} {l : List Value} (h : cel w b = some l) : b < w.heap.size := by
  unfold cel at h
  split at h
  · rename_i hb; exact (Array.getElem?_eq_some_iff.1 hb).1
  · cases h

/-! stores -/
theorem cel_setCell (w : World) (b i b' : Nat) (v : Value) : cel (w.setCell ⟨b, i, none⟩ v) b' = if b = b' then (cel w b').map (·.set i v) else cel w b' := by
  unfold cel World.setCell
  simp only [Array.getElem?_modify]
  by_cases h : b = b'
  · simp only [h, if_true]
    cases w.heap[b']? with
    | none => rfl
    | some o => cases o <;> simp
  · simp [h]
theorem frz_setCell (w : World) (a : Addr) (b' : Nat) (v : Value) : frz (w.setCell a v) b' = frz w b' := by
  unfold frz World.setCell
  simp only [Array.getElem?_modify]
  by_cases h : a.block = b'
  · simp only [h, if_true]
    cases w.heap[b']? with
    | none => rfl
    | some o => cases o <;> simp
  · simp [h]
theorem ents_setCell (w : World) (a : Addr) (b' : Nat) (v : Value) : ents (w.setCell a v) b' = ents w b' := by
  unfold ents World.setCell
  simp only [Array.getElem?_modify]
  by_cases h : a.block = b'
  · simp only [h, if_true]
    cases w.heap[b']? with
    | none => rfl
    | some o => cases o <;> simp
  · simp [h]
theorem size_setCell (w : World) (a : Addr) (v : Value) : (w.setCell a v).heap.size = w.heap.size := by simp

/-- a list with others from a place on -/
def lay (l : List Value) (i : Nat) : List Value → List Value
  | [] => l
  | v :: vs => lay (l.set i v) (i + 1) vs
theorem lay_length : ∀ (vs l : List Value) (i : Nat), (lay l i vs).length = l.length
  | [], l, i => rfl
  | v :: vs, l, i => by simp [lay, lay_length vs]
theorem lay_get : ∀ (vs l : List Value) (i j : Nat), (lay l i vs)[j]? = if i ≤ j ∧ j < i + vs.length ∧ j < l.length then vs[j - i]? else l[j]?
  | [], l, i, j => by simp [lay]; omega
  | v :: vs, l, i, j => by
    simp only [lay, lay_get vs, List.length_set, List.length_cons]
    by_cases h3 : i + 1 ≤ j ∧ j < i + 1 + vs.length ∧ j < l.length
    · rw [if_pos h3, if_pos (by omega), show j - i = (j - (i + 1)) + 1 by omega]; simp
    · rw [if_neg h3, List.getElem?_set]
      by_cases h1 : i = j
      · subst h1
        by_cases h2 : i < l.length
        · have : i ≤ i ∧ i < i + (vs.length + 1) ∧ i < l.length := ⟨by omega, by omega, h2⟩
          rw [if_pos this]; simp [h2]
        · have : ¬ (i ≤ i ∧ i < i + (vs.length + 1) ∧ i < l.length) := fun hh => h2 hh.2.2
          rw [if_neg this]; simp [h2]
      · have : ¬ (i ≤ j ∧ j < i + (vs.length + 1) ∧ j < l.length) := fun hh => h3 ⟨by omega, by omega, hh.2.2⟩
        rw [if_neg this]; simp [h1]
theorem cel_setN (b o b' : Nat) : ∀ (vs : List Value) (i : Nat) (w : World), cel (setN ⟨b, o, none⟩ i vs w) b' = if b = b' then (cel w b').map (fun l => lay l (o + i) vs) else cel w b'
  | [], i, w => by by_cases h : b = b' <;> simp [setN, lay, h]
  | v :: vs, i, w => by
    simp only [setN, add_mk, cel_setN b o b' vs (i + 1), cel_setCell]
    by_cases h : b = b'
    · simp only [h, if_true, Option.map_map]
      congr 1
    · simp [h]
theorem frz_setN (a : Addr) (b' : Nat) : ∀ (vs : List Value) (i : Nat) (w : World), frz (setN a i vs w) b' = frz w b'
  | [], i, w => rfl
  | v :: vs, i, w => by simp only [setN, frz_setN a b' vs, frz_setCell]
theorem ents_setN (a : Addr) (b' : Nat) : ∀ (vs : List Value) (i : Nat) (w : World), ents (setN a i vs w) b' = ents w b'
  | [], i, w => rfl
  | v :: vs, i, w => by simp only [setN, ents_setN a b' vs, ents_setCell]
theorem size_setN (a : Addr) : ∀ (vs : List Value) (i : Nat) (w : World), (setN a i vs w).heap.size = w.heap.size
  | [], i, w => rfl
  | v :: vs, i, w => by simp only [setN, size_setN a vs, size_setCell]

/-! new blocks -/
theorem cel_alloc (w : World) (c : Array Value) (T : TypeId) (b : Nat) : cel (w.alloc (.cells c T)) b = if b = w.heap.size then some c.toList else cel w b := by
  unfold cel World.alloc
  simp only [Array.getElem?_push]
  by_cases h : b = w.heap.size <;> simp [h]
theorem frz_alloc (w : World) (c : Array Value) (T : TypeId) (b : Nat) : frz (w.alloc (.cells c T)) b = if b = w.heap.size then (0, 0) else frz w b := by
  unfold frz World.alloc
  simp only [Array.getElem?_push]
  by_cases h : b = w.heap.size <;> simp [h]
theorem ents_alloc (w : World) (c : Array Value) (T : TypeId) (b : Nat) : ents (w.alloc (.cells c T)) b = if b = w.heap.size then none else ents w b := by
  unfold ents World.alloc
  simp only [Array.getElem?_push]
  by_cases h : b = w.heap.size <;> simp [h]
theorem cel_allocM (w : World) (es : Array MapEntry) (c : Nat) (b : Nat) : cel (w.alloc (.map es c)) b = if b = w.heap.size then none else cel w b := by
  unfold cel World.alloc
  simp only [Array.getElem?_push]
  by_cases h : b = w.heap.size <;> simp [h]
theorem frz_allocM (w : World) (es : Array MapEntry) (c : Nat) (b : Nat) : frz (w.alloc (.map es c)) b = if b = w.heap.size then (0, 0) else frz w b := by
  unfold frz World.alloc
  simp only [Array.getElem?_push]
  by_cases h : b = w.heap.size <;> simp [h]
theorem ents_allocM (w : World) (es : Array MapEntry) (c : Nat) (b : Nat) : ents (w.alloc (.map es c)) b = if b = w.heap.size then some (es, c) else ents w b := by
  unfold ents World.alloc
  simp only [Array.getElem?_push]
  by_cases h : b = w.heap.size <;> simp [h]

/-! draws -/
theorem cel_drew (w : World) (b : Nat) : cel w.drew b = cel w b := rfl
theorem frz_drew (w : World) (b : Nat) : frz w.drew b = frz w b := rfl
theorem ents_drew (w : World) (b : Nat) : ents w.drew b = ents w b := rfl
theorem size_drew (w : World) : w.drew.heap.size = w.heap.size := rfl
theorem cel_heap {w w' : World} (h : w'.heap = w.heap) (b : Nat) : cel w' b = cel w b := by unfold cel; rw [h]
theorem frz_heap {w w' : World} (h : w'.heap = w.heap) (b : Nat) : frz w' b = frz w b := by unfold frz; rw [h]
theorem ents_heap {w w' : World} (h : w'.heap = w.heap) (b : Nat) : ents w' b = ents w b := by unfold ents; rw [h]

/-! a map's block is another one -/
theorem cel_setO {w : World} {m b : Nat} {es es' : Array MapEntry} {c c' : Nat} (h : ents w m = some (es, c)) : cel (World.setO w m (.map es' c')) b = cel w b := by
  unfold cel World.setO
  unfold ents at h
  simp only [Array.getElem?_setIfInBounds]
  by_cases hb : m = b
  · subst hb
    split at h
    · rename_i hm
      have := (Array.getElem?_eq_some_iff.1 hm).1
      rw [hm]; simp [this]
    · cases h
  · simp [hb]
theorem frz_setO {w : World} {m b : Nat} {es es' : Array MapEntry} {c c' : Nat} (h : ents w m = some (es, c)) : frz (World.setO w m (.map es' c')) b = frz w b := by
  unfold frz World.setO
  unfold ents at h
  simp only [Array.getElem?_setIfInBounds]
  by_cases hb : m = b
  · subst hb
    split at h
    · rename_i hm
      have := (Array.getElem?_eq_some_iff.1 hm).1
      rw [hm]; simp [this]
    · cases h
  · simp [hb]
theorem ents_setO {w : World} {m b : Nat} {es es' : Array MapEntry} {c c' : Nat} (h : ents w m = some (es, c)) : ents (World.setO w m (.map es' c')) b = if m = b then some (es', c') else ents w b := by
  unfold ents World.setO
  unfold ents at h
  simp only [Array.getElem?_setIfInBounds]
  by_cases hb : m = b
  · subst hb
    split at h
    · rename_i hm
      have := (Array.getElem?_eq_some_iff.1 hm).1
      simp [this]
    · cases h
  · simp [hb]
theorem size_setO (w : World) (m : Nat) (o : Obj) : (World.setO w m o).heap.size = w.heap.size := by simp [World.setO]
theorem heap_ents {w : World} {m : Nat} {es : Array MapEntry} {c : Nat} : w.heap[m]? = some (.map es c) ↔ ents w m = some (es, c) := by
  unfold ents
  constructor
  · intro h; rw [h]
  · intro h
    split at h
    · rename_i hm; simp at h; obtain ⟨rfl, rfl⟩ := h; exact hm
    · cases h

/-! what a call leaves -/
theorem Rest.frz {w w' : World} (h : Rest w w') {b : Nat} (hb : b < w.heap.size) : frz w' b = frz w b := by
  unfold SX.frz
  cases hw : w.heap[b]? with
  | none => rw [Array.getElem?_eq_none_iff] at hw; omega
  | some o =>
    cases o with
    | cells c T fz =>
      obtain ⟨c', h1, _⟩ := h.cells b c T fz hw
      rw [h1]
    | _ =>
      have := h.others b (by intro c T fz he; rw [hw] at he; cases he) hb
      split
      · rename_i h2; exact absurd h2 (this _ _ _)
      · rfl
theorem Rest.celLen {w w' : World} (h : Rest w w') {b : Nat} {l : List Value} (hb : cel w b = some l) : ∃ l', cel w' b = some l' ∧ l'.length = l.length := by
  unfold cel at *
  split at hb
  · rename_i c T fz hw
    obtain ⟨c', h1, h2⟩ := h.cells b c T fz hw
    rw [h1]
    simp at hb; subst hb
    exact ⟨c'.toList, rfl, by simpa using h2⟩
  · cases hb

/-! calls -/
theorem cl_mono {P : Program} {f : FuncId} {args : List Value} {k k' : Value → M} {w : World} (h : cl P f args k w) (hk : ∀ v w', Rest w w' → k v w' → k' v w') : cl P f args k' w :=
  Calls.mono h fun e w' ⟨v, he, hr, hv⟩ => ⟨v, he, hr, hk v w' hr hv⟩

theorem clv_func {P : Program} {g : FuncId} {x y : Array Value} {args : List Value} {k : Value → M} {w : World} (hb : bodyB P g = true) (h : cl P g (x.toList ++ args ++ y.toList) k w) : clv P (.func (.func g) x y) args k w :=
  ⟨g, x, y, rfl, hb, h⟩

theorem lp_of {σ : Type} {B : σ → (σ → M) → M} (I : σ → World → Prop) (μ : σ → World → Nat)
    (round : ∀ s w (j : σ → M), I s w → (∀ s' w', I s' w' → μ s' w' < μ s w → j s' w') → B s j w) {s : σ} {w : World} (h : I s w) : lp B s w := by
  have key : ∀ n s w, μ s w ≤ n → I s w → lpN B (n + 1) s w := by
    intro n
    induction n with
    | zero => intro s w hm hi; exact round s w _ hi (fun s' w' _ hl => by omega)
    | succ n ih => intro s w hm hi; exact round s w _ hi (fun s' w' hi' hl => ih s' w' (by omega) hi')
  exact ⟨_, key _ s w (Nat.le_refl _) h⟩

/-- a world like another one but for what was drawn -/
def Like (w w' : World) : Prop := w'.heap = w.heap
theorem Like.refl (w : World) : Like w w := rfl
theorem Like.drew (w : World) : Like w w.drew := rfl
theorem Like.trans {a b c : World} (h : Like a b) (g : Like b c) : Like a c := Eq.trans g h

end Go.SX
