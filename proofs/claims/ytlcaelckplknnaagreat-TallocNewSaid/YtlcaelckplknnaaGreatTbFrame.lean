/- Plain laws: what stays of a world. -/
import Derived.Test.YtlcaelckplknnaaGreatSXLib
set_option linter.unusedVariables false
set_option linter.unusedSimpArgs false
namespace Go.TB
open Go Go.SX

/-- but for blocks of S, what was there is as it was -/
structure Fr (S : Nat → Prop) (w w' : World) : Prop where
  size : w.heap.size ≤ w'.heap.size
  same : ∀ b, b < w.heap.size → ¬ S b → w'.heap[b]? = w.heap[b]?
  fz : ∀ b, b < w.heap.size → frz w' b = frz w b
  nf : ∀ a : Addr, w.heap.size ≤ a.block → w'.frozen? a = false
/-- nothing -/
def No : Nat → Prop := fun _ => False

theorem frz_none {w : World} {b : Nat} (h : w.heap.size ≤ b) : frz w b = (0, 0) := by
  unfold SX.frz; rw [Array.getElem?_eq_none h]
theorem frozen_eq (w : World) (a : Addr) : w.frozen? a = (decide ((frz w a.block).1 ≤ a.off) && decide (a.off < (frz w a.block).2)) := by
  unfold World.frozen? SX.frz
  cases w.heap[a.block]? with
  | none => simp
  | some o => cases o <;> simp
theorem nf_of {w : World} {a : Addr} (h : frz w a.block = (0, 0)) : w.frozen? a = false := by rw [frozen_eq, h]; simp
theorem Fr.refl (S : Nat → Prop) (w : World) : Fr S w w := ⟨Nat.le_refl _, fun _ _ _ => rfl, fun _ _ => rfl, fun _ h => nf_of (frz_none h)⟩
/-- behind what was there, all is open -/
theorem Fr.trans' {S S' : Nat → Prop} {a b c : World} (h : Fr S a b) (g : Fr S' b c) (hs : ∀ x, x < a.heap.size → S' x → S x) : Fr S a c :=
  ⟨Nat.le_trans h.size g.size, fun x hx hn => (g.same x (Nat.lt_of_lt_of_le hx h.size) (fun hh => hn (hs x hx hh))).trans (h.same x hx hn), fun x hx => (g.fz x (Nat.lt_of_lt_of_le hx h.size)).trans (h.fz x hx),
    fun x hx => by
      rcases Nat.lt_or_ge x.block b.heap.size with h1 | h1
      · rw [frozen_eq, g.fz x.block h1, ← frozen_eq]; exact h.nf x hx
      · exact g.nf x h1⟩
theorem Fr.trans {S : Nat → Prop} {a b c : World} (h : Fr S a b) (g : Fr S b c) : Fr S a c := h.trans' g fun _ _ h => h
theorem Fr.mono {S S' : Nat → Prop} {a b : World} (h : Fr S a b) (hs : ∀ x, x < a.heap.size → S x → S' x) : Fr S' a b :=
  ⟨h.size, fun x hx hn => h.same x hx (fun hh => hn (hs x hx hh)), h.fz, h.nf⟩
theorem Fr.no {S : Nat → Prop} {a b : World} (h : Fr No a b) : Fr S a b := h.mono fun _ _ h => h.elim
theorem Fr.heap {S : Nat → Prop} {w w' : World} (h : w'.heap = w.heap) : Fr S w w' := ⟨by rw [h]; exact Nat.le_refl _, fun _ _ _ => by rw [h], fun _ _ => frz_heap h _, fun b hb => nf_of (by rw [frz_heap h]; exact frz_none hb)⟩
theorem Fr.drew (S : Nat → Prop) (w : World) : Fr S w w.drew := Fr.heap rfl
theorem Fr.alloc (S : Nat → Prop) (w : World) (o : Obj) (ho : ∀ c T fz, o = .cells c T fz → fz = (0, 0) := by first | (intro c T fz h; cases h; rfl) | (intro c T fz h; cases h)) : Fr S w (w.alloc o) := by
  have hg : ∀ b, (w.alloc o).heap[b]? = if b = w.heap.size then some o else w.heap[b]? := fun b => by
    show (w.heap.push o)[b]? = _
    rw [Array.getElem?_push]
  refine ⟨by simp, fun b hb _ => by rw [hg, if_neg (by omega)], fun b hb => ?_, fun b hb => ?_⟩
  · unfold SX.frz; rw [hg, if_neg (by omega)]
  · refine nf_of ?_
    obtain ⟨b, o', sp⟩ := b
    simp only at hb ⊢
    unfold SX.frz; rw [hg]
    by_cases h : b = w.heap.size
    · rw [if_pos h]
      cases o with
      | cells c T fz => exact ho c T fz rfl
      | _ => rfl
    · rw [if_neg h, Array.getElem?_eq_none hb]
theorem Fr.setCell {S : Nat → Prop} (w : World) (a : Addr) (v : Value) (h : S a.block) : Fr S w (w.setCell a v) :=
  ⟨by simp, fun b hb hn => by
    simp only [World.setCell, Array.getElem?_modify]
    have : a.block ≠ b := fun he => hn (he ▸ h)
    simp [this], fun b _ => frz_setCell w a b v, fun b hb => nf_of (by rw [frz_setCell]; exact frz_none hb)⟩
theorem Fr.setN {S : Nat → Prop} {a : Addr} (h : S a.block) (hs : a.spot = none) : ∀ (vs : List Value) (i : Nat) (w : World), Fr S w (setN a i vs w)
  | [], i, w => Fr.refl S w
  | v :: vs, i, w => by
    have hb : (a.add i).block = a.block := by unfold Addr.add; split <;> rfl
    exact (Fr.setCell w (a.add i) v (by rw [hb]; exact h)).trans (Fr.setN h hs vs (i + 1) _)
theorem Fr.setO {S : Nat → Prop} (w : World) (b : Nat) {es es' : Array MapEntry} {c c' : Nat} (h : S b) (hb : ents w b = some (es, c)) : Fr S w (World.setO w b (.map es' c')) :=
  ⟨by simp [World.setO], fun x hx hn => by
    simp only [World.setO, Array.getElem?_setIfInBounds]
    have : b ≠ x := fun he => hn (he ▸ h)
    simp [this], fun x _ => frz_setO hb, fun x hx => nf_of (by rw [frz_setO hb]; exact frz_none hx)⟩

theorem Fr.cel {S : Nat → Prop} {w w' : World} (h : Fr S w w') {b : Nat} (hb : b < w.heap.size) (hn : ¬ S b) : cel w' b = cel w b := by
  unfold SX.cel; rw [h.same b hb hn]
theorem Fr.frz {S : Nat → Prop} {w w' : World} (h : Fr S w w') {b : Nat} (hb : b < w.heap.size) (hn : ¬ S b) : frz w' b = frz w b := by
  unfold SX.frz; rw [h.same b hb hn]
theorem Fr.ents {S : Nat → Prop} {w w' : World} (h : Fr S w w') {b : Nat} (hb : b < w.heap.size) (hn : ¬ S b) : ents w' b = ents w b := by
  unfold SX.ents; rw [h.same b hb hn]
theorem ents_lt {w : World} {b : Nat} {x : Array MapEntry × Nat} (h : ents w b = some x) : b < w.heap.size := by
  unfold SX.ents at h
  split at h
  · rename_i hb; exact (Array.getElem?_eq_some_iff.1 hb).1
  · cases h
theorem Fr.cel_of {S : Nat → Prop} {w w' : World} (h : Fr S w w') {b : Nat} {l : List Value} (hb : SX.cel w b = some l) (hn : ¬ S b) : SX.cel w' b = some l := by
  rw [h.cel (cel_lt hb) hn, hb]
theorem Fr.ents_of {S : Nat → Prop} {w w' : World} (h : Fr S w w') {b : Nat} {x : Array MapEntry × Nat} (hb : SX.ents w b = some x) (hn : ¬ S b) : SX.ents w' b = some x := by
  rw [h.ents (ents_lt hb) hn, hb]

/-! the words, step by step -/
theorem ld_of {s : Srt} {b o : Nat} {k : s.D → M} {w : World} {l : List Value} {d : s.D} (hb : cel w b = some l) (hl : l[o]? = some (s.val d)) (hk : k d w) : ld s ⟨b, o, none⟩ k w :=
  ⟨d, by rw [cell_cel, hb]; exact hl, hk⟩
theorem st_of {b o : Nat} {v : Value} {k : M} {w : World} {l : List Value} (hb : cel w b = some l) (hl : o < l.length) (hf : frz w b = (0, 0)) (hk : k (w.setCell ⟨b, o, none⟩ v)) : st ⟨b, o, none⟩ v k w :=
  ⟨⟨l[o], by rw [cell_cel, hb]; simp [hl]⟩, by rw [frozen_frz, hf]; simp, hk⟩
theorem stN_of {b o : Nat} {vs : List Value} {k : M} {w : World} {l : List Value} (hb : cel w b = some l) (hl : o + vs.length ≤ l.length) (hf : frz w b = (0, 0)) (hv : vs.all ok1 = true) (hk : k (setN ⟨b, o, none⟩ 0 vs w)) : stN ⟨b, o, none⟩ vs k w := by
  refine ⟨fun i hi => ⟨⟨l[o + i]'(by omega), ?_⟩, ?_⟩, hv, hk⟩
  · rw [add_mk, cell_cel, hb]
    show l[o + i]? = _
    rw [List.getElem?_eq_getElem (by omega)]
  · rw [add_mk, frozen_frz, hf]; simp
theorem rdN_of {b o n : Nat} {k : List Value → M} {w : World} {l : List Value} (hb : cel w b = some l) (hl : o + n ≤ l.length) (hk : k ((l.drop o).take n) w) : rdN ⟨b, o, none⟩ n k w := by
  refine ⟨(l.drop o).take n, by simp; omega, fun i hi => ?_, hk⟩
  rw [add_mk, cell_cel, hb]
  show l[o + i]? = _
  rw [List.getElem?_take_of_lt hi, List.getElem?_drop]
theorem ix_of {b o len sz : Nat} {i : Int} {k : Addr → M} {w : World} (h0 : 0 ≤ i) (h1 : i < len) (hk : k ⟨b, o + i.toNat * sz, none⟩ w) : ix (some ⟨b, o, none⟩) len i sz k w :=
  ⟨_, rfl, h0, h1, by rw [add_mk]; exact hk⟩
theorem br_true {x y : M} : br true x y = x := rfl
theorem br_false {x y : M} : br false x y = y := rfl
theorem br_of {b : Bool} {x y : M} {w : World} (h1 : b = true → x w) (h2 : b = false → y w) : br b x y w := by cases b; exact h2 rfl; exact h1 rfl
theorem nn_some {a : Addr} {k : Addr → M} : nn (some a) k = k a := rfl
theorem xd_of {s : Srt} {k : s.D → M} {w : World} (d : s.D) (h : k d w) : xd s k w := ⟨d, h⟩
theorem rq_of {p : Prop} {k : M} {w : World} (hp : p) (hk : k w) : rq p k w := ⟨hp, hk⟩
theorem dr_of {k : M} {w : World} (h : k w.drew) : dr k w := h
theorem jn_def {σ : Type} (J : σ → M) (B : (σ → M) → M) : jn J B = B J := rfl
theorem eqI_iff {x y : Int} : eqI x y = decide (x = y) := by unfold eqI; rw [Bool.eq_iff_iff]; simp
theorem neI_iff {x y : Int} : neI x y = decide (x ≠ y) := by unfold neI; rw [Bool.eq_iff_iff]; simp
theorem ltI_iff {x y : Int} : ltI x y = decide (x < y) := rfl
theorem leI_iff {x y : Int} : leI x y = decide (x ≤ y) := rfl
theorem eqBl_iff {x y : Bool} : eqBl x y = decide (x = y) := by unfold eqBl; cases x <;> cases y <;> rfl
theorem notB_iff {x : Bool} : notB x = !x := rfl
theorem andB_iff {x y : Bool} : andB x y = (x && y) := rfl
theorem isN_some {α : Type} {x : α} : isN (some x) = false := rfl
theorem isN_none {α : Type} : isN (none : Option α) = true := rfl
theorem slA_some {b o cap l sz : Nat} : slA (some ⟨b, o, none⟩) cap l sz = some ⟨b, (if cap = l then o else o + l * sz), none⟩ := by
  unfold slA; split
  · rfl
  · simp [add_mk]

end Go.TB
