/- SX: what an operation's word says that does something, is what the model does. -/
import Derived.Test.YtlcaelckplknnaaGreatDoorSXQuiet4
set_option linter.unusedVariables false
set_option linter.unusedSimpArgs false
namespace Go.SX
open Go

variable {P : Program}

/-! what stays -/
theorem Rest.refl (w : World) : Rest w w := ⟨rfl, rfl, rfl, Nat.le_refl _, fun _ c _ _ h => ⟨c, h, rfl⟩, fun _ h _ => h⟩
theorem Rest.trans {a b c : World} (h : Rest a b) (g : Rest b c) : Rest a c :=
  ⟨g.os.trans h.os, g.output.trans h.output, g.tape.trans h.tape, Nat.le_trans h.size g.size,
    fun x cs T fz hx => by
      obtain ⟨c1, h1, s1⟩ := h.cells x cs T fz hx
      obtain ⟨c2, h2, s2⟩ := g.cells x c1 T fz h1
      exact ⟨c2, h2, s2.trans s1⟩,
    fun x hx hl => g.others x (h.others x hx hl) (Nat.lt_of_lt_of_le hl h.size)⟩
theorem Rest.of_heap {w w' : World} (h1 : w'.os = w.os) (h2 : w'.output = w.output) (h3 : w'.tape = w.tape) (h4 : w'.heap = w.heap) : Rest w w' :=
  ⟨h1, h2, h3, by rw [h4]; exact Nat.le_refl _, fun _ c _ _ h => ⟨c, by rw [h4]; exact h, rfl⟩, fun _ h _ => by rw [h4]; exact h⟩
theorem Rest.alloc (w : World) (o : Obj) : Rest w (w.alloc o) := by
  refine ⟨rfl, rfl, rfl, by simp, fun x c T fz h => ⟨c, ?_, rfl⟩, fun x h hl c T fz => ?_⟩
  · have hl : x < w.heap.size := (Array.getElem?_eq_some_iff.1 h).1
    simp only [World.alloc, Array.getElem?_push]; rw [if_neg (by omega)]; exact h
  · simp only [World.alloc, Array.getElem?_push]; rw [if_neg (by omega)]; exact h c T fz
theorem Rest.setCell (w : World) (a : Addr) (v : Value) : Rest w (w.setCell a v) := by
  refine ⟨rfl, rfl, rfl, by simp, fun x c T fz h => ?_, fun x h hl c T fz => ?_⟩
  · simp only [World.setCell, Array.getElem?_modify, h]
    by_cases hx : a.block = x
    · refine ⟨(if a.spot.isSome then c else c.setIfInBounds a.off v), by simp [hx], ?_⟩
      split <;> simp
    · exact ⟨c, by simp [hx], rfl⟩
  · simp only [World.setCell, Array.getElem?_modify]
    have hh := h
    cases hw : w.heap[x]? with
    | none => simp
    | some o =>
      by_cases hx : a.block = x
      · simp only [hx, if_true, Option.map_some]
        cases o with
        | cells c' T' fz' => exact absurd hw (h c' T' fz')
        | _ => simp
      · simp only [hx, if_false]
        intro he
        exact h c T fz (by rw [hw]; exact he)
theorem Rest.setO {w : World} {b : Nat} {o o' : Obj} (hb : w.heap[b]? = some o) (h1 : ∀ c T fz, o ≠ .cells c T fz) (h2 : ∀ c T fz, o' ≠ .cells c T fz) : Rest w (World.setO w b o') := by
  refine ⟨rfl, rfl, rfl, by simp [World.setO], fun x c T fz h => ⟨c, ?_, rfl⟩, fun x h hl c T fz => ?_⟩
  · simp only [World.setO, Array.getElem?_setIfInBounds]
    by_cases hx : b = x
    · subst hx; rw [hb] at h; exact absurd (Option.some.inj h) (h1 c T fz)
    · simp [hx, h]
  · simp only [World.setO, Array.getElem?_setIfInBounds]
    by_cases hx : b = x
    · subst hx
      rw [if_pos rfl, if_pos hl]
      intro he; exact h2 c T fz (Option.some.inj he)
    · simp only [hx, if_false]; exact h c T fz

/-! reads -/
theorem Rd.same.refl (w : World) (r : Rd) : r.same w w := by cases r <;> simp [Rd.same]
theorem Rd.same.trans {a b c : World} {r : Rd} (h : r.same a b) (g : r.same b c) : r.same a c := by
  cases r with
  | cells x n => exact fun i hi => (g i hi).trans (h i hi)
  | obj x => exact Eq.trans g h
theorem Rd.same.ok {a b : World} {r : Rd} (h : r.same a b) (g : r.ok a) : r.ok b := by
  cases r with
  | cells x n => exact fun i hi => by rw [h i hi]; exact g i hi
  | obj x => simp only [Rd.ok, Rd.same] at *; rw [h]; exact g
theorem cell_lt {w : World} {a : Addr} {v : Value} (h : w.cell? a = some v) : a.block < w.heap.size := by
  unfold World.cell? at h
  split at h
  · rename_i hb; exact (Array.getElem?_eq_some_iff.1 hb).1
  · cases h
theorem Rd.ok.alloc {w : World} {r : Rd} (h : r.ok w) (o : Obj) : r.same w (w.alloc o) := by
  cases r with
  | cells x n =>
    intro i hi
    obtain ⟨v, hv⟩ := Option.isSome_iff_exists.1 (h i hi)
    exact World.cell?_alloc_lt w o _ (cell_lt hv)
  | obj x =>
    simp only [Rd.ok] at h
    have hl : x < w.heap.size := by
      obtain ⟨v, hv⟩ := Option.isSome_iff_exists.1 h
      exact (Array.getElem?_eq_some_iff.1 hv).1
    simp only [Rd.same, World.alloc, Array.getElem?_push]; rw [if_neg (by omega)]
theorem Rd.same.of_heap {w w' : World} (h : w'.heap = w.heap) (r : Rd) : r.same w w' := by
  cases r <;> simp [Rd.same, World.cell?, h]

theorem kpw_sound {ks : List Rd} {k : Value → M} {w w' : World} {v : Value} (h : kpw ks k w v w') : (∀ r ∈ ks, r.same w w') ∧ k v w' := by
  cases ks with
  | nil => exact ⟨by simp, h⟩
  | cons r ks => exact h

theorem ok1_one {v : Value} (h : ok1 v = true) : v.oneCell' = true := by cases v <;> first | rfl | (simp [ok1] at h)
theorem ok1_cells {v : Value} (h : ok1 v = true) : v.cells = #[v] := by cases v <;> first | rfl | (simp [ok1] at h)

theorem run_setCell {w : World} {a : Addr} {v u : Value} (hu : w.cell? a = some u) (hf : w.frozen? a = false) (hv : ok1 v = true) : (store a v).run P w = .ok () (w.setCell a v) := by
  rw [run_store P w a v .plain (ok1_one hv), hu]; simp [hf]

theorem cell_setCell {w : World} {a b : Addr} {v : Value} (h : ∃ u, w.cell? b = some u) : ∃ u, (w.setCell a v).cell? b = some u := by
  obtain ⟨u, hu⟩ := h
  by_cases hab : a = b
  · subst hab; exact ⟨v, World.cell?_setCell_same w a v hu⟩
  · exact ⟨u, by rw [World.cell?_setCell_other w a b v hab]; exact hu⟩
theorem frozen_setCell {w : World} {a b : Addr} {v : Value} : (w.setCell a v).frozen? b = w.frozen? b := by
  simp only [World.frozen?, World.setCell, Array.getElem?_modify]
  by_cases hx : a.block = b.block
  · simp only [hx, if_true]
    cases w.heap[b.block]? with
    | none => rfl
    | some o => cases o <;> rfl
  · simp [hx]

theorem run_storeCells {a : Addr} : ∀ (vs : List Value) (i : Nat) (w : World), (∀ j, j < vs.length → (∃ u, w.cell? (a.add (i + j)) = some u) ∧ w.frozen? (a.add (i + j)) = false) → vs.all ok1 = true →
    (storeCells a vs i).run P w = .ok () (setN a i vs w)
  | [], i, w, _, _ => by simp [storeCells, setN]
  | v :: vs, i, w, h, hv => by
    simp only [List.all_cons, Bool.and_eq_true] at hv
    obtain ⟨⟨u, hu⟩, hf⟩ := h 0 (by simp)
    simp only [Nat.add_zero] at hu hf
    simp only [storeCells, Sem.run_bind, run_setCell hu hf hv.1, Result.andThen_ok, setN]
    refine run_storeCells vs (i + 1) _ (fun j hj => ?_) hv.2
    obtain ⟨h1, h2⟩ := h (j + 1) (by simpa using hj)
    rw [show i + 1 + j = i + (j + 1) by omega]
    exact ⟨cell_setCell h1, by rw [frozen_setCell]; exact h2⟩

theorem Rest.setN {a : Addr} : ∀ (vs : List Value) (i : Nat) (w : World), Rest w (setN a i vs w)
  | [], i, w => Rest.refl w
  | v :: vs, i, w => (Rest.setCell w _ v).trans (Rest.setN vs (i + 1) _)

theorem stN_sound {a : Addr} {vs : List Value} {k : M} {w : World} (h : stN a vs k w) : (storeCells a vs).run P w = .ok () (setN a 0 vs w) ∧ Rest w (setN a 0 vs w) ∧ k (setN a 0 vs w) := by
  obtain ⟨h1, h2, h3⟩ := h
  exact ⟨run_storeCells vs 0 w (fun j hj => by simpa using h1 j hj) h2, Rest.setN vs 0 w, h3⟩

theorem rdN_sound {a : Addr} {n : Nat} {k : List Value → M} {w : World} (h : rdN a n k w) : ∃ cs, (∀ w' : World, w'.heap = w.heap → (loadCells a n).run P w' = .ok cs.toArray w') ∧ k cs w := by
  obtain ⟨cs, hl, hc, hk⟩ := h
  refine ⟨cs, fun w' hw => ?_, hk⟩
  rw [← hl]
  refine run_loadCells_list w' a cs fun j v hj => ?_
  have hjl := (List.getElem?_eq_some_iff.1 hj).1
  have := hc j (by omega)
  have hh : w'.cell? (a.add j) = w.cell? (a.add j) := by simp [World.cell?, hw]
  rw [hh, this, hj]

theorem rdS_sound {a : Option Addr} {n sz l c : Nat} {k : List Value → M} {w : World} (h : rdS a n sz k w) : ∃ cs, (∀ w' : World, w'.heap = w.heap → (Builtin.firstCells sz n (.slice a l c)).run P w' = .ok cs.toArray w') ∧ k cs w := by
  cases a with
  | none => exact ⟨[], fun w' _ => by simp [Builtin.firstCells], h⟩
  | some a =>
    obtain ⟨cs, h1, h2⟩ := rdN_sound (P := P) h
    exact ⟨cs, fun w' hw => by simp only [Builtin.firstCells]; exact h1 w' hw, h2⟩

theorem repV_get (z : List Value) : ∀ (n i : Nat), i < n * z.length → (repV n z)[i]? = z[i % z.length]?
  | 0, i, h => by simp at h
  | n + 1, i, h => by
    have hz : 0 < z.length := by
      rcases Nat.eq_zero_or_pos z.length with h0 | h0
      · rw [h0] at h; omega
      · exact h0
    simp only [repV]
    by_cases hi : i < z.length
    · rw [List.getElem?_append_left hi, Nat.mod_eq_of_lt hi]
    · rw [List.getElem?_append_right (by omega), repV_get z n (i - z.length) (by rw [Nat.succ_mul] at h; omega)]
      rw [← Nat.mod_eq_sub_mod (by omega)]
theorem repV_length (z : List Value) : ∀ n, (repV n z).length = n * z.length
  | 0 => by simp [repV]
  | n + 1 => by simp [repV, repV_length z n, Nat.succ_mul, Nat.add_comm]
theorem repC_eq (z : List Value) : ∀ n, repC n z = repV n z
  | 0 => rfl
  | n + 1 => by simp [repC, repV, repC_eq z n]
theorem rep_arr (zs : Array Value) (n : Nat) : (Array.range (n * zs.size)).map (fun i => zs[i % zs.size]!) = (repV n zs.toList).toArray := by
  apply Array.ext'
  apply List.ext_getElem?
  intro i
  simp only [Array.toList_map, Array.toList_range, List.getElem?_map]
  by_cases hi : i < n * zs.size
  · have hz : 0 < zs.size := by
      rcases Nat.eq_zero_or_pos zs.size with h0 | h0
      · rw [h0] at hi; omega
      · exact h0
    have hm : i % zs.size < zs.size := Nat.mod_lt _ hz
    rw [repV_get zs.toList n i (by simpa using hi)]
    simp [hi, hm, List.getElem?_range]
  · rw [List.getElem?_eq_none (by simp; omega), List.getElem?_eq_none (by rw [repV_length]; simp; omega)]
    rfl

theorem infoM_sound {T : TypeId} {k : Nat → Nat → List Value → M} {w : World} (h : infoM P T k w) :
    ∃ i v, P.info? T = some i ∧ i.zero = some v ∧ v.cells.size = i.size ∧ k i.size i.bytes v.cells.toList w := by
  unfold infoM at h
  rcases hi : P.info? T with _ | i
  · rw [hi] at h; exact h.elim
  · rw [hi] at h
    rcases hz : zeroL P T with _ | z
    · rw [hz] at h; exact h.elim
    · obtain ⟨i', v, h1, h2, h3⟩ := zeroL_sound hz
      rw [hi] at h1
      obtain rfl := Option.some.inj h1
      rw [hz] at h
      simp only [] at h
      rcases hb : Nat.beq z.length i.size with _ | _
      · rw [hb] at h; exact h.elim
      · rw [hb] at h
        refine ⟨i, v, rfl, h2, ?_, by rw [h3]; exact h⟩
        have := Nat.eq_of_beq_eq_true hb
        rw [← this, ← h3]; simp

theorem wsl_sound {v : Value} {k : Sl → M} {w : World} (h : wsl (slOf v) k w) : ∃ a l c, v = .slice a l c ∧ k ⟨a, l, c⟩ w := by
  cases v
  case slice a l c => exact ⟨a, l, c, rfl, h⟩
  all_goals exact h.elim

theorem nextslicecap_le (n o : Nat) (h : o < n) : Builtin.nextslicecap n o ≤ 2 * n := by
  unfold Builtin.nextslicecap
  split
  · omega
  · split
    · omega
    · have g : ∀ r c, c ≤ 2 * n → (256 ≤ c) → Builtin.growBy n r c ≤ 2 * n := by
        intro r
        induction r with
        | zero => intro c hc _; simp [Builtin.growBy]; exact hc
        | succ r ih =>
          intro c hc h2
          simp only [Builtin.growBy]
          split
          · exact hc
          · exact ih _ (by omega) (by omega)
      exact g 4 o (by omega) (by omega)

end Go.SX
