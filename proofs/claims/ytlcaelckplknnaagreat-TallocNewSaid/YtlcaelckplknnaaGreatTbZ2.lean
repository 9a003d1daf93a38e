/- Contracts: a pool is made; what its calls begin. -/
import Derived.Test.YtlcaelckplknnaaGreatTbZ1
set_option linter.unusedVariables false
set_option linter.unusedSimpArgs false
namespace Go.TB
open Go Go.SX

theorem c_ref09_May {w : World} (m g : Int) (hm : -9223372036854775808 ≤ m ∧ m ≤ 9223372036854775807) (hg : -9223372036854775808 ≤ g ∧ g ≤ 9223372036854775807) (R : Value → M) (hR : ∀ b : Bool, (b = true ↔ may m g) → R (.bool b) w) : cl prog N.ref09_May [.int .i64 m, .int .i64 g] R w := by
  refine T.ref09_May _ _ R w ?_
  unfold S.ref09_May
  simp only [dr_iff, cel_drew, frz_drew, isN_some, isN_none, br_false, br_true, jn_def, nn_some, add_mk, br_if, ld_s, ld_i, ld_p, ld_b, ex_sl, tup1, tup2, tup3, ex2, ex3, xd_i, xd_b, xd_p, xd_s, rq_iff, ltI_iff, leI_iff, eqI_iff, neI_iff, notB_iff, andB_iff, decide_eq_true_eq, Bool.not_eq_true', decide_eq_false_iff_not, Bool.false_eq_true, if_false, if_true, Option.bind_some, Nat.add_zero, Nat.zero_add, List.getElem?_cons_zero, List.getElem?_cons_succ, Option.some.injEq, Value.slice.injEq, Value.int.injEq, Value.bool.injEq, Value.pointer.injEq, exists_eq_left', exists_eq_left, true_and, and_true, ne_eq, not_true_eq_false, not_false_eq_true]
  unfold may at *
  have no : ¬ (0 ≤ m ∧ 0 ≤ g ∧ m ≤ 256 ∧ g ≤ 256 - m ∧ 1 ≤ m + g) → R (.bool false) w := fun h => hR false (by simp only [Bool.false_eq_true, false_iff]; exact h)
  by_cases c1 : 0 ≤ m
  · rw [if_pos c1]
    by_cases c2 : 0 ≤ g
    · rw [if_pos c2]
      by_cases c3 : m ≤ 256
      · rw [if_pos c3]
        by_cases c4 : g ≤ 256
        · rw [if_pos c4, wrapId (n := m + g) (by omega) (by omega)]
          by_cases c5 : 1 ≤ m + g
          · rw [if_pos c5]
            exact hR _ (by rw [decide_eq_true_eq]; omega)
          · rw [if_neg c5]; exact no (by omega)
        · rw [if_neg c4]; exact no (by omega)
      · rw [if_neg c3]; exact no (by omega)
    · rw [if_neg c2]; exact no (by omega)
  · rw [if_neg c1]; exact no (by omega)

def mayT (m g t : Int) : Prop := may m g ∧ 1 ≤ t ∧ t ≤ 64
theorem c_ref13_May {w : World} (m g t : Int) (hm : -9223372036854775808 ≤ m ∧ m ≤ 9223372036854775807) (hg : -9223372036854775808 ≤ g ∧ g ≤ 9223372036854775807) (R : Value → M) (hR : ∀ b : Bool, (b = true ↔ mayT m g t) → R (.bool b) w) : cl prog N.ref13_May [.int .i64 m, .int .i64 g, .int .i64 t] R w := by
  refine T.ref13_May _ _ _ R w ?_
  unfold S.ref13_May
  refine c_ref09_May m g hm hg _ fun b hb => ?_
  refine xd_of _ (rq_of rfl ?_)
  cases b with
  | true =>
    have hm' := hb.1 rfl
    rw [br_true]
    by_cases c2 : 1 ≤ t
    · have e : leI 1 t = true := by rw [leI_iff, decide_eq_true c2]
      rw [e, br_true]; exact hR _ (by unfold mayT; rw [leI_iff, decide_eq_true_eq]; exact ⟨fun h => ⟨hm', c2, h⟩, fun h => h.2.2⟩)
    · have e : leI 1 t = false := by rw [leI_iff, decide_eq_false c2]
      rw [e, br_false]; exact hR _ (by unfold mayT; simp [c2])
  | false =>
    have hm' : ¬ may m g := fun h => by have := hb.2 h; cases this
    rw [br_false]; exact hR _ (by unfold mayT; simp [hm'])

theorem al_of {T : TypeId} {cs : List Value} {k : Addr → M} {w : World} (h : ∀ w', Fr No w w' → cel w' w.heap.size = some cs → frz w' w.heap.size = (0, 0) → k ⟨w.heap.size, 0, none⟩ w') : al T cs k w :=
  h _ (Fr.alloc No w _) (by rw [cel_alloc, if_pos rfl]) (by rw [frz_alloc, if_pos rfl])

/-- a pool with so many quarantines -/
def PoolAt (w : World) (p : Nat) (n : Nat) : Prop :=
  ∃ (l : List Value) (r : Sl) (xs : List Value), cel w p = some l ∧ l[9]? = some (.slice r.a r.len r.cap) ∧ Own w r 1 xs ∧ xs.length = n ∧ ∀ x ∈ xs, ∃ q, x = .pointer (some q)
theorem PoolAt.fr {w w' : World} {p n : Nat} (h : PoolAt w p n) (hF : Fr No w w') : PoolAt w' p n := by
  obtain ⟨l, r, xs, h1, h2, h3, h4⟩ := h
  exact ⟨l, r, xs, hF.cel_of h1 (fun h => h), h2, h3.fr hF (fun _ _ h => h), h4⟩

theorem c_talloc_New {w : World} (m g s t ba wa : Int) (hm : -9223372036854775808 ≤ m ∧ m ≤ 9223372036854775807) (hg : -9223372036854775808 ≤ g ∧ g ≤ 9223372036854775807) (R : Value → M)
    (h0 : ¬ mayT m g t → ∀ w', Fr No w w' → R (.tuple #[.pointer none, .int .i64 1]) w')
    (hR : mayT m g t → ∀ p w', Fr No w w' → PoolAt w' p t.toNat → R (.tuple #[.pointer (some ⟨p, 0, none⟩), .int .i64 0]) w') :
    cl prog N.talloc_New [.agg #[.int .i64 m, .int .i64 g, .int .u64 s, .int .i64 t, .int .i64 ba, .int .i64 wa]] R w := by
  refine T.talloc_New _ _ _ _ _ _ R w ?_
  unfold S.talloc_New
  refine al_of fun w1 hA hc hz1 => ?_
  simp only [add_mk, Nat.zero_add, Nat.add_zero]
  refine ld_of hc rfl (ld_of hc rfl (ld_of hc rfl ?_))
  refine c_region_New m g s hm hg _ (fun hn w2 h2 => ?_) (fun hy b2 w2 h2 => ?_)
  · refine xd_of _ (xd_of _ (rq_of rfl ?_))
    rw [jn_def]
    have e : neI 1 0 = true := by decide
    simp only [e, br_true]
    exact h0 (fun h => hn h.1) w2 (hA.trans h2)
  · refine xd_of _ (xd_of _ (rq_of rfl ?_))
    rw [jn_def]
    have e : neI 0 0 = false := by decide
    rw [e, br_false]
    have hc2 := h2.cel_of hc (fun h => h)
    have hF2 := hA.trans h2
    refine ld_of hc2 rfl ?_
    by_cases c1 : t < 1
    · have e : ltI t 1 = true := by rw [ltI_iff, decide_eq_true c1]
      simp only [e, br_true]
      exact h0 (fun h => by have := h.2.1; omega) w2 hF2
    · have e : ltI t 1 = false := by rw [ltI_iff, decide_eq_false c1]
      rw [e, br_false]
      refine ld_of hc2 rfl ?_
      by_cases c2 : 64 < t
      · have e : ltI 64 t = true := by rw [ltI_iff, decide_eq_true c2]
        simp only [e, br_true]
        exact h0 (fun h => by have := h.2.2; omega) w2 hF2
      · have e : ltI 64 t = false := by rw [ltI_iff, decide_eq_false c2]
        simp only [e, br_false]
        refine dr_of ?_
        have hok := hR ⟨hy, by omega, by omega⟩
        have hF3 : Fr No w w2.drew := hF2.trans (Fr.drew _ _)
        have hc3 : cel w2.drew w.heap.size = some [.int .i64 m, .int .i64 g, .int .u64 s, .int .i64 t, .int .i64 ba, .int .i64 wa] := hc2
        generalize w2.drew = w3 at hF3 hc3 ⊢
        refine ld_of hc3 rfl (ld_of hc3 rfl (ld_of hc3 rfl (ld_of hc3 rfl (ld_of hc3 rfl (ld_of hc3 rfl (ld_of hc3 rfl (ld_of hc3 rfl ?_)))))))
        have keep : ∀ {u v : World}, Fr No w3 u → Fr No u v → ∀ o n, Rd.same u v (.cells ⟨w.heap.size, o, none⟩ n) := by
          intro u v hu hv o n
          exact same_cells (hv.cel (cel_lt (hu.cel_of hc3 fun h => h)) (fun h => h))
        refine c_fault_New _ _ fun b4 w4 h4 => xd_of _ (rq_of rfl ⟨fun r hr => ?_, ?_⟩)
        · simp only [List.mem_cons, List.not_mem_nil, or_false] at hr
          rcases hr with rfl | rfl | rfl <;> exact keep (Fr.refl _ _) h4 _ _
        refine c_remote_New _ _ _ fun b5 w5 h5 => xd_of _ (rq_of rfl ⟨fun r hr => ?_, ?_⟩)
        · simp only [List.mem_cons, List.not_mem_nil, or_false] at hr
          rcases hr with rfl
          exact keep h4 h5 _ _
        have hF5 := (hF3.trans h4).trans h5
        have hc5 := h5.cel_of (h4.cel_of hc3 fun h => h) (fun h => h)
        have hlt5 := cel_lt hc5
        refine al_of fun w6 hF6 hp6 hpz => ?_
        have hc6 := hF6.cel_of hc5 (fun h => h)
        refine ld_of hc6 rfl ?_
        have hwp : w.heap.size ≤ w5.heap.size := hF5.size
        -- the quarantines, one after another
        refine lp_of (I := fun d u => 0 ≤ d.1 ∧ d.1 ≤ t ∧ Fr No w u ∧ cel u w.heap.size = some [.int .i64 m, .int .i64 g, .int .u64 s, .int .i64 t, .int .i64 ba, .int .i64 wa] ∧ frz u w5.heap.size = (0, 0) ∧
          ∃ (l : List Value) (r : Sl) (xs : List Value), cel u w5.heap.size = some l ∧ l.length = 11 ∧ l[9]? = some (.slice r.a r.len r.cap) ∧ Own u r 1 xs ∧ xs.length = d.1.toNat ∧ (∀ x ∈ xs, ∃ q, x = .pointer (some q)) ∧ ∀ b, inB r b → w.heap.size < b ∧ b ≠ w5.heap.size)
          (fun d _ => (t - d.1).toNat) ?_ ⟨Int.le_refl _, by omega, hF5.trans hF6, hc6, hpz, _, ⟨none, 0, 0⟩, [], hp6, rfl, rfl, Own.nil _ _, rfl, fun x hx => (by cases hx), fun b hb => (by obtain ⟨a, ha, _⟩ := hb; cases ha)⟩
        rintro ⟨k, ⟨⟩⟩ u j ⟨hk0, hk1, hFu, hcu, hzu, l, r, xs, hl, hl11, hl9, hO, hxl, hxs, hin⟩ hj
        simp only [] at hk0 hk1 hxl ⊢
        by_cases c3 : k < t
        · have e : ltI k t = true := by rw [ltI_iff, decide_eq_true c3]
          rw [e, br_true]
          refine dr_of ?_
          have hFu' : Fr No w u.drew := hFu.trans (Fr.drew _ _)
          have hcu' : cel u.drew w.heap.size = some [.int .i64 m, .int .i64 g, .int .u64 s, .int .i64 t, .int .i64 ba, .int .i64 wa] := hcu
          have hl' : cel u.drew w5.heap.size = some l := hl
          have hzu' : frz u.drew w5.heap.size = (0, 0) := hzu
          have hO' : Own u.drew r 1 xs := hO.fr (Fr.drew No u) (fun _ _ h => h)
          generalize u.drew = u1 at hFu' hcu' hl' hzu' hO' ⊢
          refine ld_of (d := r) hl' hl9 (ld_of hcu' rfl ?_)
          refine c_quar_New _ _ fun b7 w7 h7 => xd_of _ (rq_of rfl ⟨fun x hx => ?_, ?_⟩)
          · simp only [List.mem_cons, List.not_mem_nil, or_false] at hx
            rcases hx with rfl
            exact same_cells (h7.cel (cel_lt hl') (fun h => h))
          refine al_of fun w8 hF8 hn8 _ => ?_
          have h78 := h7.trans hF8
          have hsz8 : w5.heap.size < w7.heap.size := Nat.lt_of_lt_of_le (cel_lt hl') h7.size
          have hO8 : Own w8 r 1 xs := hO'.fr h78 (fun _ _ h => h)
          have hrl : r.len = k.toNat := by have := hO8.1; omega
          refine apd_own (xs := xs) (news := [Value.pointer (some ⟨b7, 0, none⟩)]) (by decide) rfl (by decide) hO8 (.intro rfl (.inr ⟨w7.heap.size, 0, _, rfl, hn8, by simp, rfl⟩)) rfl (by show (r.len + 1) * 8 ≤ 2 ^ 46; omega) (by show r.len + 1 < 2 ^ 46; omega) fun r' w9 hO9 hr9 hF9 hi9 => ?_
          have hni : ¬ inB r w5.heap.size := fun h => (hin _ h).2 rfl
          have hni0 : ¬ inB r w.heap.size := fun h => absurd (hin _ h).1 (Nat.lt_irrefl _)
          have hl9' : cel w9 w5.heap.size = some l := hF9.cel_of (h78.cel_of hl' (fun h => h)) hni
          have hz9 : frz w9 w5.heap.size = (0, 0) := by rw [hF9.frz (cel_lt (h78.cel_of hl' (fun h => h))) hni, h78.frz (cel_lt hl') (fun h => h)]; exact hzu'
          have hc9 : cel w9 w.heap.size = some _ := hF9.cel_of (h78.cel_of hcu' (fun h => h)) hni0
          have hFw9 : Fr No w w9 := (hFu'.trans h78).trans' hF9 (fun x hx h => by have := (hin x h).1; omega)
          have hin' : ∀ b, inB r' b → w.heap.size < b ∧ b ≠ w5.heap.size := by
            intro b hb
            rcases hi9 b hb with h | h
            · exact hin b h
            · have := hF8.size; have := h78.size; have := hFu'.size; omega
          refine st_of (b := w5.heap.size) (o := 9) (l := l) hl9' (by omega) hz9 ?_
          rw [wrapId (n := k + 1) (by omega) (by omega)]
          have hset : Fr (fun b => b = w5.heap.size) w9 (w9.setCell ⟨w5.heap.size, 9, none⟩ (.slice r'.a r'.len r'.cap)) := Fr.setCell _ _ _ rfl
          refine hj _ _ ⟨by show 0 ≤ k + 1; omega, by show k + 1 ≤ t; omega, hFw9.trans' hset (fun x hx h => by omega), ?_, by rw [frz_setCell]; exact hz9, l.set 9 (.slice r'.a r'.len r'.cap), r', xs ++ [Value.pointer (some ⟨b7, 0, none⟩)], ?_, by simp [hl11], by simp [hl11], hO9.fr hset (fun b hb h => (hin' b hb).2 h), ?_, ?_, hin'⟩ (by show (t - (k + 1)).toNat < (t - k).toNat; omega)
          · exact hset.cel_of hc9 (by omega)
          · rw [cel_setCell, if_pos rfl, hl9']; rfl
          · show (xs ++ [Value.pointer (some ⟨b7, 0, none⟩)]).length = (k + 1).toNat
            simp; omega
          · intro x hx
            rcases List.mem_append.1 hx with h | h
            · exact hxs x h
            · simp at h; exact ⟨_, h⟩
        · have e : ltI k t = false := by rw [ltI_iff, decide_eq_false c3]
          rw [e, br_false]
          have : k = t := by omega
          subst this
          exact hok _ u hFu ⟨l, r, xs, hl, hl9, hO, hxl, hxs⟩
end Go.TB
