/- Contracts: a pool of threads' allocators is made. -/
import Derived.Test.YtlcaelckplknnaaGreatTbZS0
import Derived.Test.YtlcaelckplknnaaGreatTbSimp
set_option linter.unusedVariables false
set_option linter.unusedSimpArgs false
namespace Go.TB
open Go Go.SX

theorem wrapId {n : Int} (h0 : -9223372036854775808 ≤ n) (h1 : n < 9223372036854775808) : IntKind.i64.wrap n = n := wrap_i64_in h0 h1

/-- between noughts and a bound -/
theorem cut_rng (p m : Int) (hm : 0 ≤ m) : 0 ≤ (if m < (if (0 : Int) > p then 0 else p) then m else (if (0 : Int) > p then 0 else p)) ∧ (if m < (if (0 : Int) > p then 0 else p) then m else (if (0 : Int) > p then 0 else p)) ≤ m := by
  repeat' split
  all_goals omega

theorem c_arena_New {w : World} (n : Int) (R : Value → M) (hR : ∀ b w', Fr No w w' → R (.pointer (some ⟨b, 0, none⟩)) w') : cl prog N.arena_New [.int .i64 n] R w := by
  refine T.arena_New _ R w ?_
  unfold S.arena_New
  have h := cut_rng n 256 (by decide)
  generalize (if (256 : Int) < (if (0 : Int) > n then 0 else n) then 256 else (if (0 : Int) > n then 0 else n)) = m at h ⊢
  rw [wrapId (n := 256 * m) (by omega) (by omega)]
  refine rq_of ⟨by omega, by omega, by omega, by omega⟩ ?_
  exact hR _ _ ((Fr.alloc No w _).trans (Fr.alloc _ _ _))
theorem c_pages_New {w : World} (n : Int) (R : Value → M) (hR : ∀ b w', Fr No w w' → R (.pointer (some ⟨b, 0, none⟩)) w') : cl prog N.pages_New [.int .i64 n] R w := by
  refine T.pages_New _ R w ?_
  unfold S.pages_New
  have h := cut_rng n 256 (by decide)
  generalize (if (256 : Int) < (if (0 : Int) > n then 0 else n) then 256 else (if (0 : Int) > n then 0 else n)) = m at h ⊢
  refine rq_of ⟨by omega, by omega, by omega, by omega⟩ ?_
  exact hR _ _ ((Fr.alloc No w _).trans (Fr.alloc _ _ _))
theorem c_large_New {w : World} (a : Addr) (x : Int) (R : Value → M) (hR : ∀ b w', Fr No w w' → R (.pointer (some ⟨b, 0, none⟩)) w') : cl prog N.large_New [.pointer (some a), .agg #[.int .u64 x]] R w := by
  refine T.large_New _ _ R w ?_
  unfold S.large_New
  unfold al
  simp only [isN_some, br_false, add_mk]
  refine ld_of (l := [.int .u64 x]) (by rw [cel_alloc, if_pos rfl]) rfl ?_
  exact hR _ _ (((Fr.alloc No w _).trans (Fr.alloc _ _ _)).trans (Fr.alloc _ _ _))
theorem c_fault_New {w : World} (a : Addr) (R : Value → M) (hR : ∀ b w', Fr No w w' → R (.pointer (some ⟨b, 0, none⟩)) w') : cl prog N.fault_New [.pointer (some a)] R w := by
  refine T.fault_New _ R w ?_
  unfold S.fault_New
  rw [isN_some, br_false]
  exact hR _ _ ((Fr.alloc No w _).trans (Fr.alloc _ _ _))
theorem c_remote_New {w : World} (t n : Int) (R : Value → M) (hR : ∀ b w', Fr No w w' → R (.pointer (some ⟨b, 0, none⟩)) w') : cl prog N.remote_New [.int .i64 t, .int .i64 n] R w := by
  refine T.remote_New _ _ R w ?_
  unfold S.remote_New
  have h := cut_rng t 64 (by decide)
  generalize (if (64 : Int) < (if (0 : Int) > t then 0 else t) then 64 else (if (0 : Int) > t then 0 else t)) = m at h ⊢
  refine rq_of ⟨by omega, by omega, by omega, by omega⟩ ?_
  exact hR _ _ (((Fr.alloc No w _).trans (Fr.alloc _ _ _)).trans (Fr.alloc _ _ _))
theorem c_quar_New {w : World} (n : Int) (R : Value → M) (hR : ∀ b w', Fr No w w' → R (.pointer (some ⟨b, 0, none⟩)) w') : cl prog N.quar_New [.int .i64 n] R w := by
  refine T.quar_New _ R w ?_
  unfold S.quar_New
  exact hR _ _ (Fr.alloc No w _)
theorem c_link_mix {w : World} (x : Int) (R : Value → M) (hR : ∀ y, R (.int .u64 y) w) : cl prog N.link_mix [.int .u64 x] R w := by
  refine T.link_mix _ R w ?_
  unfold S.link_mix
  repeat (first | exact hR _ | refine rq_of (by decide) ?_)
theorem c_link_New {w : World} (x : Int) (R : Value → M) (hR : ∀ y w', Fr No w w' → R (.agg #[.int .u64 y]) w') : cl prog N.link_New [.int .u64 x] R w := by
  refine T.link_New _ R w ?_
  unfold S.link_New
  unfold al
  refine c_link_mix _ _ fun y => ?_
  refine xd_of y (rq_of rfl ?_)
  refine stN_of (l := [.int .u64 0]) (by rw [cel_alloc, if_pos rfl]) (by simp) (by rw [frz_alloc, if_pos rfl]) rfl ?_
  simp only [add_mk]
  refine ld_of (l := [.int .u64 y]) (by rw [cel_setN, if_pos rfl, cel_alloc, if_pos rfl]; rfl) rfl ?_
  refine hR y _ ((Fr.alloc No w _).trans' (Fr.setN (S := fun b => b = w.heap.size) rfl rfl _ _ _) (fun b hb h => by omega))

/-- may a parting be? -/
def may (m g : Int) : Prop := 0 ≤ m ∧ 0 ≤ g ∧ m ≤ 256 ∧ g ≤ 256 - m ∧ 1 ≤ m + g

theorem c_region_New {w : World} (m g s : Int) (hm : -9223372036854775808 ≤ m ∧ m ≤ 9223372036854775807) (hg : -9223372036854775808 ≤ g ∧ g ≤ 9223372036854775807) (R : Value → M)
    (h0 : ¬ may m g → ∀ w', Fr No w w' → R (.tuple #[.pointer none, .int .i64 1]) w') (hR : may m g → ∀ b w', Fr No w w' → R (.tuple #[.pointer (some ⟨b, 0, none⟩), .int .i64 0]) w') :
    cl prog N.region_New [.agg #[.int .i64 m, .int .i64 g, .int .u64 s]] R w := by
  refine T.region_New _ _ _ R w ?_
  unfold S.region_New
  unfold al
  have hc : cel (w.alloc (.cells [Value.int .i64 m, .int .i64 g, .int .u64 s].toArray 28)) w.heap.size = some [.int .i64 m, .int .i64 g, .int .u64 s] := by rw [cel_alloc, if_pos rfl]
  have hA : Fr No w (w.alloc (.cells [Value.int .i64 m, .int .i64 g, .int .u64 s].toArray 28)) := Fr.alloc _ _ _
  generalize w.alloc (.cells [Value.int .i64 m, .int .i64 g, .int .u64 s].toArray 28) = w1 at hc hA
  have hbad : ¬ may m g → R (.tuple #[.pointer none, .int .i64 1]) w1 := fun h => h0 h _ hA
  simp only [dr_iff, cel_drew, frz_drew, isN_some, isN_none, br_false, br_true, jn_def, nn_some, add_mk, br_if, ld_s, ld_i, ld_p, ld_b, ex_sl, tup1, tup2, tup3, ex2, ex3, xd_i, xd_b, xd_p, xd_s, rq_iff, ltI_iff, leI_iff, eqI_iff, neI_iff, notB_iff, andB_iff, decide_eq_true_eq, Bool.not_eq_true', decide_eq_false_iff_not, Bool.false_eq_true, if_false, if_true, Option.bind_some, Nat.add_zero, Nat.zero_add, List.getElem?_cons_zero, List.getElem?_cons_succ, Option.some.injEq, Value.slice.injEq, Value.int.injEq, Value.bool.injEq, Value.pointer.injEq, exists_eq_left', exists_eq_left, true_and, and_true, ne_eq, not_true_eq_false, not_false_eq_true, hc]
  unfold may at *
  by_cases c1 : m < 0
  · rw [if_pos c1]; exact hbad (by omega)
  rw [if_neg c1]
  by_cases c2 : g < 0
  · rw [if_pos c2]; exact hbad (by omega)
  rw [if_neg c2]
  by_cases c3 : 256 < m
  · rw [if_pos c3]; exact hbad (by omega)
  rw [if_neg c3, wrapId (n := 256 - m) (by omega) (by omega)]
  by_cases c4 : 256 - m < g
  · rw [if_pos c4]; exact hbad (by omega)
  rw [if_neg c4, wrapId (n := m + g) (by omega) (by omega)]
  by_cases c5 : m + g < 1
  · rw [if_pos c5]; exact hbad (by omega)
  rw [if_neg c5]
  have hok := hR (by omega)
  refine c_arena_New _ _ fun b1 w2 h2 => ?_
  refine xd_of _ (rq_of rfl ?_)
  have hb0 : w.heap.size < w1.heap.size := cel_lt hc
  refine ld_of (h2.cel_of hc (fun h => h)) rfl ?_
  refine c_link_New _ _ fun y w3 h3 => ?_
  refine xd_of _ (rq_of rfl ?_)
  have hF3 : Fr No w w3 := (hA.trans h2).trans h3
  have hc3 := h3.cel_of (h2.cel_of hc (fun h => h)) (fun h => h)
  have hlt3 := cel_lt hc3
  refine stN_of (l := [.int .u64 0]) (by rw [cel_alloc, if_pos rfl]) (by simp) (by rw [frz_alloc, if_pos rfl]) rfl ?_
  have hF5 : Fr No w3 (setN ⟨w3.heap.size, 0, none⟩ 0 [Value.int .u64 y] (w3.alloc (.cells [Value.int .u64 0].toArray 110))) := (Fr.alloc No w3 _).trans' (Fr.setN (S := fun b => b = w3.heap.size) rfl rfl _ _ _) (fun b hb h => by omega)
  have hc11 : cel (setN ⟨w3.heap.size, 0, none⟩ 0 [Value.int .u64 y] (w3.alloc (.cells [Value.int .u64 0].toArray 110))) w3.heap.size = some [.int .u64 y] := by rw [cel_setN, if_pos rfl, cel_alloc, if_pos rfl]; rfl
  have hc5 := hF5.cel_of hc3 (fun h => h)
  generalize setN ⟨w3.heap.size, 0, none⟩ 0 [Value.int .u64 y] (w3.alloc (.cells [Value.int .u64 0].toArray 110)) = w5 at hF5 hc11 hc5 ⊢
  refine dr_of ?_
  have hF6 : Fr No w w5.drew := (hF3.trans hF5).trans (Fr.drew _ _)
  have d5 : cel w5.drew w.heap.size = some [.int .i64 m, .int .i64 g, .int .u64 s] := hc5
  have d11 : cel w5.drew w3.heap.size = some [.int .u64 y] := hc11
  generalize w5.drew = w6 at hF6 d5 d11 ⊢
  refine ld_of d5 rfl (ld_of d5 rfl (ld_of d5 rfl (ld_of d5 rfl (ld_of d5 rfl (ld_of d11 rfl (ld_of d11 rfl ?_))))))
  have keep : ∀ {u v : World}, Fr No w6 u → Fr No u v → ∀ r ∈ [Rd.cells ⟨w3.heap.size, 0, none⟩ 1, Rd.cells ⟨w3.heap.size, 0, none⟩ 1, Rd.cells ⟨w.heap.size, 0, none⟩ 3], Rd.same u v r := by
    intro u v hu hv r hr
    have e1 := hv.cel (cel_lt (hu.cel_of d11 fun h => h)) (fun h => h)
    have e2 := hv.cel (cel_lt (hu.cel_of d5 fun h => h)) (fun h => h)
    simp only [List.mem_cons, List.not_mem_nil, or_false] at hr
    rcases hr with rfl | rfl | rfl
    · exact same_cells e1
    · exact same_cells e1
    · exact same_cells e2
  have keep2 : ∀ {u v : World}, Fr No w6 u → Fr No u v → ∀ r ∈ [Rd.cells ⟨w3.heap.size, 0, none⟩ 1, Rd.cells ⟨w.heap.size, 0, none⟩ 3], Rd.same u v r := fun hu hv r hr => keep hu hv r (List.mem_cons_of_mem _ hr)
  have fin : ∀ {u : World} (o : Obj), Fr No w6 u → (∀ c T fz, o = .cells c T fz → fz = (0, 0)) → R (.tuple #[.pointer (some ⟨u.heap.size, 0, none⟩), .int .i64 0]) (u.alloc o) := fun o hu ho => hok _ _ ((hF6.trans hu).trans (Fr.alloc _ _ o ho))
  refine ⟨?_, ?_⟩
  · refine c_pages_New _ _ fun b2 w7 h7 => xd_of _ (rq_of rfl ⟨keep (Fr.refl _ _) h7, ?_, ?_⟩)
    · have h8 : Fr No w6 (w7.alloc (.map #[] 0)) := h7.trans (Fr.alloc _ _ _)
      refine c_large_New _ _ _ fun b3 w9 h9 => xd_of _ (rq_of rfl ⟨keep2 h8 h9, ?_⟩)
      exact fin _ (h8.trans h9) (by intro c T fz h; cases h; rfl)
    · refine c_large_New _ _ _ fun b3 w9 h9 => xd_of _ (rq_of rfl ⟨keep2 h7 h9, ?_⟩)
      have h10 : Fr No w6 (w9.alloc (.map #[] 0)) := (h7.trans h9).trans (Fr.alloc _ _ _)
      exact fin _ h10 (by intro c T fz h; cases h; rfl)
  · have h8 : Fr No w6 (w6.alloc (.map #[] 0)) := Fr.alloc _ _ _
    refine c_pages_New _ _ fun b2 w7 h7 => xd_of _ (rq_of rfl ⟨keep h8 h7, ?_⟩)
    refine c_large_New _ _ _ fun b3 w9 h9 => xd_of _ (rq_of rfl ⟨keep2 (h8.trans h7) h9, ?_⟩)
    exact fin _ ((h8.trans h7).trans h9) (by intro c T fz h; cases h; rfl)
end Go.TB
