/- The law of a pool's making: whatever is asked, it answers true. -/
import Derived.Test.YtlcaelckplknnaaGreatTbZ2
import Derived.Test.YtlcaelckplknnaaGreatXS15
set_option linter.unusedVariables false
set_option linter.unusedSimpArgs false
namespace Go.TB
open Go Go.SX Go.XC

theorem Fr.of_kept {S : Nat → Prop} {w w' : World} (h : Kept w w') : Fr S w w' := ⟨h.1.size, fun b hb _ => h.2.1 b hb, fun b hb => h.1.frz hb, h.2.2⟩
theorem nil_call {P : Program} {f : FuncId} {vs : List Value} {u : Value} (h : ∀ w, cl P f vs (fun v w' => v = u ∧ Kept w w') w) {R : Value → M} {w : World} (hR : ∀ w', Fr No w w' → R u w') : cl P f vs R w :=
  cl_mono (h w) fun v w' _ ⟨hv, hk⟩ => by subst hv; exact hR w' (Fr.of_kept hk)

theorem n_Region (w : World) : cl prog N.talloc_Pool_Region [.pointer none] (fun v w' => v = .pointer none ∧ Kept w w') w := run_lit noNum_prog mixed_prog noSm_ok (n := 50) (args := [.lit (.pointer none)]) (by kernel_rfl) (by simp [concL, conc]) w
theorem n_Ledger (w : World) : cl prog N.talloc_Pool_Ledger [.pointer none] (fun v w' => v = .pointer none ∧ Kept w w') w := run_lit noNum_prog mixed_prog noSm_ok (n := 50) (args := [.lit (.pointer none)]) (by kernel_rfl) (by simp [concL, conc]) w
theorem n_Mail (w : World) : cl prog N.talloc_Pool_Mail [.pointer none] (fun v w' => v = .pointer none ∧ Kept w w') w := run_lit noNum_prog mixed_prog noSm_ok (n := 50) (args := [.lit (.pointer none)]) (by kernel_rfl) (by simp [concL, conc]) w
theorem n_Now (w : World) : cl prog N.talloc_Pool_Now [.pointer none] (fun v w' => v = .int .i64 0 ∧ Kept w w') w := run_lit noNum_prog mixed_prog noSm_ok (n := 50) (args := [.lit (.pointer none)]) (by kernel_rfl) (by simp [concL, conc]) w
theorem n_Check (w : World) : cl prog N.talloc_Pool_Check [.pointer none] (fun v w' => v = .int .i64 2 ∧ Kept w w') w := run_lit noNum_prog mixed_prog noSm_ok (n := 50) (args := [.lit (.pointer none)]) (by kernel_rfl) (by simp [concL, conc]) w
theorem n_Step (w : World) : cl prog N.talloc_Task_Step [.pointer none] (fun v w' => v = .bool true ∧ Kept w w') w := run_lit noNum_prog mixed_prog noSm_ok (n := 50) (args := [.lit (.pointer none)]) (by kernel_rfl) (by simp [concL, conc]) w
theorem n_Done (w : World) : cl prog N.talloc_Task_Done [.pointer none] (fun v w' => v = .bool true ∧ Kept w w') w := run_lit noNum_prog mixed_prog noSm_ok (n := 50) (args := [.lit (.pointer none)]) (by kernel_rfl) (by simp [concL, conc]) w
theorem n_At (w : World) : cl prog N.talloc_Task_At [.pointer none] (fun v w' => v = .int .i64 0 ∧ Kept w w') w := run_lit noNum_prog mixed_prog noSm_ok (n := 50) (args := [.lit (.pointer none)]) (by kernel_rfl) (by simp [concL, conc]) w
theorem n_Fault (w : World) : cl prog N.talloc_Task_Fault [.pointer none] (fun v w' => v = .int .i64 0 ∧ Kept w w') w := run_lit noNum_prog mixed_prog noSm_ok (n := 50) (args := [.lit (.pointer none)]) (by kernel_rfl) (by simp [concL, conc]) w
theorem n_Moment (w : World) : cl prog N.talloc_Task_Moment [.pointer none] (fun v w' => v = .int .i64 0 ∧ Kept w w') w := run_lit noNum_prog mixed_prog noSm_ok (n := 50) (args := [.lit (.pointer none)]) (by kernel_rfl) (by simp [concL, conc]) w

theorem c_law13_Ours {w : World} (m g t b a s : Int) (R : Value → M) (hR : ∀ w', Fr No w w' → R (.agg #[.int .i64 m, .int .i64 g, .int .u64 s, .int .i64 t, .int .i64 b, .int .i64 a]) w') :
    cl prog N.law13_Ours [.agg #[.int .i64 m, .int .i64 g, .int .i64 t, .int .i64 b, .int .i64 a, .int .u64 s]] R w := by
  refine T.law13_Ours _ _ _ _ _ _ R w ?_
  unfold S.law13_Ours
  refine al_of fun w1 h1 hc1 hz1 => al_of fun w2 h2 hc2 hz2 => ?_
  have hc := h2.cel_of hc1 (fun h => h)
  simp only [add_mk, Nat.zero_add, Nat.add_zero]
  refine ld_of hc rfl (ld_of hc rfl (ld_of hc rfl (ld_of hc rfl (ld_of hc rfl (ld_of hc rfl ?_)))))
  refine stN_of hc2 (by simp) hz2 rfl ?_
  have hF : Fr No w1 (setN ⟨w1.heap.size, 0, none⟩ 0 [Value.int .i64 m, .int .i64 g, .int .u64 s, .int .i64 t, .int .i64 b, .int .i64 a] w2) := h2.trans' (Fr.setN (S := fun b => b = w1.heap.size) rfl rfl _ _ _) (fun b hb h => by omega)
  have hc3 : cel (setN ⟨w1.heap.size, 0, none⟩ 0 [Value.int .i64 m, .int .i64 g, .int .u64 s, .int .i64 t, .int .i64 b, .int .i64 a] w2) w1.heap.size = some [Value.int .i64 m, .int .i64 g, .int .u64 s, .int .i64 t, .int .i64 b, .int .i64 a] := by rw [cel_setN, if_pos rfl, hc2]; rfl
  refine ld_of hc3 rfl (ld_of hc3 rfl (ld_of hc3 rfl (ld_of hc3 rfl (ld_of hc3 rfl (ld_of hc3 rfl ?_)))))
  exact hR _ (h1.trans hF)

theorem c_talloc_in {w : World} {p n : Nat} (h : PoolAt w p n) (t : Int) (R : Value → M) (hR : R (.bool (decide (0 ≤ t ∧ t < (n : Int)))) w) : cl prog N.talloc_Pool_in [.pointer (some ⟨p, 0, none⟩), .int .i64 t] R w := by
  refine T.talloc_Pool_in _ _ R w ?_
  unfold S.talloc_Pool_in
  obtain ⟨l, r, xs, h1, h2, h3, h4, h5⟩ := h
  have e : notB (isN (some (⟨p, 0, none⟩ : Addr))) = true := rfl
  rw [e, br_true]
  by_cases c : 0 ≤ t
  · have e : leI 0 t = true := by rw [leI_iff, decide_eq_true c]
    rw [e, br_true, nn_some]
    simp only [add_mk]
    refine ld_of (d := r) h1 h2 ?_
    have hl : r.len = n := by have := h3.1; omega
    have e2 : ltI t (r.len : Int) = decide (0 ≤ t ∧ t < (n : Int)) := by rw [ltI_iff, hl, decide_eq_decide]; omega
    rw [e2]; exact hR
  · have e : leI 0 t = false := by rw [leI_iff, decide_eq_false c]
    have e2 : decide (0 ≤ t ∧ t < (n : Int)) = false := by rw [decide_eq_false_iff_not]; omega
    rw [e2] at hR
    rw [e, br_false]; exact hR

theorem c_talloc_Quar {w : World} {p n : Nat} (h : PoolAt w p n) (t : Int) (R : Value → M) (hR : ∀ q : Option Addr, isN q = !decide (0 ≤ t ∧ t < (n : Int)) → R (.pointer q) w) : cl prog N.talloc_Pool_Quar [.pointer (some ⟨p, 0, none⟩), .int .i64 t] R w := by
  refine T.talloc_Pool_Quar _ _ R w ?_
  unfold S.talloc_Pool_Quar
  refine c_talloc_in h t _ (xd_of _ (rq_of rfl ?_))
  obtain ⟨l, r, xs, h1, h2, h3, h4, h5⟩ := h
  by_cases c : 0 ≤ t ∧ t < (n : Int)
  · rw [decide_eq_true c]
    have e : notB true = false := rfl
    rw [e, br_false, nn_some]
    simp only [add_mk]
    refine ld_of (d := r) h1 h2 ?_
    have hl : r.len = n := by have := h3.1; omega
    rcases h3.2 with ⟨g1, g2, g3⟩ | ⟨b, rest, g1, g2, g3, g4⟩
    · rw [g3] at h4; simp at h4; omega
    · rw [g1]
      refine ix_of (by omega) (by omega) ?_
      have hlt : t.toNat < xs.length := by omega
      obtain ⟨q, hq⟩ := h5 xs[t.toNat] (List.getElem_mem hlt)
      refine ld_of (s := .kp) (d := some q) g2 ?_ (hR _ ?_)
      · show (xs ++ rest)[0 + t.toNat * 1]? = some (Value.pointer (some q))
        rw [Nat.zero_add, Nat.mul_one, List.getElem?_append_left hlt, List.getElem?_eq_getElem hlt, hq]
      · rw [decide_eq_true c]; rfl
  · rw [decide_eq_false c]
    have e : notB false = true := rfl
    rw [e, br_true]
    exact hR none (by rw [decide_eq_false c]; rfl)

theorem c_talloc_Free {w : World} {p n : Nat} (h : PoolAt w p n) (t a : Int) (R : Value → M) (hR : ∀ (k : Option Addr) (e : Int) w', eqI e 0 = decide (0 ≤ t ∧ t < (n : Int)) → Fr No w w' → R (.tuple #[.pointer k, .int .i64 e]) w') :
    cl prog N.talloc_Pool_Free [.pointer (some ⟨p, 0, none⟩), .int .i64 t, .int .i64 a] R w := by
  refine T.talloc_Pool_Free _ _ _ R w ?_
  unfold S.talloc_Pool_Free
  rw [isN_some, br_false]
  refine c_talloc_in h t _ (xd_of _ (rq_of rfl ?_))
  by_cases c : 0 ≤ t ∧ t < (n : Int)
  · rw [decide_eq_true c] at hR ⊢
    have e : notB true = false := rfl
    rw [e, br_false]
    refine al_of fun w1 h1 hc1 hz1 => ?_
    simp only [add_mk, Nat.zero_add]
    refine st_of hc1 (by simp) hz1 ?_
    exact hR _ _ _ (by decide) (h1.trans' (Fr.setCell (S := fun b => b = w.heap.size) _ _ _ rfl) (fun b hb h => by omega))
  · rw [decide_eq_false c] at hR ⊢
    have e : notB false = true := rfl
    rw [e, br_true]
    exact hR _ _ _ (by decide) (Fr.refl _ _)
theorem c_talloc_Malloc {w : World} {p n : Nat} (h : PoolAt w p n) (t a : Int) (R : Value → M) (hR : ∀ (k : Option Addr) (e : Int) w', eqI e 0 = decide ((0 ≤ t ∧ t < (n : Int)) ∧ 1 ≤ a ∧ a ≤ 4096) → Fr No w w' → R (.tuple #[.pointer k, .int .i64 e]) w') :
    cl prog N.talloc_Pool_Malloc [.pointer (some ⟨p, 0, none⟩), .int .i64 t, .int .i64 a] R w := by
  refine T.talloc_Pool_Malloc _ _ _ R w ?_
  unfold S.talloc_Pool_Malloc
  rw [isN_some, br_false, jn_def]
  refine c_talloc_in h t _ (xd_of _ (rq_of rfl ?_))
  have bad : ¬ ((0 ≤ t ∧ t < (n : Int)) ∧ 1 ≤ a ∧ a ≤ 4096) → R (.tuple #[.pointer none, .int .i64 1]) w := fun hn => hR _ _ _ (by rw [decide_eq_false hn]; decide) (Fr.refl _ _)
  by_cases c : 0 ≤ t ∧ t < (n : Int)
  · simp only [decide_eq_true c, show notB true = false from rfl, br_false]
    by_cases c1 : a < 1
    · simp only [ltI_iff, decide_eq_true c1, br_true]; exact bad (by omega)
    · simp only [ltI_iff, decide_eq_false c1, br_false]
      by_cases c2 : 4096 < a
      · simp only [decide_eq_true c2, br_true]; exact bad (by omega)
      · simp only [decide_eq_false c2, br_false]
        refine al_of fun w1 h1 hc1 hz1 => ?_
        simp only [add_mk, Nat.zero_add]
        refine st_of hc1 (by simp) hz1 ?_
        exact hR _ _ _ (by rw [decide_eq_true (by omega)]; decide) (h1.trans' (Fr.setCell (S := fun b => b = w.heap.size) _ _ _ rfl) (fun b hb h => by omega))
  · simp only [decide_eq_false c, show notB false = true from rfl, br_true]
    exact bad (by omega)

theorem c_talloc_in0 {w : World} (t : Int) (R : Value → M) (hR : R (.bool false) w) : cl prog N.talloc_Pool_in [.pointer none, .int .i64 t] R w := by
  refine T.talloc_Pool_in _ _ R w ?_
  unfold S.talloc_Pool_in
  have e : notB (isN (none : Option Addr)) = false := rfl
  rw [e, br_false]; exact hR

theorem jn_of {σ : Type} {J : σ → M} {B : (σ → M) → M} {w : World} (h : ∀ K : σ → M, K = J → B K w) : jn J B w := h J rfl
/-- what is not there does nothing: the law's end -/
def TailM (p1 p2 : Int) (R : Value → M) : M :=
     cl prog N.talloc_Pool_Malloc [(.pointer none), (.int .i64 p1), (.int .i64 p2)] (fun (v28 : Value) => 
     xd .kp (fun (x29 : Option Addr) => xd (.ki .i64) (fun (x30 : Int) => rq (v28 = (.tuple #[(.pointer x29), (.int .i64 x30)])) <|
     cl prog N.talloc_Pool_Free [(.pointer none), (.int .i64 p1), (.int .i64 p2)] (fun (v32 : Value) => 
     xd .kp (fun (x33 : Option Addr) => xd (.ki .i64) (fun (x34 : Int) => rq (v32 = (.tuple #[(.pointer x33), (.int .i64 x34)])) <|
     br (eqI x30 2)
      (br (eqI x34 2)
       (cl prog N.talloc_Pool_Region [(.pointer none)] (fun (v36 : Value) => 
       xd .kp (fun (x37 : Option Addr) => rq (v36 = (.pointer x37)) <|
       br (isN x37)
        (cl prog N.talloc_Pool_Ledger [(.pointer none)] (fun (v39 : Value) => 
        xd .kp (fun (x40 : Option Addr) => rq (v39 = (.pointer x40)) <|
        br (isN x40)
         (cl prog N.talloc_Pool_Mail [(.pointer none)] (fun (v42 : Value) => 
         xd .kp (fun (x43 : Option Addr) => rq (v42 = (.pointer x43)) <|
         br (isN x43)
          (cl prog N.talloc_Pool_Quar [(.pointer none), (.int .i64 p1)] (fun (v45 : Value) => 
          xd .kp (fun (x46 : Option Addr) => rq (v45 = (.pointer x46)) <|
          br (isN x46)
           (cl prog N.talloc_Pool_Now [(.pointer none)] (fun (v48 : Value) => 
           xd (.ki .i64) (fun (x49 : Int) => rq (v48 = (.int .i64 x49)) <|
           br (eqI x49 0)
            (cl prog N.talloc_Pool_Check [(.pointer none)] (fun (v51 : Value) => 
            xd (.ki .i64) (fun (x52 : Int) => rq (v51 = (.int .i64 x52)) <|
            br (eqI x52 2)
             (cl prog N.talloc_Task_Step [(.pointer none)] (fun (v54 : Value) => 
             xd .kb (fun (x55 : Bool) => rq (v54 = (.bool x55)) <|
             br x55
              (cl prog N.talloc_Task_Done [(.pointer none)] (fun (v57 : Value) => 
              xd .kb (fun (x58 : Bool) => rq (v57 = (.bool x58)) <|
              br x58
               (cl prog N.talloc_Task_At [(.pointer none)] (fun (v60 : Value) => 
               xd (.ki .i64) (fun (x61 : Int) => rq (v60 = (.int .i64 x61)) <|
               br (eqI x61 0)
                (cl prog N.talloc_Task_Fault [(.pointer none)] (fun (v63 : Value) => 
                xd (.ki .i64) (fun (x64 : Int) => rq (v63 = (.int .i64 x64)) <|
                br (eqI x64 0)
                 (cl prog N.talloc_Task_Moment [(.pointer none)] (fun (v66 : Value) => 
                 xd (.ki .i64) (fun (x67 : Int) => rq (v66 = (.int .i64 x67)) <|
                 br (eqI x67 0)
                  (cl prog N.law13_awake [] (fun (v69 : Value) => 
                  xd .kb (fun (x70 : Bool) => rq (v69 = (.bool x70)) <|
                  R (.bool x70))))
                  (R (.bool false)))))
                 (R (.bool false)))))
                (R (.bool false)))))
               (R (.bool false)))))
              (R (.bool false)))))
             (R (.bool false)))))
            (R (.bool false)))))
           (R (.bool false)))))
          (R (.bool false)))))
         (R (.bool false)))))
        (R (.bool false)))))
       (R (.bool false)))
      (R (.bool false))))))))

theorem tail_ok (hA : ∀ w, cl prog N.law13_awake [] (fun v w' => v = .bool true ∧ Kept w w') w) (n k : Int) (R : Value → M) (w : World) (hR : ∀ w', Fr No w w' → R (.bool true) w') : TailM n k R w := by
  unfold TailM
  refine T.talloc_Pool_Malloc _ _ _ _ w ?_
  unfold S.talloc_Pool_Malloc
  rw [isN_none, br_true]
  refine xd_of _ (xd_of _ (rq_of rfl ?_))
  refine T.talloc_Pool_Free _ _ _ _ w ?_
  unfold S.talloc_Pool_Free
  rw [isN_none, br_true]
  refine xd_of _ (xd_of _ (rq_of rfl ?_))
  have e2 : eqI 2 2 = true := by decide
  have e0 : eqI 0 0 = true := by decide
  rw [e2, br_true, br_true]
  refine nil_call n_Region fun u1 h1 => xd_of _ (rq_of rfl ?_)
  rw [isN_none, br_true]
  refine nil_call n_Ledger fun u2 h2 => xd_of _ (rq_of rfl ?_)
  rw [isN_none, br_true]
  refine nil_call n_Mail fun u3 h3 => xd_of _ (rq_of rfl ?_)
  rw [isN_none, br_true]
  refine T.talloc_Pool_Quar _ _ _ _ ?_
  unfold S.talloc_Pool_Quar
  refine c_talloc_in0 _ _ (xd_of _ (rq_of rfl ?_))
  rw [show notB false = true from rfl, br_true]
  refine xd_of _ (rq_of rfl ?_)
  rw [isN_none, br_true]
  refine nil_call n_Now fun u4 h4 => xd_of _ (rq_of rfl ?_)
  rw [e0, br_true]
  refine nil_call n_Check fun u5 h5 => xd_of _ (rq_of rfl ?_)
  rw [e2, br_true]
  refine nil_call n_Step fun u6 h6 => xd_of _ (rq_of rfl ?_)
  rw [br_true]
  refine nil_call n_Done fun u7 h7 => xd_of _ (rq_of rfl ?_)
  rw [br_true]
  refine nil_call n_At fun u8 h8 => xd_of _ (rq_of rfl ?_)
  rw [e0, br_true]
  refine nil_call n_Fault fun u9 h9 => xd_of _ (rq_of rfl ?_)
  rw [e0, br_true]
  refine nil_call n_Moment fun u10 h10 => xd_of _ (rq_of rfl ?_)
  rw [e0, br_true]
  refine nil_call hA fun u11 h11 => xd_of _ (rq_of rfl ?_)
  exact hR _ ((((((((((h1.trans h2).trans h3).trans h4).trans h5).trans h6).trans h7).trans h8).trans h9).trans h10).trans h11)

theorem talloc_new (hA : ∀ w, cl prog N.law13_awake [] (fun v w' => v = .bool true ∧ Kept w w') w) (m g t b a s n k : Int) (hm : -9223372036854775808 ≤ m ∧ m ≤ 9223372036854775807) (hg : -9223372036854775808 ≤ g ∧ g ≤ 9223372036854775807) (ht : -9223372036854775808 ≤ t ∧ t ≤ 9223372036854775807) (w : World) :
    cl prog N.law13_TallocNew [.agg #[.int .i64 m, .int .i64 g, .int .i64 t, .int .i64 b, .int .i64 a, .int .u64 s], .int .i64 n, .int .i64 k] (fun v w' => v = .bool true ∧ Kept w w') w := by
  suffices h : cl prog N.law13_TallocNew [.agg #[.int .i64 m, .int .i64 g, .int .i64 t, .int .i64 b, .int .i64 a, .int .u64 s], .int .i64 n, .int .i64 k] (fun v w' => v = .bool true ∧ Fr No w w') w from
    cl_mono h fun v w' hr ⟨hv, hF⟩ => ⟨hv, hr, fun b hb => hF.same b hb (fun h => h), hF.nf⟩
  refine T.law13_TallocNew _ _ _ _ _ _ _ _ _ w ?_
  unfold S.law13_TallocNew
  refine al_of fun w1 h1 hc1 hz1 => ?_
  simp only [add_mk, Nat.zero_add, Nat.add_zero]
  refine ld_of hc1 rfl (ld_of hc1 rfl (ld_of hc1 rfl (ld_of hc1 rfl (ld_of hc1 rfl (ld_of hc1 rfl ?_)))))
  refine c_law13_Ours _ _ _ _ _ _ _ fun w2 h2 => ?_
  refine xd_of _ (xd_of _ (xd_of _ (xd_of _ (xd_of _ (xd_of _ (rq_of rfl ?_))))))
  have hF2 := h1.trans h2
  have hc2 := h2.cel_of hc1 (fun h => h)
  have tail : ∀ u, Fr No w u → TailM n k (fun v w' => v = .bool true ∧ Fr No w w') u := fun u hu => tail_ok hA n k _ u fun w' hw' => ⟨rfl, hu.trans hw'⟩
  refine c_talloc_New m g s t b a hm hg _ (fun hn w3 h3 => ?_) (fun hy p w3 h3 hP => ?_)
  · refine xd_of _ (xd_of _ (rq_of rfl ?_))
    have hc3 := h3.cel_of hc2 (fun h => h)
    refine ld_of hc3 rfl (ld_of hc3 rfl (ld_of hc3 rfl ?_))
    refine c_ref13_May m g t hm hg _ fun x hx => ?_
    have hx' : x = false := by cases x with | false => rfl | true => exact absurd (hx.1 rfl) hn
    subst hx'
    refine xd_of _ (rq_of rfl ?_)
    rw [jn_def]
    have e1 : notB (eqBl (notB (isN (none : Option Addr))) false) = false := rfl
    have e2 : notB (eqBl (eqI 1 0) false) = false := by decide
    have e3 : notB false = true := rfl
    have e4 : neI 1 1 = false := by decide
    rw [e1, br_false, e2, br_false, e3, br_true, e4]
    show br false _ _ w3
    rw [br_false, jn_def, br_false]
    exact tail w3 (hF2.trans h3)
  · refine xd_of _ (xd_of _ (rq_of rfl ?_))
    have hc3 := h3.cel_of hc2 (fun h => h)
    refine ld_of hc3 rfl (ld_of hc3 rfl (ld_of hc3 rfl ?_))
    refine c_ref13_May m g t hm hg _ fun x hx => ?_
    have hx' : x = true := hx.2 hy
    subst hx'
    refine xd_of _ (rq_of rfl ?_)
    rw [jn_def]
    have e1 : notB (eqBl (notB (isN (some (⟨p, 0, none⟩ : Addr)))) true) = false := rfl
    have e2 : notB (eqBl (eqI 0 0) true) = false := by decide
    have e3 : notB true = false := rfl
    rw [e1, br_false, e2, br_false, e3, br_false]
    show br false _ _ w3
    rw [br_false]
    refine jn_of fun J hJ => ?_
    have tail' : ∀ u, Fr No w u → J () u := fun u hu => by rw [hJ]; exact tail u hu
    clear hJ
    rw [br_true, jn_def]
    have hF3 := hF2.trans h3
    have htn : ((t.toNat : Nat) : Int) = t := by have := hy.2.1; omega
    -- the calls of the pool
    have body : ∀ x : Bool, x = decide (0 ≤ n ∧ n < t) → ∀ J : Unit → M, (∀ u, Fr No w u → J () u) →
        cl prog N.talloc_Pool_Malloc [(.pointer (some ⟨p, 0, none⟩)), (.int .i64 n), (.int .i64 k)] (fun (v74 : Value) => 
       xd .kp (fun (x75 : Option Addr) => xd (.ki .i64) (fun (x76 : Int) => rq (v74 = (.tuple #[(.pointer x75), (.int .i64 x76)])) <|
       cl prog N.talloc_Pool_Free [(.pointer (some ⟨p, 0, none⟩)), (.int .i64 n), (.int .i64 k)] (fun (v78 : Value) => 
       xd .kp (fun (x79 : Option Addr) => xd (.ki .i64) (fun (x80 : Int) => rq (v78 = (.tuple #[(.pointer x79), (.int .i64 x80)])) <|
       jn (σ := (Bool × Unit))
       (fun (d81 : (Bool × Unit)) => 
        br d81.1
         ((fun (v : Value) (w' : World) => v = Value.bool true ∧ Fr No w w') (Value.bool false))
         (J ()))
       (fun j82 =>
        br x
         (br (leI 1 k)
          (br (notB (eqBl (eqI x76 0) (leI k 4096)))
           (j82 (true, ()))
           (br (notB (eqBl (eqI x80 0) x))
            (j82 (true, ()))
            (cl prog N.talloc_Pool_Quar [(.pointer (some ⟨p, 0, none⟩)), (.int .i64 n)] (fun (v84 : Value) => 
            xd .kp (fun (x85 : Option Addr) => rq (v84 = (.pointer x85)) <|
            j82 ((notB (eqBl (notB (isN x85)) x)), ()))))))
          (br (notB (eqBl (eqI x76 0) false))
           (j82 (true, ()))
           (br (notB (eqBl (eqI x80 0) x))
            (j82 (true, ()))
            (cl prog N.talloc_Pool_Quar [(.pointer (some ⟨p, 0, none⟩)), (.int .i64 n)] (fun (v87 : Value) => 
            xd .kp (fun (x88 : Option Addr) => rq (v87 = (.pointer x88)) <|
            j82 ((notB (eqBl (notB (isN x88)) x)), ())))))))
         (br (notB (eqBl (eqI x76 0) false))
          (j82 (true, ()))
          (br (notB (eqBl (eqI x80 0) x))
           (j82 (true, ()))
           (cl prog N.talloc_Pool_Quar [(.pointer (some ⟨p, 0, none⟩)), (.int .i64 n)] (fun (v90 : Value) => 
           xd .kp (fun (x91 : Option Addr) => rq (v90 = (.pointer x91)) <|
           j82 ((notB (eqBl (notB (isN x91)) x)), ()))))))))))))) w3 := by
      intro x hx J hJ
      refine c_talloc_Malloc hP n k _ fun q1 e1 w4 he1 h4 => xd_of _ (xd_of _ (rq_of rfl ?_))
      refine c_talloc_Free (hP.fr h4) n k _ fun q2 e2 w5 he2 h5 => xd_of _ (xd_of _ (rq_of rfl ?_))
      rw [jn_def]
      rw [htn] at he1 he2
      have hx2 : eqI e2 0 = x := by rw [he2, hx]
      have quar : ∀ (R : Bool → M), (R false w5) → cl prog N.talloc_Pool_Quar [(.pointer (some ⟨p, 0, none⟩)), (.int .i64 n)] (fun (v84 : Value) => 
            xd .kp (fun (x85 : Option Addr) => rq (v84 = (.pointer x85)) <| R (notB (eqBl (notB (isN x85)) x)))) w5 := by
        intro R hR
        refine c_talloc_Quar ((hP.fr h4).fr h5) n _ fun q hq => xd_of _ (rq_of rfl ?_)
        rw [htn] at hq
        have : notB (eqBl (notB (isN q)) x) = false := by rw [hq, hx]; cases decide (0 ≤ n ∧ n < t) <;> rfl
        rw [this]; exact hR
      have hfin : J () w5 := hJ w5 ((hF3.trans h4).trans h5)
      have hsame : ∀ y : Bool, notB (eqBl y y) = false := fun y => by cases y <;> rfl
      by_cases c : 0 ≤ n ∧ n < t
      · have hxt : x = true := by rw [hx, decide_eq_true c]
        rw [hxt] at hx2 quar ⊢
        rw [br_true]
        by_cases c1 : 1 ≤ k
        · have e3 : leI 1 k = true := by rw [leI_iff, decide_eq_true c1]
          have e4 : eqI e1 0 = leI k 4096 := by rw [he1, leI_iff, decide_eq_decide]; omega
          rw [e3, br_true, e4, hsame, br_false, hx2, hsame, br_false]
          exact quar (fun y => br y _ _) hfin
        · have e3 : leI 1 k = false := by rw [leI_iff, decide_eq_false c1]
          have e4 : eqI e1 0 = false := by rw [he1, decide_eq_false_iff_not]; omega
          rw [e3, br_false, e4, hsame, br_false, hx2, hsame, br_false]
          exact quar (fun y => br y _ _) hfin
      · have hxf : x = false := by rw [hx, decide_eq_false c]
        rw [hxf] at hx2 quar ⊢
        have e4 : eqI e1 0 = false := by rw [he1, decide_eq_false_iff_not]; omega
        rw [br_false, e4, hsame, br_false, hx2, hsame, br_false]
        exact quar (fun y => br y _ _) hfin
    by_cases c : 0 ≤ n
    · have e : leI 0 n = true := by rw [leI_iff, decide_eq_true c]
      rw [e, br_true]
      refine ld_of hc3 rfl ?_
      exact body (ltI n t) (by rw [ltI_iff, decide_eq_decide]; omega) J tail'
    · have e : leI 0 n = false := by rw [leI_iff, decide_eq_false c]
      rw [e, br_false]
      exact body false (by symm; rw [decide_eq_false_iff_not]; omega) J tail'
end Go.TB
