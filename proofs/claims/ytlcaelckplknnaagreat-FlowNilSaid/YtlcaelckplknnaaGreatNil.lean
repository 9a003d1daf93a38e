/- The statement of tumbrellaw14.FlowNil is proved: whatever the two numbers are, the law answers true. No condition beyond the given statement. -/
import Derived.Test.YtlcaelckplknnaaGreatRows
import Derived.WalkKit
import Derived.ProofKit
import Derived.OpenShut
import Derived.Test.YtlcaelckplknnaaGreatNilAw
import Derived.Test.YtlcaelckplknnaaGreatNilR0
import Derived.Test.YtlcaelckplknnaaGreatNilR1
import Derived.Test.YtlcaelckplknnaaGreatNilR2
import Derived.Test.YtlcaelckplknnaaGreatNilR3
set_option linter.unusedVariables false
set_option linter.unusedSimpArgs false
namespace Go.Proofs.YtlcaelckplknnaaGreat.flowNil
open Go Go.ChangeShapes Go.WideShapes Go.ChangeAt Go.RowKit Go.SX Go.XC
set_option linter.unusedVariables false      -- a walk need not use every 'w<i>' (that an integer argument fits its kind)

theorem own : ownKnob Tryz.prog.godebug = none := by kernel_rfl

theorem walk (a0 : Int) (a1 : Int) (w0 : (Lit.int .i64 a0).wf = true) (w1 : (Lit.int .i64 a1).wf = true) (w : World) :
    Calls Tryz.prog 3 #[.int .i64 a0, .int .i64 a1] w fun e w' => e = .returned (.bool true) ∧ Grown w w' := by
  have hs : SmOk Tryz.prog (smT 16) := smT_ok awake_ok
  have hx0 : -9223372036854775808 ≤ a0 ∧ a0 ≤ 9223372036854775807 := by simpa [Lit.wf, IntKind.min, IntKind.max, IntKind.signed, IntKind.bits] using w0
  have hx1 : -9223372036854775808 ≤ a1 ∧ a1 ≤ 9223372036854775807 := by simpa [Lit.wf, IntKind.min, IntKind.max, IntKind.signed, IntKind.bits] using w1
  have fin : cl Tryz.prog 3 [.int .i64 a0, .int .i64 a1] (fun v w' => v = .bool true ∧ Kept w w') w := by
    have two : ∀ {lo hi : Int}, lo ≤ a0 → a0 ≤ hi → isTrue (xF Tryz.prog (smT 16) 10000 3 [.sym .i64 0, .sym .i64 1] (st0 [(lo, hi), (-9223372036854775808, 9223372036854775807)]) fun a _ => some a) = true →
        cl Tryz.prog 3 [.int .i64 a0, .int .i64 a1] (fun v w' => v = .bool true ∧ Kept w w') w := by
      intro lo hi h1 h2 hr
      refine run_true noNum_prog mixed_prog hs (σ := fun i => match i with | 0 => some a0 | 1 => some a1 | _ => none) hr (fun i r hi => ?_) (by simp [concL, conc]) w
      match i, hi with
      | 0, hi => simp at hi; subst hi; exact ⟨a0, rfl, h1, h2⟩
      | 1, hi => simp at hi; subst hi; exact ⟨a1, rfl, hx1⟩
      | n + 2, hi => simp at hi
    have one : ∀ {t lo hi : Int}, a0 = t → lo ≤ a1 → a1 ≤ hi → isTrue (xF Tryz.prog (smT 16) 10000 3 [.lit (.int .i64 t), .sym .i64 0] (st0 [(lo, hi)]) fun a _ => some a) = true →
        cl Tryz.prog 3 [.int .i64 a0, .int .i64 a1] (fun v w' => v = .bool true ∧ Kept w w') w := by
      intro t lo hi ht h1 h2 hr
      subst ht
      refine run_true noNum_prog mixed_prog hs (σ := fun i => match i with | 0 => some a1 | _ => none) hr (fun i r hi => ?_) (by simp [concL, conc]) w
      match i, hi with
      | 0, hi => simp at hi; subst hi; exact ⟨a1, rfl, h1, h2⟩
      | n + 1, hi => simp at hi
    by_cases c1 : a0 < 0
    · exact two hx0.1 (by omega) run_neg
    by_cases c2 : 3 ≤ a0
    · exact two c2 hx0.2 run_big
    have c3 : a0 = 0 ∨ a0 = 1 ∨ a0 = 2 := by omega
    by_cases d1 : a1 < 0
    · rcases c3 with c | c | c
      · exact one c hx1.1 (by omega) run_t0n
      · exact one c hx1.1 (by omega) run_t1n
      · exact one c hx1.1 (by omega) run_t2n
    by_cases d2 : 256 ≤ a1
    · rcases c3 with c | c | c
      · exact one c d2 hx1.2 run_t0b
      · exact one c d2 hx1.2 run_t1b
      · exact one c d2 hx1.2 run_t2b
    · rcases c3 with c | c | c
      · exact one c (by omega) (by omega) run_t0i
      · exact one c (by omega) (by omega) run_t1i
      · exact one c (by omega) (by omega) run_t2i
  exact Calls.mono fin fun e w' ⟨v, he, _, hv, hk⟩ => ⟨by rw [he, hv], hk.grown⟩

set_option maxRecDepth 100000 in
theorem lifted (os : Os) (started : os.Started) (H : Type) (enc : TypeId × Value → H) :
    ReturnsInHanded {} Tryz.checked os 3 .any (Rows.flowNilSpec.pre6 enc Tryz.prog Tryz.f3 Rows.flowNilRow.domain false) (Rows.flowNilSpec.post enc Tryz.prog Tryz.f3 false true false false) := by
  refine returnsInHanded_of_change (C := Tryz.checked) own started (by kernel_rfl) Tryz.func3
    (ChangeSpec.witness6 (enc := enc) (C := Tryz.checked) false ⟨#[], #[.int .i64 0, .int .i64 0], []⟩ 8 (by kernel_rfl) (by kernel_rfl) (by kernel_rfl) (by kernel_rfl)) ?_
  intro W base args ds gs before hval0 hW hcnd _
  have hval : ∀ (j : Nat) t v, Tryz.f3.params[j]? = some t → args[j]? = some v → Value.okWide Tryz.prog W .any base t v := hval0
  have hW' := hW
  obtain ⟨p, q, hA0, hV, rfl, hfz, hnd⟩ := hW
  have hA : DataW.TrodAll enc Tryz.prog W 0 (fun _ => true) true Tryz.f3.params.toList args.toList ds p := hA0
  rw [Tryz.params3] at hA hval
  obtain ⟨v0, vs0, d0, ds0, p0, q0, hargs, rfl, rfl, h0, r0⟩ := trodAll_cons hA
  obtain ⟨v1, vs1, d1, ds1, p1, q1, rfl, rfl, rfl, h1, r1⟩ := trodAll_cons r0
  obtain ⟨rfl, rfl, rfl⟩ := trodAll_nil r1
  obtain rfl : args = #[v0, v1] := by cases args; simp_all
  obtain ⟨rfl, rfl⟩ := trodVars_none hV
  obtain ⟨a0, rfl, rfl, rfl, w0⟩ := open_int Tryz.underlying3 (hval 0 3 v0 rfl rfl) h0
  obtain ⟨a1, rfl, rfl, rfl, w1⟩ := open_int Tryz.underlying3 (hval 1 3 v1 rfl rfl) h1
  clear hA0 hval0
  simp only [List.append_nil] at hW'
  refine (walk a0 a1 w0 w1 W).mono fun e W' ⟨he, hg⟩ => ?_
  subst he
  exact ⟨_, rfl, post_of_same (pa := []) (pv := []) hW' (fun _ _ _ => (trodAll_cons_mk (shut_bool Tryz.underlying4 _) trodAll_mk0)) (fun sp _ => (trodAll_cons_mk (shut_int Tryz.underlying3 w0) (trodAll_cons_mk (shut_int Tryz.underlying3 w1) trodAll_mk0))) (fun _ _ => rfl) rfl
    (hg.frame _) hg.2.1 (ok_one (by kernel_rfl) rfl (okWide_bool_mk Tryz.underlying4 _))⟩

theorem over : Rows.flowNilRow.holds Tryz.pinned (OpenSpec.ofChange Rows.flowNilSpec) :=
  OpenClaim.holds_of_wide 3 Tryz.f3 rfl rfl rfl rfl rfl rfl rfl ⟨rfl, rfl, rfl, rfl, rfl⟩ rfl rfl rfl rfl rfl (by kernel_rfl) Tryz.func3 (by kernel_rfl)
    (of_decide_eq_true (by kernel_rfl)) (by unfold Func.isWrapper; first | (rw [if_pos (by decide +kernel)]; kernel_rfl) | (rw [if_neg (by decide +kernel)]; exact ⟨rfl, rfl⟩))
    (fun os started H enc _ => lifted os started H enc)

theorem proved : Rows.FlowNilSaid :=
  over
end Go.Proofs.YtlcaelckplknnaaGreat.flowNil
