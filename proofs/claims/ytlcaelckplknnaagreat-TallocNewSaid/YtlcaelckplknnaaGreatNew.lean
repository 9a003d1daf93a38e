/- The statement of tumbrellaw13.TallocNew is proved: whatever the config and the two numbers are, the law answers true. No condition beyond the given statement. -/
import Derived.Test.YtlcaelckplknnaaGreatRows
import Derived.WalkKit
import Derived.ProofKit
import Derived.Test.YtlcaelckplknnaaGreatTbZ3
import Derived.Test.YtlcaelckplknnaaGreatNewAw
import Derived.Test.YtlcaelckplknnaaGreatXS16
set_option linter.unusedVariables false
set_option linter.unusedSimpArgs false
namespace Go.Proofs.YtlcaelckplknnaaGreat.tallocNew
open Go Go.ChangeShapes Go.WideShapes Go.ChangeAt Go.RowKit Go.SX Go.XC

theorem own : ownKnob Tryz.prog.godebug = none := by kernel_rfl
theorem kids : Kids Tryz.prog (· < Tryz.prog.types.size) := kids_rows (by kernel_rfl) (by kernel_rfl)
theorem full : ∀ t e, t < Tryz.prog.types.size → Tryz.prog.underlying t = some (.slice e) → 0 < Tryz.prog.cellsOf e := slices_full_of Tryz.prog (by kernel_rfl)

theorem one_int {H : Type} {enc : TypeId × Value → H} {w : World} {fuel : Nat} {t : TypeId} {k : IntKind} {c : Value} {x : DataW H × List MemPlace} (ht : Tryz.prog.underlying t = some (.int k)) (h : DataW.trod enc Tryz.prog w 0 (fun _ => true) true fuel t [c] = some x) :
    ∃ n, c = .int k n ∧ (Lit.int k n).wf = true := by
  obtain ⟨n, h1, _, h2⟩ := DataW.trod_int ht h
  exact ⟨n, by simpa using h1, h2⟩

set_option maxRecDepth 100000 in
theorem open_config {H : Type} {enc : TypeId × Value → H} {w : World} {v : Value} {d : DataW H} {ps : List MemPlace} {base : Nat} (hv : Value.okWide Tryz.prog w .any base 34 v) (h : DataW.Trod enc Tryz.prog w 0 (fun _ => true) true 34 v d ps) :
    ∃ a b c e f g : Int, v = .agg #[.int .i64 a, .int .i64 b, .int .i64 c, .int .i64 e, .int .i64 f, .int .u64 g] ∧ (Lit.int .i64 a).wf = true ∧ (Lit.int .i64 b).wf = true ∧ (Lit.int .i64 c).wf = true := by
  obtain ⟨cs, rfl, hs⟩ := okWide_struct Tryz.underlying34 hv
  have h6 : Tryz.prog.cellsOf 34 = 6 := by kernel_rfl
  rw [h6] at hs
  obtain ⟨cs⟩ := cs
  match cs, hs with
  | [c0, c1, c2, c3, c4, c5], _ =>
    obtain ⟨fuel, hf⟩ := h
    obtain ⟨xs, n, _, _, _, hl, hall⟩ := DataW.trod_struct Tryz.underlying34 hf
    have hx : ∀ i, i < 6 → ∃ x, xs[i]? = some x := fun i hi => ⟨xs[i]'(by rw [hl]; exact hi), by simp [hl]⟩
    obtain ⟨x0, e0⟩ := hx 0 (by omega)
    obtain ⟨x1, e1⟩ := hx 1 (by omega)
    obtain ⟨x2, e2⟩ := hx 2 (by omega)
    obtain ⟨x3, e3⟩ := hx 3 (by omega)
    obtain ⟨x4, e4⟩ := hx 4 (by omega)
    obtain ⟨x5, e5⟩ := hx 5 (by omega)
    have c3' : Tryz.prog.cellsOf 3 = 1 := by kernel_rfl
    have c26 : Tryz.prog.cellsOf 26 = 1 := by kernel_rfl
    have g0 := (hall 0 _ rfl).trans e0
    have g1 := (hall 1 _ rfl).trans e1
    have g2 := (hall 2 _ rfl).trans e2
    have g3 := (hall 3 _ rfl).trans e3
    have g4 := (hall 4 _ rfl).trans e4
    have g5 := (hall 5 _ rfl).trans e5
    simp only [c3', c26, Value.cells, List.drop_zero, List.drop_succ_cons, List.take_succ_cons, List.take_zero] at g0 g1 g2 g3 g4 g5
    obtain ⟨a, rfl, wa⟩ := one_int Tryz.underlying3 g0
    obtain ⟨b, rfl, wb⟩ := one_int Tryz.underlying3 g1
    obtain ⟨c, rfl, wc⟩ := one_int Tryz.underlying3 g2
    obtain ⟨e, rfl, we⟩ := one_int Tryz.underlying3 g3
    obtain ⟨f, rfl, wf⟩ := one_int Tryz.underlying3 g4
    obtain ⟨g, rfl, wg⟩ := one_int Tryz.underlying26 g5
    exact ⟨a, b, c, e, f, g, rfl, wa, wb, wc⟩

theorem bd {n : Int} (h : (Lit.int .i64 n).wf = true) : -9223372036854775808 ≤ n ∧ n ≤ 9223372036854775807 := by simpa [Lit.wf, IntKind.min, IntKind.max, IntKind.signed, IntKind.bits] using h

set_option maxRecDepth 100000 in
theorem lifted (os : Os) (started : os.Started) (H : Type) (enc : TypeId × Value → H) :
    ReturnsInHanded {} Tryz.checked os 4 .any (Rows.tallocNewSpec.pre6 enc Tryz.prog Tryz.f4 Rows.tallocNewRow.domain false) (Rows.tallocNewSpec.post enc Tryz.prog Tryz.f4 false true false false) := by
  refine returnsInHanded_of_change (C := Tryz.checked) own started (by kernel_rfl) Tryz.func4
    (ChangeSpec.witness6 (enc := enc) (C := Tryz.checked) false ⟨#[], #[.agg #[.int .i64 0, .int .i64 0, .int .i64 0, .int .i64 0, .int .i64 0, .int .u64 0], .int .i64 0, .int .i64 0], []⟩ 8 (by kernel_rfl) (by kernel_rfl) (by kernel_rfl) (by kernel_rfl)) ?_
  intro W base args ds gs before hval0 hW hcnd _
  have hval : ∀ (j : Nat) t v, Tryz.f4.params[j]? = some t → args[j]? = some v → Value.okWide Tryz.prog W .any base t v := hval0
  have hW' := hW
  obtain ⟨p, q, hA0, hV, rfl, hfz, hnd⟩ := hW
  have hA : DataW.TrodAll enc Tryz.prog W 0 (fun _ => true) true Tryz.f4.params.toList args.toList ds p := hA0
  rw [Tryz.params4] at hA hval
  obtain ⟨v0, vs0, d0, ds0, p0, q0, hargs, rfl, rfl, h0, r0⟩ := trodAll_cons hA
  obtain ⟨v1, vs1, d1, ds1, p1, q1, rfl, rfl, rfl, h1, r1⟩ := trodAll_cons r0
  obtain ⟨v2, vs2, d2, ds2, p2, q2, rfl, rfl, rfl, h2, r2⟩ := trodAll_cons r1
  obtain ⟨rfl, rfl, rfl⟩ := trodAll_nil r2
  obtain rfl : args = #[v0, v1, v2] := by cases args; simp_all
  obtain ⟨rfl, rfl⟩ := trodVars_none hV
  obtain ⟨a, b, c, e, f, g, rfl, wa, wb, wc⟩ := open_config (hval 0 34 v0 rfl rfl) h0
  obtain ⟨a1, rfl, _, _, w1⟩ := open_int Tryz.underlying3 (hval 1 3 v1 rfl rfl) h1
  obtain ⟨a2, rfl, _, _, w2⟩ := open_int Tryz.underlying3 (hval 2 3 v2 rfl rfl) h2
  refine Calls.mono (Go.TB.talloc_new awake_ok a b c e f g a1 a2 (bd wa) (bd wb) (bd wc) W) fun x W' ⟨v, he, _, hv, hk⟩ => ?_
  subst he hv
  exact ⟨_, rfl, law_post kids full (tb := 4) (by rw [Tryz.params4]; decide) rfl rfl Tryz.underlying4 ⟨rfl, rfl, rfl⟩ hW' hk⟩

theorem over : Rows.tallocNewRow.holds Tryz.pinned (OpenSpec.ofChange Rows.tallocNewSpec) :=
  OpenClaim.holds_of_wide 4 Tryz.f4 rfl rfl rfl rfl rfl rfl rfl ⟨rfl, rfl, rfl, rfl, rfl⟩ rfl rfl rfl rfl rfl (by kernel_rfl) Tryz.func4 (by kernel_rfl)
    (of_decide_eq_true (by kernel_rfl)) (by unfold Func.isWrapper; first | (rw [if_pos (by decide +kernel)]; kernel_rfl) | (rw [if_neg (by decide +kernel)]; exact ⟨rfl, rfl⟩))
    (fun os started H enc _ => lifted os started H enc)

theorem proved : Rows.TallocNewSaid :=
  over
end Go.Proofs.YtlcaelckplknnaaGreat.tallocNew
