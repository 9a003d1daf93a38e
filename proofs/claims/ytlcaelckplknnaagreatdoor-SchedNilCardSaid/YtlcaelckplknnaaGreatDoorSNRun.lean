import Derived.Test.YtlcaelckplknnaaGreatDoorSNAw
set_option linter.unusedVariables false
set_option linter.unusedSimpArgs false
set_option maxRecDepth 1000000
namespace Go.TB
open Go Go.SX Go.XC Go.Proofs
theorem run_nil (v0 v1 : Value) : isTrue (xF Tryz.prog (smT 12) 10000 3 [.lit v0, .lit v1] (st0 []) fun a _ => some a) = true := by kernel_rfl
theorem awake_ok (w : World) : cl Tryz.prog 12 [] (fun v w' => v = .bool true ∧ Kept w w') w :=
  run_true noNum_prog mixed_prog (smDo_ok 10000) (σ := fun _ => none) run_awake (fun i r h => by simp at h) (by simp [concL]) w
theorem walk (v0 v1 : Value) (w : World) : cl Tryz.prog 3 [v0, v1] (fun v w' => v = .bool true ∧ Kept w w') w :=
  run_true noNum_prog mixed_prog (smT_ok awake_ok) (σ := fun _ => none) (run_nil v0 v1) (fun i r h => by simp at h) (by simp [concL, conc]) w
end Go.TB
