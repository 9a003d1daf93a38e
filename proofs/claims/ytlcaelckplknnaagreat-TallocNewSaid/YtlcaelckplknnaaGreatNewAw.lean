/- Chapter 13s example answers true and leaves all as it was: a run of it by the kernel. -/
import Derived.Test.YtlcaelckplknnaaGreatXS14
import Derived.Test.YtlcaelckplknnaaGreatProg
set_option linter.unusedVariables false
set_option linter.unusedSimpArgs false
set_option maxRecDepth 1000000
namespace Go.Proofs.YtlcaelckplknnaaGreat.tallocNew
open Go Go.SX Go.XC
theorem noNum_prog : noNum Tryz.prog := (by kernel_rfl : Tryz.prog.funcs.all (fun fn => !(fn.name == "runtime.NumGoroutine")) = true)
theorem mixed_prog : Tryz.prog.follows .mixedOrders = true := by kernel_rfl
theorem run_awake : isTrue (xF Tryz.prog noSm 10000 33 [] (st0 []) fun a _ => some a) = true := by kernel_rfl
theorem awake_ok (w : World) : cl Tryz.prog 33 [] (fun v w' => v = .bool true ∧ Kept w w') w :=
  run_true noNum_prog mixed_prog noSm_ok (σ := fun _ => none) run_awake (fun i r h => by simp at h) (by simp [concL]) w
end Go.Proofs.YtlcaelckplknnaaGreat.tallocNew
