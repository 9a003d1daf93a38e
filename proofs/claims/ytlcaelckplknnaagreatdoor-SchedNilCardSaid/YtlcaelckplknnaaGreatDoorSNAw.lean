import Derived.Test.YtlcaelckplknnaaGreatDoorDoB
set_option linter.unusedVariables false
set_option linter.unusedSimpArgs false
set_option maxRecDepth 1000000
namespace Go.TB
open Go Go.SX Go.XC Go.Proofs
theorem run_awake : isTrue (xF Tryz.prog (smDo 10000) 10000 12 [] (st0 []) fun a _ => some a) = true := by kernel_rfl
end Go.TB
