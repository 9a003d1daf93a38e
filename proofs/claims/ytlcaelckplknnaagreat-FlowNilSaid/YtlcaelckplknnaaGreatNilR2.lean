/- Runs of tumbrellaw14.FlowNil from nothing, each for a range of numbers, by the kernel. -/
import Derived.Test.YtlcaelckplknnaaGreatXS14
import Derived.Test.YtlcaelckplknnaaGreatProg
set_option linter.unusedVariables false
set_option linter.unusedSimpArgs false
set_option maxRecDepth 1000000
namespace Go.Proofs.YtlcaelckplknnaaGreat.flowNil
open Go Go.SX Go.XC

theorem run_t1i : isTrue (xF Tryz.prog (smT 16) 10000 3 [.lit (.int .i64 1), .sym .i64 0] (st0 [(0, 255)]) fun a _ => some a) = true := by kernel_rfl
theorem run_t1b : isTrue (xF Tryz.prog (smT 16) 10000 3 [.lit (.int .i64 1), .sym .i64 0] (st0 [(256, 9223372036854775807)]) fun a _ => some a) = true := by kernel_rfl
theorem run_t2n : isTrue (xF Tryz.prog (smT 16) 10000 3 [.lit (.int .i64 2), .sym .i64 0] (st0 [(-9223372036854775808, -1)]) fun a _ => some a) = true := by kernel_rfl

end Go.Proofs.YtlcaelckplknnaaGreat.flowNil
