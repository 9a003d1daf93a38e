/- Runs of tumbrellaw14.FlowNil from nothing, each for a range of numbers, by the kernel. -/
import Derived.Test.YtlcaelckplknnaaGreatXS14
import Derived.Test.YtlcaelckplknnaaGreatProg
set_option linter.unusedVariables false
set_option linter.unusedSimpArgs false
set_option maxRecDepth 1000000
namespace Go.Proofs.YtlcaelckplknnaaGreat.flowNil
open Go Go.SX Go.XC

theorem run_neg : isTrue (xF Tryz.prog (smT 16) 10000 3 [.sym .i64 0, .sym .i64 1] (st0 [(-9223372036854775808, -1), (-9223372036854775808, 9223372036854775807)]) fun a _ => some a) = true := by kernel_rfl
theorem run_big : isTrue (xF Tryz.prog (smT 16) 10000 3 [.sym .i64 0, .sym .i64 1] (st0 [(3, 9223372036854775807), (-9223372036854775808, 9223372036854775807)]) fun a _ => some a) = true := by kernel_rfl
theorem run_t0n : isTrue (xF Tryz.prog (smT 16) 10000 3 [.lit (.int .i64 0), .sym .i64 0] (st0 [(-9223372036854775808, -1)]) fun a _ => some a) = true := by kernel_rfl

end Go.Proofs.YtlcaelckplknnaaGreat.flowNil
