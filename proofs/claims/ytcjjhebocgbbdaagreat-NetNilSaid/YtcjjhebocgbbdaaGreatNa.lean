/- The law of nil nodes, run in the kernel: whatever the two numbers and the letter are. -/
import Derived.Test.YtcjjhebocgbbdaaGreatProg
import Derived.Test.YtcjjhebocgbbdaaGreatCb
set_option linter.unusedSectionVars false
set_option linter.unusedVariables false
set_option linter.unusedSimpArgs false
namespace Go.Ce
open Go Go.Proofs
def netL : List FuncId := [9, 10, 14, 15, 17, 18, 19, 21, 23, 24, 26, 28, 29, 30, 32, 33] ++ (List.range 135).map (· + 36)
theorem net_nil_run (v w : Int) (k a1 a2 a3 a4 a5 a6 a7 a9 a10 a11 a12 a13 a14 a15 : Int) (b8 b16 : Bool) :
    allTrue ((evN Tryz.prog netL 400).call 9 [.int .i64 v, .int .i64 w, .agg #[.int .u8 k, .int .i64 a1, .int .i64 a2, .int .i64 a3, .int .i64 a4, .int .i64 a5, .int .i64 a6, .int .i64 a7, .bool b8, .int .i64 a9, .int .i64 a10, .int .i64 a11, .int .i64 a12, .int .i64 a13, .int .i64 a14, .int .i64 a15, .bool b16]] (W0 0)) = true := by kernel_rfl
theorem net_code : callsOk Tryz.prog netL = true := by kernel_rfl
end Go.Ce
