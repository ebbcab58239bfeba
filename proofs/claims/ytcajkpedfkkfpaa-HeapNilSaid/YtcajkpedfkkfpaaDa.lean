/- The closed run of the heap's example, in the kernel. -/
import Derived.Test.YtcajkpedfkkfpaaProg
import Derived.Test.YtcajkpedfkkfpaaCb
set_option linter.unusedSectionVars false
set_option linter.unusedVariables false
set_option linter.unusedSimpArgs false
namespace Go.Ce
open Go Go.Proofs
def heapL : List FuncId := [7, 8, 9, 10, 11, 13, 15, 16, 17, 18, 21, 22, 23, 25, 26, 27, 28, 29, 30, 31, 32, 33, 34, 35, 36, 37, 38, 39, 40, 41, 42, 43, 44, 45, 46, 47, 48, 49, 50, 51, 52, 53, 55, 56, 57, 58, 59, 60, 61, 62, 63, 64, 65, 66, 67, 68, 69, 70, 71, 72, 73, 74, 75, 76, 77, 78, 79, 80, 81, 82, 83, 84, 85, 86, 87, 88, 89, 90, 91, 92, 93, 94, 95, 96, 97, 98, 99, 100, 101, 102, 103]
theorem heap_alive_run : allTrue ((evN Try.prog heapL 300).call 16 [] (W0 0)) = true := by kernel_rfl
theorem heap_code : callsOk Try.prog heapL = true := by kernel_rfl
end Go.Ce
