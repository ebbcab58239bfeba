/- A part of the proof: Ka. -/
import Derived.Test.YtmknebebbbjdlaaGreatW02
import Derived.Test.YtmknebebbbjdlaaGreatProg
set_option linter.unusedSectionVars false
set_option linter.unusedVariables false
set_option linter.unusedSimpArgs false
set_option linter.defProp false
set_option maxRecDepth 200000
namespace Go.Ce
open Go Go.Proofs Go.Proofs.Tryz
def NG:List FuncId:=[16,17,19,20,21,22,24,25,32,45,46,47,48,49,50,51,52,53,54,55,56,57,58,59,60,61,62,72,73,74,75,76,77,78,79,80,81,82,84,91,92,93]++(List.range 62).map (·+100)
theorem su:bb prog NG=true:=by kernel_rfl
end Go.Ce
