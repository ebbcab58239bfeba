/- A part of the proof: Ki. -/
import Derived.Test.YtmknebebbbjdlaaGreatW09
set_option linter.unusedSectionVars false
set_option linter.unusedVariables false
set_option linter.unusedSimpArgs false
set_option linter.defProp false
set_option maxRecDepth 200000
namespace Go.Ce
open Go Go.Proofs Go.Proofs.Tryz
theorem kS7:Yz (D2 (Y8 prog NG 3000) none 16 (((B9 prog 16).drop 7).take 1) yj kW6) kA7 kW7=true:=by kernel_rfl
end Go.Ce
