/- A part of the proof: Kk. -/
import Derived.Test.YtmknebebbbjdlaaGreatW09
set_option linter.unusedSectionVars false
set_option linter.unusedVariables false
set_option linter.unusedSimpArgs false
set_option linter.defProp false
set_option maxRecDepth 200000
namespace Go.Ce
open Go Go.Proofs Go.Proofs.Tryz
theorem kS9:Yz (D2 (Y8 prog NG 3000) none 16 (((B9 prog 16).drop 9).take 1) xV kW8) kA9 kW9=true:=by kernel_rfl
end Go.Ce
