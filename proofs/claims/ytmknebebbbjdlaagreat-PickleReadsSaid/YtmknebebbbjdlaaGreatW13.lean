/- A part of the proof: Ke. -/
import Derived.Test.YtmknebebbbjdlaaGreatW10
set_option linter.unusedSectionVars false
set_option linter.unusedVariables false
set_option linter.unusedSimpArgs false
set_option linter.defProp false
set_option maxRecDepth 200000
namespace Go.Ce
open Go Go.Proofs Go.Proofs.Tryz
theorem kS3:a8 (Ee (bM prog N8 3000) none 16 (((C8 prog 16).drop 3).take 1) WX kW2) w_ kW3=true:=by kernel_rfl
end Go.Ce
