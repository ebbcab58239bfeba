/- A part of the proof: Kf. -/
import Derived.Test.YtmknebebbbjdlaaGreatW10
set_option linter.unusedSectionVars false
set_option linter.unusedVariables false
set_option linter.unusedSimpArgs false
set_option linter.defProp false
set_option maxRecDepth 200000
namespace Go.Ce
open Go Go.Proofs Go.Proofs.Tryz
theorem kS4:a8 (Ee (bM prog N8 3000) none 16 (((C8 prog 16).drop 4).take 1) w_ kW3) kA4 kW4=true:=by kernel_rfl
end Go.Ce
