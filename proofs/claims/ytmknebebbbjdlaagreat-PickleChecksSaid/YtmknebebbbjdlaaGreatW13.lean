/- A part of the proof: Ke. -/
import Derived.Test.YtmknebebbbjdlaaGreatW10
set_option linter.unusedSectionVars false
set_option linter.unusedVariables false
set_option linter.unusedSimpArgs false
set_option linter.defProp false
set_option maxRecDepth 200000
namespace Go.Ce
open Go Go.Proofs Go.Proofs.Tryz
theorem kS3:rK (Bq (gq prog L0 3000) none 16 (((Dk prog 16).drop 3).take 1) iA kW2) dI kW3=some (X9 [AM prog 52 0,AN prog 52 0,AM prog 119 0,AN prog 119 0,AM prog 119 0,AN prog 119 0,AM prog 119 0,AN prog 119 0,AM prog 119 0,AN prog 119 0,AM prog 60 0,AN prog 60 0,AM prog 119 0,AN prog 119 0,AM prog 119 0,AN prog 119 0,AM prog 119 0,AN prog 119 0,AM prog 119 0,AN prog 119 0,AM prog 52 0,AN prog 52 0,AM prog 52 0,AN prog 52 0,AM prog 119 0,AN prog 119 0,AM prog 119 0,AN prog 119 0,AM prog 119 0,AN prog 119 0,AM prog 119 0,AN prog 119 0,AM prog 119 0,AN prog 119 0,AM prog 119 0,AN prog 119 0,AM prog 119 0,AN prog 119 0,AM prog 52 0,AN prog 52 0,AM prog 119 0,AN prog 119 0,AM prog 60 0,AN prog 60 0,AM prog 52 0,AN prog 52 0,AM prog 52 0,AN prog 52 0,AM prog 52 0,AN prog 52 0]):=by kernel_rfl
end Go.Ce
