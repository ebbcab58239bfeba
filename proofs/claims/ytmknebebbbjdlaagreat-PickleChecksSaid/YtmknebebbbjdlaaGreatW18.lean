/- A part of the proof: Kj. -/
import Derived.Test.YtmknebebbbjdlaaGreatW10
set_option linter.unusedSectionVars false
set_option linter.unusedVariables false
set_option linter.unusedSimpArgs false
set_option linter.defProp false
set_option maxRecDepth 200000
namespace Go.Ce
open Go Go.Proofs Go.Proofs.Tryz
theorem kS8:rK (Bq (gq prog L0 3000) none 16 (((Dk prog 16).drop 8).take 1) kA7 kW7) kA8 kW8=some (X9 [AM prog 52 0,AN prog 52 0,AM prog 119 0,AN prog 119 0,AM prog 119 0,AN prog 119 0,AM prog 119 0,AN prog 119 0,AM prog 119 0,AN prog 119 0,AM prog 52 0,AN prog 52 0,AM prog 52 0,AN prog 52 0,AM prog 119 0,AN prog 119 0,AM prog 119 0,AN prog 119 0,AM prog 119 0,AN prog 119 0,AM prog 60 0,AN prog 60 0,AM prog 119 0,AN prog 119 0,AM prog 119 0,AN prog 119 0,AM prog 119 0,AN prog 119 0,AM prog 119 0,AN prog 119 0,AM prog 119 0,AN prog 119 0,AM prog 119 0,AN prog 119 0,AM prog 119 0,AN prog 119 0,AM prog 60 0,AN prog 60 0,AM prog 60 0,AN prog 60 0,AM prog 119 0,AN prog 119 0,AM prog 52 0,AN prog 52 0,AM prog 52 0,AN prog 52 0,AM prog 119 0,AN prog 119 0,AM prog 119 0,AN prog 119 0,AM prog 119 0,AN prog 119 0,AM prog 119 0,AN prog 119 0,AM prog 119 0,AN prog 119 0,AM prog 119 0,AN prog 119 0,AM prog 119 0,AN prog 119 0,AM prog 119 0,AN prog 119 0,AM prog 52 0,AN prog 52 0,AM prog 119 0,AN prog 119 0,AM prog 52 0,AN prog 52 0,AM prog 119 0,AN prog 119 0,AM prog 119 0,AN prog 119 0,AM prog 21 0,AN prog 21 0,AM prog 119 0,AN prog 119 0,AM prog 119 0,AN prog 119 0,AM prog 52 0,AN prog 52 0,AM prog 21 0,AN prog 21 0,AM prog 52 0,AN prog 52 0,AM prog 52 0,AN prog 52 0,AM prog 60 0,AN prog 60 0,AM prog 60 0,AN prog 60 0,AM prog 52 0,AN prog 52 0,AM prog 52 0,AN prog 52 0,AM prog 52 0,AN prog 52 0,AM prog 52 0,AN prog 52 0,AM prog 52 0,AN prog 52 0,AM prog 127 0,AN prog 127 0,AM prog 52 0,AN prog 52 0,AM prog 21 0,AN prog 21 0,AM prog 74 0,AN prog 74 0,AM prog 74 0,AN prog 74 0,AM prog 74 0,AN prog 74 0]):=by kernel_rfl
end Go.Ce
