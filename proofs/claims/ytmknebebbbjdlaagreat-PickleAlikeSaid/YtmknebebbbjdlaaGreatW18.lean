/- A part of the proof: Kj. -/
import Derived.Test.YtmknebebbbjdlaaGreatW10
set_option linter.unusedSectionVars false
set_option linter.unusedVariables false
set_option linter.unusedSimpArgs false
set_option maxRecDepth 200000
namespace Go.Ce
open Go Go.Proofs Go.Proofs.Tryz
theorem kS8:lg (Bb (cH prog J_ 3000) none 16 (((DN prog 16).drop 8).take 1) kA7 kW7) kA8 kW8=some (VP [AU prog 52 0,AV prog 52 0,AU prog 119 0,AV prog 119 0,AU prog 119 0,AV prog 119 0,AU prog 119 0,AV prog 119 0,AU prog 119 0,AV prog 119 0,AU prog 52 0,AV prog 52 0,AU prog 52 0,AV prog 52 0,AU prog 119 0,AV prog 119 0,AU prog 119 0,AV prog 119 0,AU prog 119 0,AV prog 119 0,AU prog 60 0,AV prog 60 0,AU prog 119 0,AV prog 119 0,AU prog 119 0,AV prog 119 0,AU prog 119 0,AV prog 119 0,AU prog 119 0,AV prog 119 0,AU prog 119 0,AV prog 119 0,AU prog 119 0,AV prog 119 0,AU prog 119 0,AV prog 119 0,AU prog 60 0,AV prog 60 0,AU prog 60 0,AV prog 60 0,AU prog 119 0,AV prog 119 0,AU prog 52 0,AV prog 52 0,AU prog 52 0,AV prog 52 0,AU prog 119 0,AV prog 119 0,AU prog 119 0,AV prog 119 0,AU prog 119 0,AV prog 119 0,AU prog 119 0,AV prog 119 0,AU prog 119 0,AV prog 119 0,AU prog 119 0,AV prog 119 0,AU prog 119 0,AV prog 119 0,AU prog 119 0,AV prog 119 0,AU prog 52 0,AV prog 52 0,AU prog 119 0,AV prog 119 0,AU prog 52 0,AV prog 52 0,AU prog 119 0,AV prog 119 0,AU prog 119 0,AV prog 119 0,AU prog 21 0,AV prog 21 0,AU prog 119 0,AV prog 119 0,AU prog 119 0,AV prog 119 0,AU prog 52 0,AV prog 52 0,AU prog 21 0,AV prog 21 0,AU prog 52 0,AV prog 52 0,AU prog 52 0,AV prog 52 0,AU prog 60 0,AV prog 60 0,AU prog 60 0,AV prog 60 0,AU prog 52 0,AV prog 52 0,AU prog 52 0,AV prog 52 0,AU prog 52 0,AV prog 52 0,AU prog 52 0,AV prog 52 0,AU prog 52 0,AV prog 52 0,AU prog 127 0,AV prog 127 0,AU prog 52 0,AV prog 52 0,AU prog 21 0,AV prog 21 0,AU prog 74 0,AV prog 74 0,AU prog 74 0,AV prog 74 0,AU prog 74 0,AV prog 74 0]):=by kernel_rfl
end Go.Ce
