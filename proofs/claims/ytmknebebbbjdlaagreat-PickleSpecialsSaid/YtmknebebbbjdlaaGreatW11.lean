/- A part of the proof: Kd. -/
import Derived.Test.YtmknebebbbjdlaaGreatW09
set_option linter.unusedSectionVars false
set_option linter.unusedVariables false
set_option linter.unusedSimpArgs false
set_option maxRecDepth 200000
namespace Go.Ce
open Go Go.Proofs Go.Proofs.Tryz
theorem kS2:chk (zAt (evN prog zGs 3000) none 16 (((zBd prog 16).drop 2).take 1) kA1 kW1) kA2 kW2=some (zRZ [rfA prog 119 0,rfB prog 119 0,rfA prog 119 0,rfB prog 119 0,rfA prog 60 0,rfB prog 60 0,rfA prog 119 0,rfB prog 119 0,rfA prog 119 0,rfB prog 119 0,rfA prog 52 0,rfB prog 52 0,rfA prog 119 0,rfB prog 119 0,rfA prog 119 0,rfB prog 119 0,rfA prog 119 0,rfB prog 119 0,rfA prog 119 0,rfB prog 119 0,rfA prog 60 0,rfB prog 60 0,rfA prog 52 0,rfB prog 52 0]):=by kernel_rfl
end Go.Ce
