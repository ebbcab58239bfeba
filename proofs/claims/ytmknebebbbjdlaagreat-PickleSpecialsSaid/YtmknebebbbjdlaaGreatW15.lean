/- A part of the proof: Kh. -/
import Derived.Test.YtmknebebbbjdlaaGreatW09
set_option linter.unusedSectionVars false
set_option linter.unusedVariables false
set_option linter.unusedSimpArgs false
set_option maxRecDepth 200000
namespace Go.Ce
open Go Go.Proofs Go.Proofs.Tryz
theorem kS6:chk (zAt (evN prog zGs 3000) none 16 (((zBd prog 16).drop 6).take 1) kA5 kW5) kA6 kW6=some (zRZ [rfA prog 52 0,rfB prog 52 0,rfA prog 119 0,rfB prog 119 0,rfA prog 119 0,rfB prog 119 0,rfA prog 119 0,rfB prog 119 0,rfA prog 119 0,rfB prog 119 0,rfA prog 52 0,rfB prog 52 0,rfA prog 119 0,rfB prog 119 0,rfA prog 119 0,rfB prog 119 0,rfA prog 60 0,rfB prog 60 0,rfA prog 119 0,rfB prog 119 0,rfA prog 119 0,rfB prog 119 0,rfA prog 119 0,rfB prog 119 0,rfA prog 119 0,rfB prog 119 0,rfA prog 119 0,rfB prog 119 0,rfA prog 119 0,rfB prog 119 0,rfA prog 60 0,rfB prog 60 0,rfA prog 60 0,rfB prog 60 0,rfA prog 119 0,rfB prog 119 0,rfA prog 52 0,rfB prog 52 0,rfA prog 52 0,rfB prog 52 0,rfA prog 119 0,rfB prog 119 0,rfA prog 119 0,rfB prog 119 0,rfA prog 119 0,rfB prog 119 0,rfA prog 119 0,rfB prog 119 0,rfA prog 119 0,rfB prog 119 0,rfA prog 119 0,rfB prog 119 0,rfA prog 119 0,rfB prog 119 0,rfA prog 52 0,rfB prog 52 0,rfA prog 119 0,rfB prog 119 0,rfA prog 52 0,rfB prog 52 0,rfA prog 119 0,rfB prog 119 0,rfA prog 119 0,rfB prog 119 0,rfA prog 119 0,rfB prog 119 0,rfA prog 52 0,rfB prog 52 0,rfA prog 52 0,rfB prog 52 0,rfA prog 60 0,rfB prog 60 0,rfA prog 60 0,rfB prog 60 0,rfA prog 52 0,rfB prog 52 0,rfA prog 52 0,rfB prog 52 0,rfA prog 52 0,rfB prog 52 0,rfA prog 52 0,rfB prog 52 0,rfA prog 127 0,rfB prog 127 0,rfA prog 52 0,rfB prog 52 0,rfA prog 74 0,rfB prog 74 0,rfA prog 74 0,rfB prog 74 0,rfA prog 74 0,rfB prog 74 0]):=by kernel_rfl
end Go.Ce
