/- A part of the proof: Kh. -/
import Derived.Test.YtmknebebbbjdlaaGreatW10
set_option linter.unusedSectionVars false
set_option linter.unusedVariables false
set_option linter.unusedSimpArgs false
set_option maxRecDepth 200000
namespace Go.Ce
open Go Go.Proofs Go.Proofs.Tryz
theorem kS6:lJ (Bg (cS prog Kv 3000) none 16 (((DP prog 16).drop 6).take 1) zb kW5) kA6 kW6=some (VT [AS prog 52 0,AQ prog 52 0,AS prog 119 0,AQ prog 119 0,AS prog 119 0,AQ prog 119 0,AS prog 119 0,AQ prog 119 0,AS prog 119 0,AQ prog 119 0,AS prog 52 0,AQ prog 52 0,AS prog 119 0,AQ prog 119 0,AS prog 119 0,AQ prog 119 0,AS prog 60 0,AQ prog 60 0,AS prog 119 0,AQ prog 119 0,AS prog 119 0,AQ prog 119 0,AS prog 119 0,AQ prog 119 0,AS prog 119 0,AQ prog 119 0,AS prog 119 0,AQ prog 119 0,AS prog 119 0,AQ prog 119 0,AS prog 60 0,AQ prog 60 0,AS prog 60 0,AQ prog 60 0,AS prog 119 0,AQ prog 119 0,AS prog 52 0,AQ prog 52 0,AS prog 52 0,AQ prog 52 0,AS prog 119 0,AQ prog 119 0,AS prog 119 0,AQ prog 119 0,AS prog 119 0,AQ prog 119 0,AS prog 119 0,AQ prog 119 0,AS prog 119 0,AQ prog 119 0,AS prog 119 0,AQ prog 119 0,AS prog 119 0,AQ prog 119 0,AS prog 52 0,AQ prog 52 0,AS prog 119 0,AQ prog 119 0,AS prog 52 0,AQ prog 52 0,AS prog 119 0,AQ prog 119 0,AS prog 119 0,AQ prog 119 0,AS prog 119 0,AQ prog 119 0,AS prog 52 0,AQ prog 52 0,AS prog 52 0,AQ prog 52 0,AS prog 60 0,AQ prog 60 0,AS prog 60 0,AQ prog 60 0,AS prog 52 0,AQ prog 52 0,AS prog 52 0,AQ prog 52 0,AS prog 52 0,AQ prog 52 0,AS prog 52 0,AQ prog 52 0,AS prog 127 0,AQ prog 127 0,AS prog 52 0,AQ prog 52 0,AS prog 74 0,AQ prog 74 0,AS prog 74 0,AQ prog 74 0,AS prog 74 0,AQ prog 74 0]):=by kernel_rfl
end Go.Ce
