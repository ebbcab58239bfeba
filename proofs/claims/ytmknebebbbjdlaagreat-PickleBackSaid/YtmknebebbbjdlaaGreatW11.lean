/- A part of the proof: Kc. -/
import Derived.Test.YtmknebebbbjdlaaGreatW10
set_option linter.unusedSectionVars false
set_option linter.unusedVariables false
set_option linter.unusedSimpArgs false
set_option maxRecDepth 200000
namespace Go.Ce
open Go Go.Proofs Go.Proofs.Tryz
theorem kS1:lJ (Bg (cS prog Kv 3000) none 16 (((DP prog 16).drop 0).take 2) kA0 kW0) kA1 kM=some (VT [AS prog 119 0,AQ prog 119 0,AS prog 60 0,AQ prog 60 0,AS prog 119 0,AQ prog 119 0,AS prog 52 0,AQ prog 52 0,AS prog 119 0,AQ prog 119 0,AS prog 119 0,AQ prog 119 0,AS prog 60 0,AQ prog 60 0,AS prog 52 0,AQ prog 52 0]):=by kernel_rfl
end Go.Ce
