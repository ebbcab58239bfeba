/- A part of the proof: Kd. -/
import Derived.Test.YtmknebebbbjdlaaGreatW09
set_option linter.unusedSectionVars false
set_option linter.unusedVariables false
set_option linter.unusedSimpArgs false
set_option maxRecDepth 200000
namespace Go.Ce
open Go Go.Proofs Go.Proofs.Tryz
theorem kS2:jP (BQ (Z4 prog JW 3000) none 16 (((C8 prog 16).drop 2).take 1) kA1 iU) NG kW2=some (T7 [AO prog 119 0,AN prog 119 0,AO prog 119 0,AN prog 119 0,AO prog 60 0,AN prog 60 0,AO prog 119 0,AN prog 119 0,AO prog 119 0,AN prog 119 0,AO prog 52 0,AN prog 52 0,AO prog 119 0,AN prog 119 0,AO prog 119 0,AN prog 119 0,AO prog 119 0,AN prog 119 0,AO prog 119 0,AN prog 119 0,AO prog 60 0,AN prog 60 0,AO prog 52 0,AN prog 52 0]):=by kernel_rfl
end Go.Ce
