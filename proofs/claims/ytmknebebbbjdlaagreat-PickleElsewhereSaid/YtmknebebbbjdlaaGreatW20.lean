/- A part of the proof: Kz. -/
import Derived.Test.YtmknebebbbjdlaaGreatW10
import Derived.Test.YtmknebebbbjdlaaGreatW11
import Derived.Test.YtmknebebbbjdlaaGreatW12
import Derived.Test.YtmknebebbbjdlaaGreatW13
import Derived.Test.YtmknebebbbjdlaaGreatW14
import Derived.Test.YtmknebebbbjdlaaGreatW15
import Derived.Test.YtmknebebbbjdlaaGreatW16
import Derived.Test.YtmknebebbbjdlaaGreatW17
import Derived.Test.YtmknebebbbjdlaaGreatW18
import Derived.Test.YtmknebebbbjdlaaGreatW19
set_option linter.unusedSectionVars false
set_option linter.unusedVariables false
set_option linter.unusedSimpArgs false
set_option linter.defProp false
set_option maxRecDepth 200000
namespace Go.Ce
open Go Go.Proofs Go.Proofs.Tryz
open Go.RowKit (Below)
theorem AK8:Y0 prog Tryz.f16 (D2 (Y8 prog NG 3000) none 16 ((B9 prog 16).drop 11) ss AIN)=true:=by kernel_rfl
theorem kzp:ZP prog:=ZP.of (by kernel_rfl) (EX.of (by kernel_rfl))
theorem ken:EN prog:=EN.of (by kernel_rfl)
theorem AE8:prog.follows .mixedOrders=true:=by kernel_rfl
theorem pj(w:World)(k:Nat):CallsIn (F0 prog) k prog 16 #[] w λe w'=>e=.returned (.bool true)∧Below w.heap.size w w' :=
 gM kzp AE8 ken (CK.of su (by kernel_rfl)) (by kernel_rfl) Tryz.func16 (by kernel_rfl) (λw0 hS Aa=>
  .Yz hS Aa 2 3000 kS1<| .Yz hS Aa 1 3000 kS2<| .Yz hS Aa 1 3000 kS3<| .Yz hS Aa 1 3000 kS4<| .Yz hS Aa 1 3000 kS5<| .Yz hS Aa 1 3000 kS6<| .Yz hS Aa 1 3000 kS7<| .Yz hS Aa 1 3000 kS8<| .Yz hS Aa 1 3000 kS9<| .Yz hS Aa 1 3000 AK7<| .ends hS Aa 3000 AK8) w k
end Go.Ce
