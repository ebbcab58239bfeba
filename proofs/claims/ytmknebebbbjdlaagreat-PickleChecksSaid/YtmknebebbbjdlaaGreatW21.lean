/- A part of the proof: Kz. -/
import Derived.Test.YtmknebebbbjdlaaGreatW11
import Derived.Test.YtmknebebbbjdlaaGreatW12
import Derived.Test.YtmknebebbbjdlaaGreatW13
import Derived.Test.YtmknebebbbjdlaaGreatW14
import Derived.Test.YtmknebebbbjdlaaGreatW15
import Derived.Test.YtmknebebbbjdlaaGreatW16
import Derived.Test.YtmknebebbbjdlaaGreatW17
import Derived.Test.YtmknebebbbjdlaaGreatW18
import Derived.Test.YtmknebebbbjdlaaGreatW19
import Derived.Test.YtmknebebbbjdlaaGreatW20
set_option linter.unusedSectionVars false
set_option linter.unusedVariables false
set_option linter.unusedSimpArgs false
set_option linter.defProp false
set_option maxRecDepth 200000
namespace Go.Ce
open Go Go.Proofs Go.Proofs.Tryz
open Go.RowKit (Below)
theorem AIp:X' prog Tryz.f16 (Bq (gq prog L0 3000) none 16 ((Dk prog 16).drop 11) AGh AGg)=true:=by kernel_rfl
theorem vz:∃ n,Nu ((Du prog L0 n).call 16 [] (W0 0))=true :=
 Yl (i:=11) (by kernel_rfl) (by kernel_rfl) (by kernel_rfl) Tryz.func16 (by kernel_rfl) AIp fun x a' W' h =>
  (.wF 2 3000 (Fi kS1) <| .wF 1 3000 (Fi kS2) <| .wF 1 3000 (Fi kS3) <| .wF 1 3000 (Fi kS4) <| .wF 1 3000 (Fi kS5) <| .wF 1 3000 (Fi kS6) <| .wF 1 3000 (Fi kS7) <| .wF 1 3000 (Fi kS8) <| .wF 1 3000 (Fi kS9) <| .wF 1 3000 (Fi AIo) h)
theorem kzp:ZP prog:=ZP.of (by kernel_rfl) (EX.of (by kernel_rfl))
theorem ken:EN prog:=EN.of (by kernel_rfl)
theorem ADW:prog.follows .mixedOrders=true:=by kernel_rfl
theorem nh (w:World) (k:Nat):CallsIn (F0 prog) k prog 16 #[] w fun e w'=>e=.returned (.bool true)∧Below w.heap.size w w':=by
 obtain ⟨n,h⟩:=vz; exact bM kzp ADW ken (CK.of qe (by kernel_rfl)) h w k
end Go.Ce
