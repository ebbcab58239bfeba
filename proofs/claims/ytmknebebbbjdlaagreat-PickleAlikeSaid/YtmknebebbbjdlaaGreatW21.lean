/- A part of the proof: Kz. -/
import Derived.Test.YtmknebebbbjdlaaGreatW11
import Derived.Test.YtmknebebbbjdlaaGreatW12
import Derived.Test.YtmknebebbbjdlaaGreatW13
import Derived.Test.YtmknebebbbjdlaaGreatW14
import Derived.Test.YtmknebebbbjdlaaGreatW15
import Derived.Test.YtmknebebbbjdlaaGreatW16
import Derived.Test.YtmknebebbbjdlaaGreatW17
import Derived.Test.YtmknebebbbjdlaaGreatW18
import Derived.Test.YtmknebebbbjdlaaGreatW19
import Derived.Test.YtmknebebbbjdlaaGreatW20
set_option linter.unusedSectionVars false
set_option linter.unusedVariables false
set_option linter.unusedSimpArgs false
set_option maxRecDepth 200000
namespace Go.Ce
open Go Go.Proofs Go.Proofs.Tryz
open Go.RowKit (Below)
theorem AFI:VQ prog Tryz.f16 (Bb (cH prog J_ 3000) none 16 ((DN prog 16).drop 11) AC1 AC0)=true:=by kernel_rfl
theorem pP:∃ n,MK ((DT prog J_ n).call 16 [] (W0 0))=true :=
 WA (i:=11) (by kernel_rfl) (by kernel_rfl) (by kernel_rfl) Tryz.func16 (by kernel_rfl) AFI fun x a' W' h =>
  (.pY 2 3000 (Eg kS1) <| .pY 1 3000 (Eg kS2) <| .pY 1 3000 (Eg kS3) <| .pY 1 3000 (Eg kS4) <| .pY 1 3000 (Eg kS5) <| .pY 1 3000 (Eg kS6) <| .pY 1 3000 (Eg kS7) <| .pY 1 3000 (Eg kS8) <| .pY 1 3000 (Eg kS9) <| .pY 1 3000 (Eg AFH) h)
theorem kzp:ZP prog:=ZP.of (by kernel_rfl) (EX.of (by kernel_rfl))
theorem ken:EN prog:=EN.of (by kernel_rfl)
theorem AAD:prog.follows .mixedOrders=true:=by kernel_rfl
theorem iS (w:World) (k:Nat):CallsIn (F0 prog) k prog 16 #[] w fun e w'=>e=.returned (.bool true)∧Below w.heap.size w w':=by
 obtain ⟨n,h⟩:=pP; exact X8 kzp AAD ken (CK.of kf (by kernel_rfl)) h w k
end Go.Ce
