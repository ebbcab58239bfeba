/- A part of the proof: Kz. -/
import Derived.Test.YtmknebebbbjdlaaGreatW10
import Derived.Test.YtmknebebbbjdlaaGreatW11
import Derived.Test.YtmknebebbbjdlaaGreatW12
import Derived.Test.YtmknebebbbjdlaaGreatW13
import Derived.Test.YtmknebebbbjdlaaGreatW14
import Derived.Test.YtmknebebbbjdlaaGreatW15
import Derived.Test.YtmknebebbbjdlaaGreatW16
import Derived.Test.YtmknebebbbjdlaaGreatW17
import Derived.Test.YtmknebebbbjdlaaGreatW18
import Derived.Test.YtmknebebbbjdlaaGreatW19
set_option linter.unusedSectionVars false
set_option linter.unusedVariables false
set_option linter.unusedSimpArgs false
set_option maxRecDepth 200000
namespace Go.Ce
open Go Go.Proofs Go.Proofs.Tryz
open Go.RowKit (Below)
theorem ADh:T8 prog Tryz.f16 (BQ (Z4 prog JW 3000) none 16 ((C8 prog 16).drop 11) ABM ABL)=true:=by kernel_rfl
theorem nQ:∃ n,LX ((CM prog JW n).call 16 [] (W0 0))=true :=
 Uk (i:=11) (by kernel_rfl) (by kernel_rfl) (by kernel_rfl) Tryz.func16 (by kernel_rfl) ADh fun x a' W' h =>
  (.nZ 2 3000 (D_ kS1) <| .nZ 1 3000 (D_ kS2) <| .nZ 1 3000 (D_ kS3) <| .nZ 1 3000 (D_ kS4) <| .nZ 1 3000 (D_ kS5) <| .nZ 1 3000 (D_ kS6) <| .nZ 1 3000 (D_ kS7) <| .nZ 1 3000 (D_ kS8) <| .nZ 1 3000 (D_ kS9) <| .nZ 1 3000 (D_ ADg) h)
theorem kzp:ZP prog:=ZP.of (by kernel_rfl) (EX.of (by kernel_rfl))
theorem ken:EN prog:=EN.of (by kernel_rfl)
theorem xn:prog.follows .mixedOrders=true:=by kernel_rfl
theorem fT (w:World) (k:Nat):CallsIn (F0 prog) k prog 16 #[] w fun e w'=>e=.returned (.bool true)∧Below w.heap.size w w':=by
 obtain ⟨n,h⟩:=nQ; exact Wd kzp xn ken (CK.of il (by kernel_rfl)) h w k
end Go.Ce
