/- A part of the proof: Kz. -/
import Derived.Test.YtmknebebbbjdlaaGreatW10
import Derived.Test.YtmknebebbbjdlaaGreatW11
import Derived.Test.YtmknebebbbjdlaaGreatW12
import Derived.Test.YtmknebebbbjdlaaGreatW13
import Derived.Test.YtmknebebbbjdlaaGreatW14
import Derived.Test.YtmknebebbbjdlaaGreatW15
import Derived.Test.YtmknebebbbjdlaaGreatW16
import Derived.Test.YtmknebebbbjdlaaGreatW17
import Derived.Test.YtmknebebbbjdlaaGreatW18
import Derived.Test.YtmknebebbbjdlaaGreatW19
set_option linter.unusedSectionVars false
set_option linter.unusedVariables false
set_option linter.unusedSimpArgs false
set_option maxRecDepth 200000
namespace Go.Ce
open Go Go.Proofs Go.Proofs.Tryz
open Go.RowKit (Below)
theorem zYp:zKd prog Tryz.f16 (zAt (evN prog zGs 3000) none 16 ((zBd prog 16).drop 11) zYX zYV)=true:=by kernel_rfl
theorem zSv:∃ n,zG8 ((evC prog zGs n).call 16 [] (W0 0))=true :=
 zKh (i:=11) (by kernel_rfl) (by kernel_rfl) (by kernel_rfl) Tryz.func16 (by kernel_rfl) zYp fun x a' W' h =>
  (.seg 2 3000 (zB9 kS1) <| .seg 1 3000 (zB9 kS2) <| .seg 1 3000 (zB9 kS3) <| .seg 1 3000 (zB9 kS4) <| .seg 1 3000 (zB9 kS5) <| .seg 1 3000 (zB9 kS6) <| .seg 1 3000 (zB9 kS7) <| .seg 1 3000 (zB9 kS8) <| .seg 1 3000 (zB9 kS9) <| .seg 1 3000 (zB9 zYo) h)
theorem kzp:ZP prog:=ZP.of (by kernel_rfl) (EX.of (by kernel_rfl))
theorem ken:EN prog:=EN.of (by kernel_rfl)
theorem zYU:prog.follows .mixedOrders=true:=by kernel_rfl
theorem zQn (w:World) (k:Nat):CallsIn (F0 prog) k prog 16 #[] w fun e w'=>e=.returned (.bool true)∧Below w.heap.size w w':=by
 obtain ⟨n,h⟩:=zSv; exact zL9 kzp zYU ken (CK.of zQo (by kernel_rfl)) h w k
end Go.Ce
