/- A part of the proof: Kz. -/
import Derived.Test.YtmknebebbbjdlaaGreatW11
import Derived.Test.YtmknebebbbjdlaaGreatW12
import Derived.Test.YtmknebebbbjdlaaGreatW13
import Derived.Test.YtmknebebbbjdlaaGreatW14
import Derived.Test.YtmknebebbbjdlaaGreatW15
import Derived.Test.YtmknebebbbjdlaaGreatW16
import Derived.Test.YtmknebebbbjdlaaGreatW17
import Derived.Test.YtmknebebbbjdlaaGreatW18
import Derived.Test.YtmknebebbbjdlaaGreatW19
import Derived.Test.YtmknebebbbjdlaaGreatW20
set_option linter.unusedSectionVars false
set_option linter.unusedVariables false
set_option linter.unusedSimpArgs false
set_option linter.defProp false
set_option maxRecDepth 200000
namespace Go.Ce
open Go Go.Proofs Go.Proofs.Tryz
open Go.RowKit (Below)
theorem ANF:a_ prog Tryz.f16 (Ee (bM prog N8 3000) none 16 ((C8 prog 16).drop 11) AKg AKf)=true:=by kernel_rfl
theorem kzp:ZP prog:=ZP.of (by kernel_rfl) (EX.of (by kernel_rfl))
theorem ken:EN prog:=EN.of (by kernel_rfl)
theorem AGy:prog.follows .mixedOrders=true:=by kernel_rfl
theorem tE(w:World)(k:Nat):CallsIn (F0 prog) k prog 16 #[] w λe w'=>e=.returned (.bool true)∧Below w.heap.size w w' :=
 ju kzp AGy ken (CK.of wU (by kernel_rfl)) (by kernel_rfl) Tryz.func16 (by kernel_rfl) (λw0 hS Al=>
  .a8 hS Al 2 3000 kS1<| .a8 hS Al 1 3000 kS2<| .a8 hS Al 1 3000 kS3<| .a8 hS Al 1 3000 kS4<| .a8 hS Al 1 3000 kS5<| .a8 hS Al 1 3000 kS6<| .a8 hS Al 1 3000 kS7<| .a8 hS Al 1 3000 kS8<| .a8 hS Al 1 3000 kS9<| .a8 hS Al 1 3000 ANE<| .ends hS Al 3000 ANF) w k
end Go.Ce
