/- The law PickleInto of the package trestlelaw21 hands back true for all its arguments, and what it was given reads behind the call as before.
   rz: none. (The ADi step ADj as the ABN proof xi.) -/
import Derived.Test.YtmknebebbbjdlaaGreatW04
import Derived.Test.YtmknebebbbjdlaaGreatW05
import Derived.Test.YtmknebebbbjdlaaGreatW20
import Derived.Test.YtmknebebbbjdlaaGreatRows
import Derived.WalkKit
import Derived.ProofKit
set_option linter.unusedSectionVars false
set_option linter.unusedVariables false
set_option linter.unusedSimpArgs false
set_option maxRecDepth 200000
namespace Go.Proofs.YtmknebebbbjdlaaGreat.pickleInto
open Go.Ce Go.ChangeShapes Go.WideShapes Go.ChangeAt Go.RowKit
theorem own:ownKnob Tryz.prog.godebug=none:=by kernel_rfl
theorem laid:laidOutB Tryz.prog=true:=by kernel_rfl
theorem u4:Tryz.prog.underlying 4=some .bool:=by kernel_rfl
theorem xj (cs:List Value):OR Tryz.prog 22 cs=cs.getD 0 undef:=by unfold OR; rw [iv]
theorem xk (cs:List Value):OR Tryz.prog 23 cs=cs.getD 0 undef:=by unfold OR; rw [jQ]
theorem xl (cs:List Value):OR Tryz.prog 24 cs=cs.getD 0 undef:=by unfold OR; rw [L4]
theorem xm (cs:List Value):OR Tryz.prog 29 cs=cs.getD 0 undef:=by unfold OR; rw [PR]
theorem ct1 {m:Nat} {t el:TypeId} {W:CW} {cs:List Value} (u:Tryz.prog.underlying t=some (.slice el)) (h:CT Tryz.prog (m+1) t W cs):∃ v,cs=[v]∧Mj Tryz.prog W t v:=by
 have h':=h; simp only [CT,u] at h; rcases h with rfl | rfl | ⟨k,len,cap,f,rfl,_⟩ <;> exact ⟨_,rfl,m+1,h'⟩
def ABO:List FuncId:=[1500072,1500074,1500121]++(List.range 162).filter fun f=>Nat.ble 3 f && !Nat.beq f 7
theorem ny:Vp Tryz.prog ABO=true:=by kernel_rfl
theorem ck:CK Tryz.prog AT :=
 CK.add (CK.of ny (by kernel_rfl)) (by kernel_rfl) (by kernel_rfl) Tryz.func16 (by kernel_rfl) (by kernel_rfl) fT
theorem run (vs:List Value) (W:CW) (h:nz Tryz.prog [22,23,24,29] W vs) (ht:∀ i o,W.obj i=some o→i<W.sz):∃ n,LX ((CM Tryz.prog AT n).call 12 vs W)=true:=by
 obtain ⟨c0,vs,rfl,h0,h⟩:=h.cons; obtain ⟨c1,vs,rfl,h1,h⟩:=h.cons; obtain ⟨c2,vs,rfl,h2,h⟩:=h.cons; obtain ⟨c3,vs,rfl,h3,h⟩:=h.cons; obtain rfl:=h.nil; obtain ⟨v0,rfl,l0⟩:=ct1 (m:=19) iv h0; obtain ⟨v1,rfl,l1⟩:=ct1 (m:=19) jQ h1; obtain ⟨v2,rfl,l2⟩:=ct1 (m:=19) L4 h2; obtain ⟨v3,rfl,l3⟩:=ct1 (m:=19) PR h3; obtain ⟨x0,y0,_,_⟩:=jR l0; obtain ⟨x1,y1,_,_⟩:=jS l1; obtain ⟨x2,y2,_,z2⟩:=jT l2; obtain ⟨x3,y3,_⟩:=fU l3; rw [xj,xk,xl,xm]; obtain ⟨n,⟨e,W'⟩,hn,he⟩:=fV (W:=W) (⟨ht,y0,y1,y2,z2⟩:jU W v0 v1 v2 x0 x1 x2) y3; refine ⟨n,?_⟩; have he:e=.returned (.bool true):=he; subst he; show LX ((CM Tryz.prog AT n).call 12 [v0,v1,v2,v3] W)=true; rw [hn]; rfl
set_option maxRecDepth 100000 in
theorem lifted (os:Os) (started:os.Started) (H:Type) (enc:TypeId × Value→H) :
  ReturnsInHanded {} Tryz.checked os 12 .any (Rows.pickleIntoSpec.pre6 enc Tryz.prog Tryz.f12 Rows.pickleIntoRow.domain false) (Rows.pickleIntoSpec.post enc Tryz.prog Tryz.f12 false true false false):=by
 refine returnsInHanded_of_change (C:=Tryz.checked) own started (by kernel_rfl) Tryz.func12
  (ChangeSpec.witness6 (enc:=enc) (C:=Tryz.checked) false ⟨#[],#[.slice none 0 0,.slice none 0 0,.slice none 0 0,.slice none 0 0],[]⟩ 8 (by kernel_rfl) (by kernel_rfl) (by kernel_rfl) (by kernel_rfl)) ?_
 intro W base args ds gs before GM hW _ _; refine fW (fn:=Tryz.f12) (L:=AT) (tb:=4) kzp xn ken ck laid rfl (fun H ds h=>?_) (by kernel_rfl) (by kernel_rfl) u4 (fun vs W h ht=>run vs W h ht) W base args ds gs before GM hW; have h:ds.length=4:=h
 match ds,h with
 | [d1,d2,d3,d4],_=>rfl
theorem over:Rows.pickleIntoRow.holds Tryz.pinned (OpenSpec.ofChange Rows.pickleIntoSpec) :=
 OpenClaim.holds_of_wide 12 Tryz.f12 rfl rfl rfl rfl rfl rfl rfl ⟨rfl,rfl,rfl,rfl,rfl⟩ rfl rfl rfl rfl rfl (by kernel_rfl) Tryz.func12 (by kernel_rfl)
  (of_decide_eq_true (by kernel_rfl)) (by unfold Func.isWrapper; first | (rw [if_pos (by decide +kernel)]; kernel_rfl) | (rw [if_neg (by decide +kernel)]; exact ⟨rfl,rfl⟩))
  (fun os started H enc _=>lifted os started H enc)
theorem proved:Rows.PickleIntoSaid :=
 over
#print axioms proved
end Go.Proofs.YtmknebebbbjdlaaGreat.pickleInto
