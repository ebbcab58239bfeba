/- The law PickleBack of the package trestlelaw21 hands back true for all its arguments, and what it was given reads behind the call as before.
   ug: none. (The AFt step AFu as the ADG proof AAA.) -/
import Derived.Test.YtmknebebbbjdlaaGreatW05
import Derived.Test.YtmknebebbbjdlaaGreatW06
import Derived.Test.YtmknebebbbjdlaaGreatW21
import Derived.Test.YtmknebebbbjdlaaGreatRows
import Derived.WalkKit
import Derived.ProofKit
set_option linter.unusedSectionVars false
set_option linter.unusedVariables false
set_option linter.unusedSimpArgs false
set_option maxRecDepth 200000
namespace Go.Proofs.YtmknebebbbjdlaaGreat.pickleBack
open Go.Ce Go.ChangeShapes Go.WideShapes Go.ChangeAt Go.RowKit
theorem own:ownKnob Tryz.prog.godebug=none:=by kernel_rfl
theorem laid:laidOutB Tryz.prog=true:=by kernel_rfl
theorem u4:Tryz.prog.underlying 4=some .bool:=by kernel_rfl
theorem AAB (cs:List Value):QJ Tryz.prog 22 cs=cs.getD 0 undef:=by unfold QJ; rw [kY]
theorem AAC (cs:List Value):QJ Tryz.prog 23 cs=cs.getD 0 undef:=by unfold QJ; rw [iR]
theorem AAD (cs:List Value):QJ Tryz.prog 24 cs=cs.getD 0 undef:=by unfold QJ; rw [Vg]
theorem ADH (cs:List Value):QJ Tryz.prog 3 cs=cs.getD 0 undef:=by unfold QJ; rw [ut3]
theorem ct1 {m:Nat} {t el:TypeId} {W:CW} {cs:List Value} (u:Tryz.prog.underlying t=some (.slice el)) (h:CT Tryz.prog (m+1) t W cs):∃ v,cs=[v]∧Oh Tryz.prog W t v:=by
 have h':=h; simp only [CT,u] at h; rcases h with rfl | rfl | ⟨k,len,cap,f,rfl,_⟩ <;> exact ⟨_,rfl,m+1,h'⟩
theorem ct3 {m:Nat} {W:CW} {cs:List Value} (h:CT Tryz.prog (m+1) 3 W cs):∃ x,cs=[.int .i64 x]:=by
 simp only [CT,ut3] at h; obtain ⟨x,rfl,_⟩:=h; exact ⟨x,rfl⟩
def ADI:List FuncId:=[1500072,1500074,1500121]++(List.range 162).filter fun f=>Nat.ble 3 f && !Nat.beq f 7
theorem qI:Xe Tryz.prog ADI=true:=by kernel_rfl
theorem ck:CK Tryz.prog AV :=
 CK.add (CK.of qI (by kernel_rfl)) (by kernel_rfl) (by kernel_rfl) Tryz.func16 (by kernel_rfl) (by kernel_rfl) iS
theorem run (vs:List Value) (W:CW) (h:qJ Tryz.prog [22,23,24,3] W vs) (ht:∀ i o,W.obj i=some o→i<W.sz):∃ n,Mu ((C2 Tryz.prog AV n).call 9 vs W)=true:=by
 obtain ⟨c0,vs,rfl,h0,h⟩:=h.cons; obtain ⟨c1,vs,rfl,h1,h⟩:=h.cons; obtain ⟨c2,vs,rfl,h2,h⟩:=h.cons; obtain ⟨c3,vs,rfl,h3,h⟩:=h.cons; obtain rfl:=h.nil; obtain ⟨v0,rfl,l0⟩:=ct1 (m:=19) kY h0; obtain ⟨v1,rfl,l1⟩:=ct1 (m:=19) iR h1; obtain ⟨v2,rfl,l2⟩:=ct1 (m:=19) Vg h2; obtain ⟨i3,rfl⟩:=ct3 (m:=19) h3; obtain ⟨x0,y0,_,_⟩:=lK l0; obtain ⟨x1,y1,_,_⟩:=lL l1; obtain ⟨x2,y2,_,z2⟩:=lM l2; rw [AAB,AAC,AAD,ADH]; obtain ⟨n,⟨e,W'⟩,hn,he⟩:=iT (W:=W) (root:=i3) (⟨ht,y0,y1,y2,z2⟩:lN W v0 v1 v2 x0 x1 x2); refine ⟨n,?_⟩; have he:e=.returned (.bool true):=he; subst he; show Mu ((C2 Tryz.prog AV n).call 9 [v0,v1,v2,.int .i64 i3] W)=true; rw [hn]; rfl
set_option maxRecDepth 100000 in
theorem lifted (os:Os) (started:os.Started) (H:Type) (enc:TypeId × Value→H) :
  ReturnsInHanded {} Tryz.checked os 9 .any (Rows.pickleBackSpec.pre6 enc Tryz.prog Tryz.f9 Rows.pickleBackRow.domain false) (Rows.pickleBackSpec.post enc Tryz.prog Tryz.f9 false true false false):=by
 refine returnsInHanded_of_change (C:=Tryz.checked) own started (by kernel_rfl) Tryz.func9
  (ChangeSpec.witness6 (enc:=enc) (C:=Tryz.checked) false ⟨#[],#[.slice none 0 0,.slice none 0 0,.slice none 0 0,.int .i64 0],[]⟩ 8 (by kernel_rfl) (by kernel_rfl) (by kernel_rfl) (by kernel_rfl)) ?_
 intro W base args ds gs before Gn hW _ _; refine iU (fn:=Tryz.f9) (L:=AV) (tb:=4) kzp AAE ken ck laid rfl (fun H ds h=>?_) (by kernel_rfl) (by kernel_rfl) u4 (fun vs W h ht=>run vs W h ht) W base args ds gs before Gn hW; have h:ds.length=4:=h
 match ds,h with
 | [d1,d2,d3,d4],_=>rfl
theorem over:Rows.pickleBackRow.holds Tryz.pinned (OpenSpec.ofChange Rows.pickleBackSpec) :=
 OpenClaim.holds_of_wide 9 Tryz.f9 rfl rfl rfl rfl rfl rfl rfl ⟨rfl,rfl,rfl,rfl,rfl⟩ rfl rfl rfl rfl rfl (by kernel_rfl) Tryz.func9 (by kernel_rfl)
  (of_decide_eq_true (by kernel_rfl)) (by unfold Func.isWrapper; first | (rw [if_pos (by decide +kernel)]; kernel_rfl) | (rw [if_neg (by decide +kernel)]; exact ⟨rfl,rfl⟩))
  (fun os started H enc _=>lifted os started H enc)
theorem proved:Rows.PickleBackSaid :=
 over
#print axioms proved
end Go.Proofs.YtmknebebbbjdlaaGreat.pickleBack
