/- The law PickleAlike of the package trestlelaw21 hands back true for all its arguments, and what it was given reads behind the call as before.
   uE: none. (The AFJ step AFK as the AC2 proof AAA.) -/
import Derived.Test.YtmknebebbbjdlaaGreatW05
import Derived.Test.YtmknebebbbjdlaaGreatW06
import Derived.Test.YtmknebebbbjdlaaGreatW21
import Derived.Test.YtmknebebbbjdlaaGreatRows
import Derived.WalkKit
import Derived.ProofKit
set_option linter.unusedSectionVars false
set_option linter.unusedVariables false
set_option linter.unusedSimpArgs false
set_option maxRecDepth 200000
namespace Go.Proofs.YtmknebebbbjdlaaGreat.pickleAlike
open Go.Ce Go.ChangeShapes Go.WideShapes Go.ChangeAt Go.RowKit
theorem own:ownKnob Tryz.prog.godebug=none:=by kernel_rfl
theorem laid:laidOutB Tryz.prog=true:=by kernel_rfl
theorem u4:Tryz.prog.underlying 4=some .bool:=by kernel_rfl
theorem AAB (cs:List Value):TU Tryz.prog 22 cs=cs.getD 0 undef:=by unfold TU; rw [ky]
theorem AAC (cs:List Value):TU Tryz.prog 24 cs=cs.getD 0 undef:=by unfold TU; rw [WC]
theorem AC3 (cs:List Value):TU Tryz.prog 3 cs=cs.getD 0 undef:=by unfold TU; rw [ut3]
theorem ct1 {m:Nat} {t el:TypeId} {W:CW} {cs:List Value} (u:Tryz.prog.underlying t=some (.slice el)) (h:CT Tryz.prog (m+1) t W cs):∃ v,cs=[v]∧PW Tryz.prog W t v:=by
 have h':=h; simp only [CT,u] at h; rcases h with rfl | rfl | ⟨k,len,cap,f,rfl,_⟩ <;> exact ⟨_,rfl,m+1,h'⟩
theorem ct3 {m:Nat} {W:CW} {cs:List Value} (h:CT Tryz.prog (m+1) 3 W cs):∃ x,cs=[.int .i64 x]:=by
 simp only [CT,ut3] at h; obtain ⟨x,rfl,_⟩:=h; exact ⟨x,rfl⟩
def AC4:List FuncId:=[1500072,1500074,1500121]++(List.range 162).filter fun f=>Nat.ble 3 f && !Nat.beq f 7
theorem p7:XR Tryz.prog AC4=true:=by kernel_rfl
theorem ck:CK Tryz.prog AM :=
 CK.add (CK.of p7 (by kernel_rfl)) (by kernel_rfl) (by kernel_rfl) Tryz.func16 (by kernel_rfl) (by kernel_rfl) iS
theorem run (vs:List Value) (W:CW) (h:p8 Tryz.prog [22,24,24,3,3] W vs) (ht:∀ i o,W.obj i=some o→i<W.sz):∃ n,MK ((DT Tryz.prog AM n).call 5 vs W)=true:=by
 obtain ⟨c0,vs,rfl,h0,h⟩:=h.cons; obtain ⟨c1,vs,rfl,h1,h⟩:=h.cons; obtain ⟨c2,vs,rfl,h2,h⟩:=h.cons; obtain ⟨c3,vs,rfl,h3,h⟩:=h.cons; obtain ⟨c4,vs,rfl,h4,h⟩:=h.cons; obtain rfl:=h.nil; obtain ⟨v0,rfl,l0⟩:=ct1 (m:=19) ky h0; obtain ⟨v1,rfl,l1⟩:=ct1 (m:=19) WC h1; obtain ⟨v2,rfl,l2⟩:=ct1 (m:=19) WC h2; obtain ⟨i3,rfl⟩:=ct3 (m:=19) h3; obtain ⟨i4,rfl⟩:=ct3 (m:=19) h4; obtain ⟨x0,y0,_,_⟩:=lh l0; obtain ⟨x1,y1,_,z1⟩:=ZM l1; obtain ⟨x2,y2,_,z2⟩:=ZM l2; rw [AAB,AAC,AC3]; obtain ⟨n,⟨e,W'⟩,hn,he⟩:=cZ (W:=W) (a:=i3) (b:=i4) (⟨ht,y0,y1,z1,y2,z2⟩:lj W v0 v1 v2 x0 x1 x2); refine ⟨n,?_⟩; have he:e=.returned (.bool true):=he; subst he; show MK ((DT Tryz.prog AM n).call 5 [v0,v1,v2,.int .i64 i3,.int .i64 i4] W)=true; rw [hn]; rfl
set_option maxRecDepth 100000 in
theorem lifted (os:Os) (started:os.Started) (H:Type) (enc:TypeId × Value→H) :
  ReturnsInHanded {} Tryz.checked os 5 .any (Rows.pickleAlikeSpec.pre6 enc Tryz.prog Tryz.f5 Rows.pickleAlikeRow.domain false) (Rows.pickleAlikeSpec.post enc Tryz.prog Tryz.f5 false true false false):=by
 refine returnsInHanded_of_change (C:=Tryz.checked) own started (by kernel_rfl) Tryz.func5
  (ChangeSpec.witness6 (enc:=enc) (C:=Tryz.checked) false ⟨#[],#[.slice none 0 0,.slice none 0 0,.slice none 0 0,.int .i64 0,.int .i64 0],[]⟩ 8 (by kernel_rfl) (by kernel_rfl) (by kernel_rfl) (by kernel_rfl)) ?_
 intro W base args ds gs before Gd hW _ _; refine iT (fn:=Tryz.f5) (L:=AM) (tb:=4) kzp AAD ken ck laid rfl (fun H ds h=>?_) (by kernel_rfl) (by kernel_rfl) u4 (fun vs W h ht=>run vs W h ht) W base args ds gs before Gd hW; have h:ds.length=5:=h
 match ds,h with
 | [d1,d2,d3,d4,d5],_=>rfl
theorem over:Rows.pickleAlikeRow.holds Tryz.pinned (OpenSpec.ofChange Rows.pickleAlikeSpec) :=
 OpenClaim.holds_of_wide 5 Tryz.f5 rfl rfl rfl rfl rfl rfl rfl ⟨rfl,rfl,rfl,rfl,rfl⟩ rfl rfl rfl rfl rfl (by kernel_rfl) Tryz.func5 (by kernel_rfl)
  (of_decide_eq_true (by kernel_rfl)) (by unfold Func.isWrapper; first | (rw [if_pos (by decide +kernel)]; kernel_rfl) | (rw [if_neg (by decide +kernel)]; exact ⟨rfl,rfl⟩))
  (fun os started H enc _=>lifted os started H enc)
theorem proved:Rows.PickleAlikeSaid :=
 over
#print axioms proved
end Go.Proofs.YtmknebebbbjdlaaGreat.pickleAlike
