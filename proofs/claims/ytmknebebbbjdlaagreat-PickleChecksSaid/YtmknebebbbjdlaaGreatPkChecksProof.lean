/- The law PickleChecks of the package trestlelaw21 hands back true for all its arguments, and what it was given reads behind the call as before.
   AAE: none. (The AIq step AIr as the AGi proof ADS.) -/
import Derived.Test.YtmknebebbbjdlaaGreatW05
import Derived.Test.YtmknebebbbjdlaaGreatW06
import Derived.Test.YtmknebebbbjdlaaGreatW21
import Derived.Test.YtmknebebbbjdlaaGreatRows
import Derived.WalkKit
import Derived.ProofKit
set_option linter.unusedSectionVars false
set_option linter.unusedVariables false
set_option linter.unusedSimpArgs false
set_option linter.defProp false
set_option maxRecDepth 200000
namespace Go.Proofs.YtmknebebbbjdlaaGreat.pickleChecks
open Go.Ce Go.ChangeShapes Go.WideShapes Go.ChangeAt Go.RowKit
theorem own:ownKnob Tryz.prog.godebug=none:=by kernel_rfl
theorem laid:laidOutB Tryz.prog=true:=by kernel_rfl
theorem u4:Tryz.prog.underlying 4=some .bool:=by kernel_rfl
theorem ADT (cs:List Value):O4 Tryz.prog 22 cs=cs.getD 0 undef:=by unfold O4; rw [R_]
theorem ADU (cs:List Value):O4 Tryz.prog 23 cs=cs.getD 0 undef:=by unfold O4; rw [Uq]
theorem ADV (cs:List Value):O4 Tryz.prog 24 cs=cs.getD 0 undef:=by unfold O4; rw [P3]
theorem AGj (cs:List Value):O4 Tryz.prog 3 cs=cs.getD 0 undef:=by unfold O4; rw [ut3]
theorem AGk (cs:List Value):O4 Tryz.prog 9 cs=cs.getD 0 undef:=by unfold O4; rw [u9]
theorem ct1 {m:Nat} {t el:TypeId} {W:CW} {cs:List Value} (u:Tryz.prog.underlying t=some (.slice el)) (h:CT Tryz.prog (m+1) t W cs):∃ v,cs=[v]∧P4 Tryz.prog W t v:=by
 have h':=h; simp only [CT,u] at h; rcases h with rfl | rfl | ⟨k,len,cap,f,rfl,_⟩ <;> exact ⟨_,rfl,m+1,h'⟩
theorem ct3 {m:Nat} {W:CW} {cs:List Value} (h:CT Tryz.prog (m+1) 3 W cs):∃ x,cs=[.int .i64 x]:=by
 simp only [CT,ut3] at h; obtain ⟨x,rfl,_⟩:=h; exact ⟨x,rfl⟩
theorem ct9 {m:Nat} {W:CW} {cs:List Value} (h:CT Tryz.prog (m+1) 9 W cs):∃ x,cs=[.string x]:=by
 simp only [CT,u9] at h; obtain ⟨x,rfl,_⟩:=h; exact ⟨x,rfl⟩
def AGl:List FuncId:=[1500072,1500074,1500121]++(List.range 162).filter fun f=>Nat.ble 3 f && !Nat.beq f 7
theorem wT:aE Tryz.prog AGl=true:=by kernel_rfl
theorem ck:CK Tryz.prog Br :=
 CK.add (CK.of wT (by kernel_rfl)) (by kernel_rfl) (by kernel_rfl) Tryz.func16 (by kernel_rfl) (by kernel_rfl) nh
theorem run (vs:List Value) (W:CW) (h:wU Tryz.prog [22,23,24,24,3,3,9] W vs) (ht:∀ i o,W.obj i=some o→i<W.sz):∃ n,Nu ((Du Tryz.prog Br n).call 11 vs W)=true:=by
 obtain ⟨c0,vs,rfl,h0,h⟩:=h.cons; obtain ⟨c1,vs,rfl,h1,h⟩:=h.cons; obtain ⟨c2,vs,rfl,h2,h⟩:=h.cons; obtain ⟨c3,vs,rfl,h3,h⟩:=h.cons; obtain ⟨c4,vs,rfl,h4,h⟩:=h.cons; obtain ⟨c5,vs,rfl,h5,h⟩:=h.cons; obtain ⟨c6,vs,rfl,h6,h⟩:=h.cons; obtain rfl:=h.nil; obtain ⟨v0,rfl,l0⟩:=ct1 (m:=19) R_ h0; obtain ⟨v1,rfl,l1⟩:=ct1 (m:=19) Uq h1; obtain ⟨v2,rfl,l2⟩:=ct1 (m:=19) P3 h2; obtain ⟨v3,rfl,l3⟩:=ct1 (m:=19) P3 h3; obtain ⟨i4,rfl⟩:=ct3 (m:=19) h4; obtain ⟨i5,rfl⟩:=ct3 (m:=19) h5; obtain ⟨s6,rfl⟩:=ct9 (m:=19) h6; obtain ⟨x0,y0,_,_⟩:=rL l0; obtain ⟨x1,y1,_,_⟩:=rM l1; obtain ⟨x2,y2,_,z2⟩:=de l2; obtain ⟨x3,y3,_,z3⟩:=de l3; rw [ADT,ADU,ADV,AGj,AGk]; obtain ⟨n,⟨e,W'⟩,hn,he⟩:=df (W:=W) (a:=i4) (b:=i5) (nm:=s6) (⟨ht,y0,y1,y2,z2,y3,z3⟩:rN W v0 v1 v2 v3 x0 x1 x2 x3); refine ⟨n,?_⟩; have he:e=.returned (.bool true):=he; subst he; show Nu ((Du Tryz.prog Br n).call 11 [v0,v1,v2,v3,.int .i64 i4,.int .i64 i5,.string s6] W)=true; rw [hn]; rfl
set_option maxRecDepth 100000 in
theorem lifted (os:Os) (started:os.Started) (H:Type) (enc:TypeId × Value→H) :
  ReturnsInHanded {} Tryz.checked os 11 .any (Rows.pickleChecksSpec.pre6 enc Tryz.prog Tryz.f11 Rows.pickleChecksRow.domain false) (Rows.pickleChecksSpec.post enc Tryz.prog Tryz.f11 false true false false):=by
 refine returnsInHanded_of_change (C:=Tryz.checked) own started (by kernel_rfl) Tryz.func11
  (ChangeSpec.witness6 (enc:=enc) (C:=Tryz.checked) false ⟨#[],#[.slice none 0 0,.slice none 0 0,.slice none 0 0,.slice none 0 0,.int .i64 0,.int .i64 0,.string ⟨#[]⟩],[]⟩ 8 (by kernel_rfl) (by kernel_rfl) (by kernel_rfl) (by kernel_rfl)) ?_
 intro W base args ds gs before F1 hW _ _; refine ni (fn:=Tryz.f11) (L:=Br) (tb:=4) kzp ADW ken ck laid rfl (fun H ds h=>?_) (by kernel_rfl) (by kernel_rfl) u4 (fun vs W h ht=>run vs W h ht) W base args ds gs before F1 hW; have h:ds.length=7:=h
 match ds,h with
 | [d1,d2,d3,d4,d5,d6,d7],_=>rfl
theorem over:Rows.pickleChecksRow.holds Tryz.pinned (OpenSpec.ofChange Rows.pickleChecksSpec) :=
 OpenClaim.holds_of_wide 11 Tryz.f11 rfl rfl rfl rfl rfl rfl rfl ⟨rfl,rfl,rfl,rfl,rfl⟩ rfl rfl rfl rfl rfl (by kernel_rfl) Tryz.func11 (by kernel_rfl)
  (of_decide_eq_true (by kernel_rfl)) (by unfold Func.isWrapper; first | (rw [if_pos (by decide +kernel)]; kernel_rfl) | (rw [if_neg (by decide +kernel)]; exact ⟨rfl,rfl⟩))
  (fun os started H enc _=>lifted os started H enc)
theorem proved:Rows.PickleChecksSaid :=
 over
#print axioms proved
end Go.Proofs.YtmknebebbbjdlaaGreat.pickleChecks
