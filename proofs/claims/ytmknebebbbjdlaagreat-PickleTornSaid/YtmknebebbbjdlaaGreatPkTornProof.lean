/- The law PickleTorn of the package trestlelaw21 hands back true for all its arguments, and what it was given reads behind the call as before.
   Conditions: none. (The row's step began as the seat's proof skeleton.) -/
import Derived.Test.YtmknebebbbjdlaaGreatW05
import Derived.Test.YtmknebebbbjdlaaGreatW20
import Derived.Test.YtmknebebbbjdlaaGreatRows
import Derived.WalkKit
import Derived.ProofKit
set_option linter.unusedSectionVars false
set_option linter.unusedVariables false
set_option linter.unusedSimpArgs false
set_option maxRecDepth 200000
namespace Go.Proofs.YtmknebebbbjdlaaGreat.pickleTorn
open Go.Ce Go.ChangeShapes Go.WideShapes Go.ChangeAt Go.RowKit
theorem own:ownKnob Tryz.prog.godebug=none:=by kernel_rfl
theorem laid:laidOutB Tryz.prog=true:=by kernel_rfl
theorem u4:Tryz.prog.underlying 4=some .bool:=by kernel_rfl
theorem arg22 (cs:List Value):argV Tryz.prog 22 cs=cs.getD 0 undef:=by unfold argV; rw [u22]
theorem arg23 (cs:List Value):argV Tryz.prog 23 cs=cs.getD 0 undef:=by unfold argV; rw [u23]
theorem arg24 (cs:List Value):argV Tryz.prog 24 cs=cs.getD 0 undef:=by unfold argV; rw [u24]
theorem arg29 (cs:List Value):argV Tryz.prog 29 cs=cs.getD 0 undef:=by unfold argV; rw [u29]
theorem arg3 (cs:List Value):argV Tryz.prog 3 cs=cs.getD 0 undef:=by unfold argV; rw [ut3]
theorem ct1 {m:Nat} {t el:TypeId} {W:CW} {cs:List Value} (u:Tryz.prog.underlying t=some (.slice el)) (h:CT Tryz.prog (m+1) t W cs):∃ v,cs=[v]∧Leaf Tryz.prog W t v:=by
 have h':=h
 simp only [CT,u] at h
 rcases h with rfl | rfl | ⟨k,len,cap,f,rfl,_⟩ <;> exact ⟨_,rfl,m+1,h'⟩
theorem ct3 {m:Nat} {W:CW} {cs:List Value} (h:CT Tryz.prog (m+1) 3 W cs):∃ x,cs=[.int .i64 x]:=by
 simp only [CT,ut3] at h
 obtain ⟨x,rfl,_⟩:=h
 exact ⟨x,rfl⟩
def pkL0:List FuncId:=[1500072,1500074,1500121]++(List.range 162).filter fun f=>Nat.ble 3 f && !Nat.beq f 7
theorem pk_code:callsOk Tryz.prog pkL0=true:=by kernel_rfl
theorem ck:CK Tryz.prog pkL :=
 CK.add (CK.of pk_code (by kernel_rfl)) (by kernel_rfl) (by kernel_rfl) Tryz.func16 (by kernel_rfl) (by kernel_rfl) kept_true
theorem run (vs:List Value) (W:CW) (h:CTs Tryz.prog [22,23,24,3,3,29] W vs) (ht:∀ i o,W.obj i=some o→i<W.sz):∃ n,zGr ((evC Tryz.prog pkL n).call 6 vs W)=true:=by
 obtain ⟨c0,vs,rfl,h0,h⟩:=h.cons
 obtain ⟨c1,vs,rfl,h1,h⟩:=h.cons
 obtain ⟨c2,vs,rfl,h2,h⟩:=h.cons
 obtain ⟨c3,vs,rfl,h3,h⟩:=h.cons
 obtain ⟨c4,vs,rfl,h4,h⟩:=h.cons
 obtain ⟨c5,vs,rfl,h5,h⟩:=h.cons
 obtain rfl:=h.nil
 obtain ⟨v0,rfl,l0⟩:=ct1 (m:=19) u22 h0
 obtain ⟨v1,rfl,l1⟩:=ct1 (m:=19) u23 h1
 obtain ⟨v2,rfl,l2⟩:=ct1 (m:=19) u24 h2
 obtain ⟨i3,rfl⟩:=ct3 (m:=19) h3
 obtain ⟨i4,rfl⟩:=ct3 (m:=19) h4
 obtain ⟨v5,rfl,l5⟩:=ct1 (m:=19) u29 h5
 obtain ⟨x0,y0,_,_⟩:=view_shp l0
 obtain ⟨x1,y1,_,_⟩:=view_spc l1
 obtain ⟨x2,y2,_,z2⟩:=view_thg l2
 obtain ⟨x5,y5,_⟩:=view_byte l5
 rw [arg22,arg23,arg24,arg3,arg29]
 obtain ⟨n,⟨e,W'⟩,hn,he⟩:=torn_true (W:=W) (root:=i3) (at_:=i4) (⟨ht,y0,y1,y2,z2⟩:PkArgs W v0 v1 v2 x0 x1 x2) y5
 refine ⟨n,?_⟩
 have he:e=.returned (.bool true):=he
 subst he
 show zGr ((evC Tryz.prog pkL n).call 6 [v0,v1,v2,.int .i64 i3,.int .i64 i4,v5] W)=true
 rw [hn]
 rfl
set_option maxRecDepth 100000 in
theorem lifted (os:Os) (started:os.Started) (H:Type) (enc:TypeId × Value→H) :
  ReturnsInHanded {} Tryz.checked os 6 .any (Rows.pickleTornSpec.pre6 enc Tryz.prog Tryz.f6 Rows.pickleTornRow.domain false) (Rows.pickleTornSpec.post enc Tryz.prog Tryz.f6 false true false false):=by
 refine returnsInHanded_of_change (C:=Tryz.checked) own started (by kernel_rfl) Tryz.func6
  (ChangeSpec.witness6 (enc:=enc) (C:=Tryz.checked) false ⟨#[],#[.slice none 0 0,.slice none 0 0,.slice none 0 0,.int .i64 0,.int .i64 0,.slice none 0 0],[]⟩ 8 (by kernel_rfl) (by kernel_rfl) (by kernel_rfl) (by kernel_rfl)) ?_
 intro W base args ds gs before hval hW _ _
 refine law_frame (fn:=Tryz.f6) (L:=pkL) (tb:=4) kzp kmix ken ck laid rfl (fun H ds h=>?_) (by kernel_rfl) (by kernel_rfl) u4 (fun vs W h ht=>run vs W h ht) W base args ds gs before hval hW
 have h:ds.length=6:=h
 match ds,h with
 | [d1,d2,d3,d4,d5,d6],_=>rfl
theorem over:Rows.pickleTornRow.holds Tryz.pinned (OpenSpec.ofChange Rows.pickleTornSpec) :=
 OpenClaim.holds_of_wide 6 Tryz.f6 rfl rfl rfl rfl rfl rfl rfl ⟨rfl,rfl,rfl,rfl,rfl⟩ rfl rfl rfl rfl rfl (by kernel_rfl) Tryz.func6 (by kernel_rfl)
  (of_decide_eq_true (by kernel_rfl)) (by unfold Func.isWrapper; first | (rw [if_pos (by decide +kernel)]; kernel_rfl) | (rw [if_neg (by decide +kernel)]; exact ⟨rfl,rfl⟩))
  (fun os started H enc _=>lifted os started H enc)
theorem proved:Rows.PickleTornSaid :=
 over
#print axioms proved
end Go.Proofs.YtmknebebbbjdlaaGreat.pickleTorn
