/- The law PickleWhole of the package trestlelaw21 hands back true for every catalog, list of specials and bytes, and what it was given reads behind the call as before.
   Conditions: none. (The row's step began as the seat's proof skeleton.) -/
import Derived.Test.YtmknebebbbjdlaaGreatW05
import Derived.Test.YtmknebebbbjdlaaGreatW20
import Derived.Test.YtmknebebbbjdlaaGreatRows
import Derived.WalkKit
import Derived.ProofKit
set_option linter.unusedSectionVars false
set_option linter.unusedVariables false
set_option linter.unusedSimpArgs false
set_option maxRecDepth 200000
namespace Go.Proofs.YtmknebebbbjdlaaGreat.pickleWhole
open Go.Ce Go.ChangeShapes Go.WideShapes Go.ChangeAt Go.RowKit
theorem own:ownKnob Tryz.prog.godebug=none:=by kernel_rfl
theorem laid:laidOutB Tryz.prog=true:=by kernel_rfl
theorem u4:Tryz.prog.underlying 4=some .bool:=by kernel_rfl
theorem arg22 (cs:List Value):argV Tryz.prog 22 cs=cs.getD 0 undef:=by unfold argV; rw [u22]
theorem arg23 (cs:List Value):argV Tryz.prog 23 cs=cs.getD 0 undef:=by unfold argV; rw [u23]
theorem arg29 (cs:List Value):argV Tryz.prog 29 cs=cs.getD 0 undef:=by unfold argV; rw [u29]
theorem ct1 {m:Nat} {t el:TypeId} {W:CW} {cs:List Value} (u:Tryz.prog.underlying t=some (.slice el)) (h:CT Tryz.prog (m+1) t W cs):∃ v,cs=[v]∧Leaf Tryz.prog W t v:=by
 have h':=h
 simp only [CT,u] at h
 rcases h with rfl | rfl | ⟨k,len,cap,f,rfl,_⟩ <;> exact ⟨_,rfl,m+1,h'⟩
def pkL0:List FuncId:=[1500072,1500074,1500121]++(List.range 162).filter fun f=>Nat.ble 3 f && !Nat.beq f 7
theorem pk_code:callsOk Tryz.prog pkL0=true:=by kernel_rfl
theorem ck:CK Tryz.prog pkL :=
 CK.add (CK.of pk_code (by kernel_rfl)) (by kernel_rfl) (by kernel_rfl) Tryz.func16 (by kernel_rfl) (by kernel_rfl) kept_true
theorem run (vs:List Value) (W:CW) (h:CTs Tryz.prog [22,23,29] W vs) (ht:∀ i o,W.obj i=some o→i<W.sz):∃ n,allTrue ((evC Tryz.prog pkL n).call 4 vs W)=true:=by
 obtain ⟨c0,vs,rfl,h0,h⟩:=h.cons
 obtain ⟨c1,vs,rfl,h1,h⟩:=h.cons
 obtain ⟨c2,vs,rfl,h2,h⟩:=h.cons
 obtain rfl:=h.nil
 obtain ⟨v0,rfl,l0⟩:=ct1 (m:=19) u22 h0
 obtain ⟨v1,rfl,l1⟩:=ct1 (m:=19) u23 h1
 obtain ⟨v2,rfl,l2⟩:=ct1 (m:=19) u29 h2
 obtain ⟨c,hc,_,_⟩:=view_shp l0
 obtain ⟨l,hl,_,_⟩:=view_spc l1
 obtain ⟨b,hb,_⟩:=view_byte l2
 rw [arg22,arg23,arg29]
 obtain ⟨n,⟨e,W'⟩,hn,he⟩:=whole_true (W:=W) (v0:=v0) (v1:=v1) (v2:=v2) ht hc hl hb
 refine ⟨n,?_⟩
 have he:e=.returned (.bool true):=he
 subst he
 show allTrue ((evC Tryz.prog pkL n).call 4 [v0,v1,v2] W)=true
 rw [hn]
 rfl
set_option maxRecDepth 100000 in
theorem lifted (os:Os) (started:os.Started) (H:Type) (enc:TypeId × Value→H) :
  ReturnsInHanded {} Tryz.checked os 4 .any (Rows.pickleWholeSpec.pre6 enc Tryz.prog Tryz.f4 Rows.pickleWholeRow.domain false) (Rows.pickleWholeSpec.post enc Tryz.prog Tryz.f4 false true false false):=by
 refine returnsInHanded_of_change (C:=Tryz.checked) own started (by kernel_rfl) Tryz.func4
  (ChangeSpec.witness6 (enc:=enc) (C:=Tryz.checked) false ⟨#[],#[.slice none 0 0,.slice none 0 0,.slice none 0 0],[]⟩ 8 (by kernel_rfl) (by kernel_rfl) (by kernel_rfl) (by kernel_rfl)) ?_
 intro W base args ds gs before hval hW _ _
 refine law_frame (fn:=Tryz.f4) (L:=pkL) (tb:=4) kzp kmix ken ck laid rfl (fun H ds h=>?_) (by kernel_rfl) (by kernel_rfl) u4 (fun vs W h ht=>run vs W h ht) W base args ds gs before hval hW
 have h:ds.length=3:=h
 match ds,h with
 | [d1,d2,d3],_=>rfl
theorem over:Rows.pickleWholeRow.holds Tryz.pinned (OpenSpec.ofChange Rows.pickleWholeSpec) :=
 OpenClaim.holds_of_wide 4 Tryz.f4 rfl rfl rfl rfl rfl rfl rfl ⟨rfl,rfl,rfl,rfl,rfl⟩ rfl rfl rfl rfl rfl (by kernel_rfl) Tryz.func4 (by kernel_rfl)
  (of_decide_eq_true (by kernel_rfl)) (by unfold Func.isWrapper; first | (rw [if_pos (by decide +kernel)]; kernel_rfl) | (rw [if_neg (by decide +kernel)]; exact ⟨rfl,rfl⟩))
  (fun os started H enc _=>lifted os started H enc)
theorem proved:Rows.PickleWholeSaid :=
 over
#print axioms proved
end Go.Proofs.YtmknebebbbjdlaaGreat.pickleWhole
