/- The law PickleWrites of the package trestlelaw21 hands back true for every catalog, list of specials, heap and root, and what it was given reads behind the call as before.
   Conditions: none. (The row's step began as the seat's proof skeleton.) -/
import Derived.Test.YtmknebebbbjdlaaGreatW05
import Derived.Test.YtmknebebbbjdlaaGreatW20
import Derived.Test.YtmknebebbbjdlaaGreatRows
import Derived.WalkKit
import Derived.ProofKit
set_option linter.unusedSectionVars false
set_option linter.unusedVariables false
set_option linter.unusedSimpArgs false
set_option maxRecDepth 200000
namespace Go.Proofs.YtmknebebbbjdlaaGreat.pickleWrites
open Go.Ce Go.ChangeShapes Go.WideShapes Go.ChangeAt Go.RowKit
theorem own:ownKnob Tryz.prog.godebug=none:=by kernel_rfl
theorem laid:laidOutB Tryz.prog=true:=by kernel_rfl
theorem u4:Tryz.prog.underlying 4=some .bool:=by kernel_rfl
theorem arg22 (cs:List Value):argV Tryz.prog 22 cs=cs.getD 0 undef:=by unfold argV; rw [u22]
theorem arg23 (cs:List Value):argV Tryz.prog 23 cs=cs.getD 0 undef:=by unfold argV; rw [u23]
theorem arg24 (cs:List Value):argV Tryz.prog 24 cs=cs.getD 0 undef:=by unfold argV; rw [u24]
theorem arg3 (cs:List Value):argV Tryz.prog 3 cs=cs.getD 0 undef:=by unfold argV; rw [ut3]
theorem ct1 {m:Nat} {t el:TypeId} {W:CW} {cs:List Value} (u:Tryz.prog.underlying t=some (.slice el)) (h:CT Tryz.prog (m+1) t W cs):∃ v,cs=[v]∧Leaf Tryz.prog W t v:=by
 have h':=h
 simp only [CT,u] at h
 rcases h with rfl | rfl | ⟨k,len,cap,f,rfl,_⟩ <;> exact ⟨_,rfl,m+1,h'⟩
theorem ct3 {m:Nat} {W:CW} {cs:List Value} (h:CT Tryz.prog (m+1) 3 W cs):∃ x,cs=[.int .i64 x]:=by
 simp only [CT,ut3] at h
 obtain ⟨x,rfl,_⟩:=h
 exact ⟨x,rfl⟩
def pkL0:List FuncId:=(List.range 162).filter fun f=>Nat.ble 3 f && !Nat.beq f 7
theorem pk_code:callsOk Tryz.prog pkL0=true:=by kernel_rfl
theorem ck:CK Tryz.prog pkL :=
 CK.add (CK.of pk_code (by kernel_rfl)) (by kernel_rfl) (by kernel_rfl) Tryz.func16 (by kernel_rfl) (by kernel_rfl) kept_true
theorem run (vs:List Value) (W:CW) (h:CTs Tryz.prog [22,23,24,3] W vs) (ht:∀ i o,W.obj i=some o→i<W.sz):∃ n,allTrue ((evC Tryz.prog pkL n).call 3 vs W)=true:=by
 obtain ⟨c0,vs,rfl,h0,h⟩:=h.cons
 obtain ⟨c1,vs,rfl,h1,h⟩:=h.cons
 obtain ⟨c2,vs,rfl,h2,h⟩:=h.cons
 obtain ⟨c3,vs,rfl,h3,h⟩:=h.cons
 obtain rfl:=h.nil
 obtain ⟨v0,rfl,l0⟩:=ct1 (m:=19) u22 h0
 obtain ⟨v1,rfl,l1⟩:=ct1 (m:=19) u23 h1
 obtain ⟨v2,rfl,l2⟩:=ct1 (m:=19) u24 h2
 obtain ⟨root,rfl⟩:=ct3 (m:=19) h3
 obtain ⟨c,hc,_,_⟩:=view_shp l0
 obtain ⟨l,hl,_,_⟩:=view_spc l1
 obtain ⟨hp,hh,_,hlm⟩:=view_thg l2
 rw [arg22,arg23,arg24,arg3]
 obtain ⟨n,⟨e,W'⟩,hn,he⟩:=writes_true (root:=root) (⟨ht,hc,hl,hh,hlm⟩:PkArgs W v0 v1 v2 c l hp)
 refine ⟨n,?_⟩
 have he:e=.returned (.bool true):=he
 subst he
 show allTrue ((evC Tryz.prog pkL n).call 3 [v0,v1,v2,.int .i64 root] W)=true
 rw [hn]
 rfl
set_option maxRecDepth 100000 in
theorem lifted (os:Os) (started:os.Started) (H:Type) (enc:TypeId × Value→H) :
  ReturnsInHanded {} Tryz.checked os 3 .any (Rows.pickleWritesSpec.pre6 enc Tryz.prog Tryz.f3 Rows.pickleWritesRow.domain false) (Rows.pickleWritesSpec.post enc Tryz.prog Tryz.f3 false true false false):=by
 refine returnsInHanded_of_change (C:=Tryz.checked) own started (by kernel_rfl) Tryz.func3
  (ChangeSpec.witness6 (enc:=enc) (C:=Tryz.checked) false ⟨#[],#[.slice none 0 0,.slice none 0 0,.slice none 0 0,.int .i64 0],[]⟩ 8 (by kernel_rfl) (by kernel_rfl) (by kernel_rfl) (by kernel_rfl)) ?_
 intro W base args ds gs before hval hW _ _
 refine law_frame (fn:=Tryz.f3) (L:=pkL) (tb:=4) kzp kmix ken ck laid rfl (fun H ds h=>?_) (by kernel_rfl) (by kernel_rfl) u4 (fun vs W h ht=>run vs W h ht) W base args ds gs before hval hW
 have h:ds.length=4:=h
 match ds,h with
 | [d1,d2,d3,d4],_=>rfl
theorem over:Rows.pickleWritesRow.holds Tryz.pinned (OpenSpec.ofChange Rows.pickleWritesSpec) :=
 OpenClaim.holds_of_wide 3 Tryz.f3 rfl rfl rfl rfl rfl rfl rfl ⟨rfl,rfl,rfl,rfl,rfl⟩ rfl rfl rfl rfl rfl (by kernel_rfl) Tryz.func3 (by kernel_rfl)
  (of_decide_eq_true (by kernel_rfl)) (by unfold Func.isWrapper; first | (rw [if_pos (by decide +kernel)]; kernel_rfl) | (rw [if_neg (by decide +kernel)]; exact ⟨rfl,rfl⟩))
  (fun os started H enc _=>lifted os started H enc)
theorem proved:Rows.PickleWritesSaid :=
 over
#print axioms proved
end Go.Proofs.YtmknebebbbjdlaaGreat.pickleWrites
