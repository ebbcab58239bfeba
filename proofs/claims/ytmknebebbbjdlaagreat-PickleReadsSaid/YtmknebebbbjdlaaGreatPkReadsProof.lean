/- The law PickleReads of the package trestlelaw21 hands back true for all its arguments, and what it was given reads behind the call as before.
   ADM: none. (The ANG step ANH as the AKh proof AGt.) -/
import Derived.Test.YtmknebebbbjdlaaGreatW05
import Derived.Test.YtmknebebbbjdlaaGreatW07
import Derived.Test.YtmknebebbbjdlaaGreatW21
import Derived.Test.YtmknebebbbjdlaaGreatRows
import Derived.WalkKit
import Derived.ProofKit
set_option linter.unusedSectionVars false
set_option linter.unusedVariables false
set_option linter.unusedSimpArgs false
set_option linter.defProp false
set_option maxRecDepth 200000
namespace Go.Proofs.YtmknebebbbjdlaaGreat.pickleReads
open Go.Ce Go.ChangeShapes Go.WideShapes Go.ChangeAt Go.RowKit
theorem own:ownKnob Tryz.prog.godebug=none:=by kernel_rfl
theorem laid:laidOutB Tryz.prog=true:=by kernel_rfl
theorem u4:Tryz.prog.underlying 4=some .bool:=by kernel_rfl
theorem AGu(cs:List Value):UO Tryz.prog 22 cs=cs.getD 0 undef:=by unfold UO;rw[UG]
theorem AGv(cs:List Value):UO Tryz.prog 23 cs=cs.getD 0 undef:=by unfold UO;rw[Vt]
theorem AGw(cs:List Value):UO Tryz.prog 24 cs=cs.getD 0 undef:=by unfold UO;rw[M']
theorem AGx(cs:List Value):UO Tryz.prog 29 cs=cs.getD 0 undef:=by unfold UO;rw[LS]
theorem ct1{m:Nat}{t el:TypeId}{W:CW}{cs:List Value}(u:Tryz.prog.underlying t=some (.slice el))(h:CT Tryz.prog (m+1) t W cs):∃v,cs=[v]∧Q9 Tryz.prog W t v:=by
 have h':=h;simp only[CT,u]at h;rcases h with rfl|rfl|⟨k,len,cap,f,rfl,_⟩<;>exact⟨_,rfl,m+1,h'⟩
def AKi:List FuncId:=[1500072,1500074,1500121]++(List.range 162).filter λf=>Nat.ble 3 f&& !Nat.beq f 7
theorem ABB:ep Tryz.prog AKi=true:=by kernel_rfl
theorem ck:CK Tryz.prog Bs :=
 CK.add (CK.of ABB (by kernel_rfl)) (by kernel_rfl) (by kernel_rfl) Tryz.func16 (by kernel_rfl) (by kernel_rfl) tE
theorem run(vs:List Value)(W:CW)(h:CTs Tryz.prog [22,23,24,29] W vs)(ht:∀i o,W.obj i=some o→i<W.sz):∃n,eu ((EL Tryz.prog Bs n).call 10 vs W)=true:=by
 obtain⟨c0,vs,rfl,h0,h⟩:=h.cons;obtain⟨c1,vs,rfl,h1,h⟩:=h.cons;obtain⟨c2,vs,rfl,h2,h⟩:=h.cons;obtain⟨c3,vs,rfl,h3,h⟩:=h.cons;obtain rfl:=h.nil;obtain⟨v0,rfl,l0⟩:=ct1 (m:=19) UG h0;obtain⟨v1,rfl,l1⟩:=ct1 (m:=19) Vt h1;obtain⟨v2,rfl,l2⟩:=ct1 (m:=19) M' h2;obtain⟨v3,rfl,l3⟩:=ct1 (m:=19) LS h3;obtain⟨x0,y0,_,_⟩:=xA l0;obtain⟨x1,y1,_,_⟩:=xB l1;obtain⟨x2,y2,_,z2⟩:=xC l2;obtain⟨x3,y3,z3,_⟩:=nB l3;rw[AGu,AGv,AGw,AGx];obtain⟨n,⟨e,W'⟩,hn,he⟩:=nC (W:=W) (⟨ht,y0,y1,y2,z2⟩:xD W v0 v1 v2 x0 x1 x2) y3 z3;refine⟨n,?_⟩;have he:e=.returned (.bool true):=he;subst he;show eu ((EL Tryz.prog Bs n).call 10 [v0,v1,v2,v3] W)=true;rw[hn];rfl
set_option maxRecDepth 100000 in
theorem lifted(os:Os)(started:os.Started)(H:Type)(enc:TypeId×Value→H) :
  ReturnsInHanded {} Tryz.checked os 10 .any (Rows.pickleReadsSpec.pre6 enc Tryz.prog Tryz.f10 Rows.pickleReadsRow.domain false) (Rows.pickleReadsSpec.post enc Tryz.prog Tryz.f10 false true false false):=by
 refine returnsInHanded_of_change (C:=Tryz.checked) own started (by kernel_rfl) Tryz.func10
  (ChangeSpec.witness6 (enc:=enc) (C:=Tryz.checked) false ⟨#[],#[.slice none 0 0,.slice none 0 0,.slice none 0 0,.slice none 0 0],[]⟩ 8 (by kernel_rfl) (by kernel_rfl) (by kernel_rfl) (by kernel_rfl)) ?_
 intro W base args ds gs before Ir hW _ _;refine tF (fn:=Tryz.f10) (L:=Bs) (tb:=4) kzp AGy ken ck laid rfl (λH ds h=>?_) (by kernel_rfl) (by kernel_rfl) u4 (λvs W h ht=>run vs W h ht) W base args ds gs before Ir hW;have h:ds.length=4:=h
 match ds,h with
 |[d1,d2,d3,d4],_=>rfl
theorem over:Rows.pickleReadsRow.holds Tryz.pinned (OpenSpec.ofChange Rows.pickleReadsSpec) :=
 OpenClaim.holds_of_wide 10 Tryz.f10 rfl rfl rfl rfl rfl rfl rfl ⟨rfl,rfl,rfl,rfl,rfl⟩ rfl rfl rfl rfl rfl (by kernel_rfl) Tryz.func10 (by kernel_rfl)
  (of_decide_eq_true (by kernel_rfl)) (by unfold Func.isWrapper;first|(rw[if_pos (by decide+kernel)];kernel_rfl)|(rw[if_neg (by decide+kernel)];exact⟨rfl,rfl⟩))
  (λos started H enc _=>lifted os started H enc)
theorem proved:Rows.PickleReadsSaid :=
 over
#print axioms proved
end Go.Proofs.YtmknebebbbjdlaaGreat.pickleReads
