/- The law PickleElsewhere of the package trestlelaw21 hands back true for all its arguments, and what it was given reads behind the call as before.
   ABq: none. (The AK9 step AK' asz the AIO proof AE5.) -/
import Derived.Test.YtmknebebbbjdlaaGreatW05
import Derived.Test.YtmknebebbbjdlaaGreatW06
import Derived.Test.YtmknebebbbjdlaaGreatW20
import Derived.Test.YtmknebebbbjdlaaGreatRows
import Derived.WalkKit
import Derived.ProofKit
set_option linter.unusedSectionVars false
set_option linter.unusedVariables false
set_option linter.unusedSimpArgs false
set_option linter.defProp false
set_option maxRecDepth 200000
namespace Go.Proofs.YtmknebebbbjdlaaGreat.pickleElsewhere
open Go.Ce Go.ChangeShapes Go.WideShapes Go.ChangeAt Go.RowKit
theorem own:ownKnob Tryz.prog.godebug=none:=by kernel_rfl
theorem laid:laidOutB Tryz.prog=true:=by kernel_rfl
theorem u4:Tryz.prog.underlying 4=some .bool:=by kernel_rfl
theorem AE6(cs:List Value):St Tryz.prog 22 cs=cs.getD 0 undef:=by unfold St;rw[Y1]
theorem AE7(cs:List Value):St Tryz.prog 24 cs=cs.getD 0 undef:=by unfold St;rw[VT]
theorem AIP(cs:List Value):St Tryz.prog 3 cs=cs.getD 0 undef:=by unfold St;rw[ut3]
theorem ct1{m:Nat}{t el:TypeId}{W:CW}{cs:List Value}(u:Tryz.prog.underlying t=some (.slice el))(h:CT Tryz.prog (m+1) t W cs):∃v,cs=[v]∧Su Tryz.prog W t v:=by
 have h':=h;simp only[CT,u]at h;rcases h with rfl|rfl|⟨k,len,cap,f,rfl,_⟩<;>exact⟨_,rfl,m+1,h'⟩
theorem ct3{m:Nat}{W:CW}{cs:List Value}(h:CT Tryz.prog (m+1) 3 W cs):∃x,cs=[.int .i64 x]:=by
 simp only[CT,ut3]at h;obtain⟨x,rfl,_⟩:=h;exact⟨x,rfl⟩
def AIQ:List FuncId:=[1500072,1500074,1500121]++(List.range 162).filter λf=>Nat.ble 3 f
theorem zC:bb Tryz.prog AIQ=true:=by kernel_rfl
theorem ck:CK Tryz.prog Bf :=
 CK.add (CK.of zC (by kernel_rfl)) (by kernel_rfl) (by kernel_rfl) Tryz.func16 (by kernel_rfl) (by kernel_rfl) pj
theorem run(vs:List Value)(W:CW)(h:zD Tryz.prog [22,48,24,3,3] W vs)(ht:∀i o,W.obj i=some o→i<W.sz):∃n,bc ((DY Tryz.prog Bf n).call 7 vs W)=true:=by
 obtain⟨c0,vs,rfl,h0,h⟩:=h.cons;obtain⟨c1,vs,rfl,h1,h⟩:=h.cons;obtain⟨c2,vs,rfl,h2,h⟩:=h.cons;obtain⟨c3,vs,rfl,h3,h⟩:=h.cons;obtain⟨c4,vs,rfl,h4,h⟩:=h.cons;obtain rfl:=h.nil;obtain⟨v0,rfl,l0⟩:=ct1 (m:=19) Y1 h0;obtain⟨q1,e1,o1⟩:=ABr (m:=19) h1;obtain⟨v2,rfl,l2⟩:=ct1 (m:=19) VT h2;obtain⟨i3,rfl⟩:=ct3 (m:=19) h3;obtain⟨i4,rfl⟩:=ct3 (m:=19) h4;obtain⟨x0,y0,z0,_⟩:=th l0;obtain⟨x2,y2,_,z2⟩:=tj l2;rw[AE6,e1,AE7,AIP];obtain⟨n,⟨e,W'⟩,hn,he⟩:=WO (W:=W) (root:=i3) (gone:=i4) (⟨ht,y0,z0,o1,y2,z2⟩:tk W v0 v2 x0 q1 x2);refine⟨n,?_⟩;have he:e=.returned (.bool true):=he;subst he;show bc ((DY Tryz.prog Bf n).call 7 [v0,.agg (Em q1).toArray,v2,.int .i64 i3,.int .i64 i4] W)=true;rw[hn];rfl
set_option maxRecDepth 100000 in
theorem lifted(os:Os)(started:os.Started)(H:Type)(enc:TypeId×Value→H) :
  ReturnsInHanded {} Tryz.checked os 7 .any (Rows.pickleElsewhereSpec.pre6 enc Tryz.prog Tryz.f7 Rows.pickleElsewhereRow.domain false) (Rows.pickleElsewhereSpec.post enc Tryz.prog Tryz.f7 false true false false):=by
 refine returnsInHanded_of_change (C:=Tryz.checked) own started (by kernel_rfl) Tryz.func7
  (ChangeSpec.witness6 (enc:=enc) (C:=Tryz.checked) false ⟨#[],#[.slice none 0 0,.agg #[.string ⟨#[]⟩,.string ⟨#[]⟩,.slice none 0 0,.int .u8 0,.slice none 0 0],.slice none 0 0,.int .i64 0,.int .i64 0],[]⟩ 8 (by kernel_rfl) (by kernel_rfl) (by kernel_rfl) (by kernel_rfl)) ?_
 intro W base args ds gs before Ht hW _ _;refine pk (fn:=Tryz.f7) (L:=Bf) (tb:=4) kzp AE8 ken ck laid rfl (λH ds h=>?_) (by kernel_rfl) (by kernel_rfl) u4 (λvs W h ht=>run vs W h ht) W base args ds gs before Ht hW;have h:ds.length=5:=h
 match ds,h with
 |[d1,d2,d3,d4,d5],_=>rfl
theorem over:Rows.pickleElsewhereRow.holds Tryz.pinned (OpenSpec.ofChange Rows.pickleElsewhereSpec) :=
 OpenClaim.holds_of_wide 7 Tryz.f7 rfl rfl rfl rfl rfl rfl rfl ⟨rfl,rfl,rfl,rfl,rfl⟩ rfl rfl rfl rfl rfl (by kernel_rfl) Tryz.func7 (by kernel_rfl)
  (of_decide_eq_true (by kernel_rfl)) (by unfold Func.isWrapper;first|(rw[if_pos (by decide+kernel)];kernel_rfl)|(rw[if_neg (by decide+kernel)];exact⟨rfl,rfl⟩))
  (λos started H enc _=>lifted os started H enc)
theorem proved:Rows.PickleElsewhereSaid :=
 over
#print axioms proved
end Go.Proofs.YtmknebebbbjdlaaGreat.pickleElsewhere
