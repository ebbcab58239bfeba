/- A part of the proof: Cn, Co, Cp, Cq, Cr, Cs, Ct, Cu, Cv, Cw, Cx, Cy, Cz, Fa, Ea, Eb. -/
import Derived.Test.YtmknebebbbjdlaaGreatW00
import Derived.Laws.BytesArg
import Derived.Laws.IdiomStrings
import Derived.LoopNIn
import Derived.RangeFuncLeaves
import Derived.Laws.Externs
import Derived.Carry
import Derived.OpenShut
import Derived.ChangeSame
set_option linter.unusedSectionVars false
set_option linter.unusedVariables false
set_option linter.unusedSimpArgs false
set_option linter.defProp false
set_option maxRecDepth 200000
namespace Go.Ce
open Go.RowKit (Below)
section
variable {P:Program}{w0:World}{ρ:Bk}{W:CW}{w:World}{o:Oper}{e e':Operand→Value}{outs:List (BQ×CW)}
theorem ZG(hz:ZP P){f:FuncId}{asz:List Value}{asz':Array Value}{v:Value}{W1:CW}(h:KJ P f asz W=some (v,W1))(hw:AU P w0 ρ W w)(ha:Ap ρ asz asz'.toList) :
  ∃v' w' ρ',(callFunc f asz').run P w=.ok (.value v') w'∧Ef W ρ W1 ρ'∧AK ρ' v v'∧AU P w0 ρ' W1 w':=by
 unfold KJ at h;split at h
 rotate_left
 ·cases h
 rename_i fn cD;rw[cond_eq_ite]at h;split at h
 rotate_left
 ·cases h
 rename_i hb;rw[cond_eq_ite]at h;split at h
 rotate_left
 ·cases h
 rename_i hn;split at h
 rotate_left
 ·cases h
 rename_i t r;split at h
 rotate_left
 ·cases h
 rename_i es Ez BY
 cases h
 obtain⟨y,hy,hv⟩:=ha.get (i:=0) (x:=.iface t (.map (some r))) rfl
 have hl:asz'=#[y]:=by
  have h1:=ha.1;apply acE
  cases hq:asz'.toList with
  |nil=>rw[hq]at h1;cases h1
  |cons z l=>
   rw[hq]at h1 hy;have:l=[]:=by simpa using h1.symm
   subst this
   simpa using hy
 subst hl
 cases hv with
 | iface _ hv=>
  cases hv with
  | @map _ r' jm=>
   obtain⟨x,hx,rfl⟩:=jm;obtain⟨o',I0,hr⟩:=hw.obj BY (by simp) hx rfl
   cases hr with
   | @map _ CO _ h1 h2=>
    have C2:Ext ρ (λi=>if i=W.sz then some ⟨w.heap.size,0,0,0,0⟩else ρ i):=λi y hy=>by
     have:=hw.VF i y hy;show(if i=W.sz then _ else ρ i)=some y;rw[aac (by omega)];exact hy
    obtain⟨hg,I_⟩:=hw.new (o:=.map es Ez) (o':=.map CO Ez) ⟨w.heap.size,0,0,0,0⟩ rfl (.map rfl (h2.mono C2))
    have HR:(Extern.MapsClone.clone #[.iface t (.map (some x.b))]).run P w=.ok (.iface t (.map (some w.heap.size))) {w with heap:=w.heap.push (.map CO Ez)}:=by
     have e1:Extern.MapsClone.clone #[.iface t (.map (some x.b))]=(getObj x.b>>=λo=>match o with
       | .map entries clock=>(newObj (.map entries clock)>>=λn=>pure (.iface t (.map (some n))))
       | _=>stuck "maps.clone: a map expected"):=rfl
     have hgo:(getObj x.b).run P w=.ok (.map CO Ez) w:=Ar I0 (by simp);rw[e1];simp only[aae,hgo,zC,run_newObj,aak]
    exact⟨_,_,_,hz.2 f fn cD hb hn _ _ _ _ HR,hg,.iface _ (.map ⟨⟨w.heap.size,0,0,0,0⟩,by simp,rfl⟩),I_⟩
theorem cH(hz:ZP P){c:Call}{f:Operand}(ho:o.op=.call c)(hf:c.callee=.value f)(h:BF P o e W=some outs)(hw:AU P w0 ρ W w)(hx:AK ρ (e f) (e' f))
  (ha:∀x,x∈c.args.toList→AK ρ (e x) (e' x)):A3 P w0 ρ W ((execOp e' o).run P w) outs:=by
 simp only[BF,ho,hf]at h;have DC:Ap ρ (c.args.toList.map e) (c.args.map e').toList:=by simpa using Ap.map (ρ:=ρ) c.args.toList e e' ha
 generalize hn:JI (e f) (c.args.toList.map e)=n at h;unfold JI at hn
 split at hn
 ·rename_i fn first cap hc;rw[hc]at hx;generalize SZ:e' f=UU at hx
  cases hx with
  | @func _ f' _ x' _ y' cD h1 h2 h3 h4=>
   cases cD
   have hA:Ap ρ (first.toList++c.args.toList.map e++cap.toList) (x'++c.args.map e'++y').toList:=by
    have e1:=Ap.arr.2 ⟨h1,h2⟩;have e2:=Ap.arr.2 ⟨h3,h4⟩
    simpa using(e1.append DC).append e2
   have hE:(execOp e' o).run P w=(callFunc fn (x'++c.args.map e'++y')).run P w:=by
    simp only[execOp,ho,resolve,hf,SZ,Deferred.ofValue,aae,aak,zC,invoke]
   subst hn;simp only at h
   split at h
   ·rename_i v W1 C2
    cases h
    obtain⟨v',w',ρ',HR,hg,hv,I_⟩:=ZG hz C2 hw hA;exact⟨_,_,ρ',dx.2 rfl,hg,.value (w:=w') (by rw[hE,HR]) hv I_⟩
   ·cases h
    exact⟨_,_,ρ,dx.2 rfl,.refl _,.enter (args':=x'++c.args.map e'++y') (w:=w) hE hA hw⟩
 ·rename_i l first cap hc;subst hn
  cases h
  rw[hc]at hx;generalize SZ:e' f=UU at hx
  cases hx with
  | @func _ f' _ x' _ y' cD h1 h2 h3 h4=>
   cases cD with
   | yield hb=>
    refine⟨_,_,ρ,dx.2 rfl,.refl _,.round (args':=x'++c.args.map e') (w:=w) ?_ hb ?_ hw⟩
    ·simp only[execOp,ho,resolve,hf,SZ,Deferred.ofValue,aae,aak,zC,invoke]
    ·have e1:=Ap.arr.2 ⟨h1,h2⟩
     simpa using e1.append DC
 ·subst hn
  cases h
theorem O8:∀{l:List Value} {m:List UInt8},GO l=some m→m.length=l.length∧∀l',Ap ρ l l'→∃ns:List Int,l'=ns.map (Value.int .u8)∧m=ns.map λn=>UInt8.ofNat n.toNat
 |[],m,h=>by cases h;exact⟨rfl,λl' hl=>⟨[],aaF.1 hl.1.symm,rfl⟩⟩
 | v::l,m,h=>by
  unfold GO at h
  split at h
  ·cases ‹_::_=[]›
  ·rename_i n l2 heq
   cases heq
   split at h
   ·rename_i m2 hm
    cases h
    obtain⟨h1,h2⟩:=O8 hm;refine⟨by simp[h1],λl' hl=>?_⟩
    cases l' with
    |nil=>have:=hl.1;simp at this
    |cons y l'=>
     obtain⟨ns,e1,e2⟩:=h2 l' hl.tail;have hv:=hl.head
     cases hv
     exact⟨n::ns,by rw[e1];rfl,by rw[e2];rfl⟩
   ·cases h
  ·cases h
theorem kU(hw:AU P w0 ρ W w){s d el:TypeId}{x x' v:Value}(hs:P.underlying s=some (.slice el))(hd:P.underlying d=some .string)(h:j7 P el x W=some v)(hx:AK ρ x x') :
  (convert s d x').run P w=.ok v w∧AK ρ v v:=by
 unfold j7 at h;split at h
 rotate_left
 ·cases h
 rename_i b n c MJ;obtain⟨l,hl,h⟩:=AY h;obtain⟨m,hm,h⟩:=AY h
 cases h
 refine⟨?_,.string _⟩;obtain⟨b',c',rfl,BD⟩:=hx.HD;rw[run_convert_bytes_string w s d el b' n c' hs MJ hd];have Y3:FD b (n*1) W=some l:=by rw[ac2];exact hl
 obtain⟨l',hr,CG⟩:=MK hw hx (aaf n) Y3;obtain⟨_,hb⟩:=O8 (ρ:=ρ) hm;obtain⟨ns,e1,e2⟩:=hb _ CG
 rcases BD with⟨rfl,rfl,_⟩|⟨a,a',rfl,rfl,_⟩
 ·have LZ:l=[]:=by cases hl;rfl
  subst LZ
  cases hm
  simp[Conv.bytesToString];rfl
 ·have hr:=hr w.drawn;simp only[Builtin.firstCells,ac2]at hr;have e3:l'=(ns.map (Value.int .u8)).toArray:=by apply acE;rw[e1]
  rw[e3]at hr;rw[run_bytesToString w a' n c' ns hr,foldl_push_bytes,e2];simp
theorem kV(hw:AU P w0 ρ W w){s d el:TypeId}{b:ByteArray}{v:Value}{W1:CW}(hs:P.underlying s=some .string)(hd:P.underlying d=some (.slice el))(h:zF P el b W=some (v,W1)) :
  ∃v' w' ρ',(convert s d (.string b)).run P w=.ok v' w'∧Ef W ρ W1 ρ'∧AK ρ' v v'∧AU P w0 ρ' W1 w':=by
 unfold zF at h;split at h
 rotate_left
 ·cases h
 rename_i MJ Hs
 cases h
 let cap:=grownCap w b.size 0 el
 have AB6:b.size≤cap:=by
  show b.size≤grownCap w b.size 0 el;simp only[grownCap,Question.cut];omega
 have Eg:=hw.drew (w.drawn+1)
 have C2:Ext ρ (λi=>if i=W.sz then some ⟨w.heap.size,0,1,b.size,cap⟩else ρ i):=λi y hy=>by
  have:=hw.VF i y hy;show(if i=W.sz then _ else ρ i)=some y;rw[aac (by omega)];exact hy
 have hbs:b.data.size=b.size:=rfl
 have jn:(bytesRow b cap).size=cap:=by
  simp[bytesRow,hbs];omega
 obtain⟨hg,Fq⟩:=Eg.new (o:=.cells (Tr.nil.AS 0 (C_ (sb b))) b.size #[] el) (o':=.cells (bytesRow b cap) el ((bytesRow b cap).size,(bytesRow b cap).size+1)) ⟨w.heap.size,0,1,b.size,cap⟩ rfl (by
  refine .cells Hs jn (by show 0+b.size≤cap;omega) (λk hk=>?_) ⟨λk hk=>by simp;omega,λh=>(h rfl).elim⟩;have hk:k<b.size:=hk;have qE:k<b.data.size:=hk;have hlen:(C_ (sb b)).length=b.size:=by simp[C_,sb,hbs]
  rw[B6 _ _ _ (by omega)]
  have e1:(bytesRow b cap).getD (k+0) undef=.int .u8 b.data[k].toNat:=by
   rw[aal,aa6,bytesRow,Array.getElem?_append_left (by simpa using qE)];simp[Array.getElem?_eq_getElem qE]
  have e2:(C_ (sb b)).getD k undef=.int .u8 b.data[k].toNat:=by
   simp[C_,sb,aaj,Array.getElem?_eq_getElem qE]
  rw[e1,e2]
  exact .int _ _)
 refine⟨.slice (some ⟨w.heap.size,0,none⟩) b.size cap,_,_,?_,hg,.slice _ ⟨rfl,⟨w.heap.size,0,1,b.size,cap⟩,by simp,by simp⟩ (.inr ⟨⟨w.heap.size,0,1,b.size,cap⟩,by simp,by show 0<1;omega,by simp,by simp,AB6⟩),Fq⟩;exact run_bytes_of_string w s d el b hs hd MJ
theorem kX{s d:TypeId}{x:Operand}(ho:o.op=.convert s d x)(h:BF P o e W=some outs)(hw:AU P w0 ρ W w)(hx:AK ρ (e x) (e' x)) :
  A3 P w0 ρ W ((execOp e' o).run P w) outs:=by
 simp only[BF,ho]at h
 split at h
 ·rename_i ud k k0 n hs hd hc
  cases h
  rw[hc]at hx;generalize FO:e' x=UU at hx
  cases hx
  refine .value hw ?_ (.int _ _);simp only[execOp,ho,FO];refine A9 ?_;simp only[convert,aae,AF hs,AF hd,zC,Conv.intToInt,aak]
 ·rename_i ud s0 hs hd hc
  cases h
  rw[hc]at hx;generalize FO:e' x=UU at hx
  cases hx
  refine .value hw ?_ (.string _);simp only[execOp,ho,FO];refine A9 ?_
  cases ud<;>simp[convert,AF hs,AF hd]
 ·rename_i el s0 hs hd hc;obtain⟨v,W1,hv,rfl⟩:=JS h;rw[hc]at hx;generalize FO:e' x=UU at hx
  cases hx
  obtain⟨v',w',ρ',hr,hg,ZD,I_⟩:=kV hw hs hd hv;refine⟨_,_,ρ',dx.2 rfl,hg,.value (w:=w') ?_ ZD I_⟩;simp only[execOp,ho,FO];exact A9 hr
 ·rename_i el _ hs hd _;obtain⟨v,hv,rfl⟩:=FF h;obtain⟨hr,ZD⟩:=kU hw hs hd hv hx;refine .value hw ?_ ZD;simp only[execOp,ho];exact A9 hr
 ·cases h
theorem fa(hw:AU P w0 ρ W w){ts:Array TypeId}{t ty:TypeId}{d d' s s' v:Value}{W1:CW}(h0:ts[0]?=some t)
  (h:fG P t d s W=some (v,W1)) (hd:AK ρ d d') (hs:AK ρ s s'):∃v' w',(Builtin.copy_ ts ty #[d',s']).run P w=.ok v' w'∧AK ρ v v'∧AU P w0 ρ W1 w':=by
 unfold fG at h
 split at h
 ·rename_i elem base fH ALH sLen ht qC;obtain⟨size,Hs,h2⟩:=AY h;clear h;obtain⟨news,HS,h⟩:=AY h2;clear h2;have AIV:Nat.min sLen fH≤sLen:=Nat.min_le_left _ _;obtain⟨FP,ZF,CG,hl⟩:=Zs hw hs qC AIV HS;obtain⟨O7,AFJ,rfl,BD⟩:=hd.HD
  have HR:(Builtin.copy_ ts ty #[.slice O7 fH AFJ,s']).run P w=(do
      if let some a:=O7 then storeCells a FP.toList
      pure (goInt (Nat.min sLen fH)):Sem Value).run P w:=by
   simp only[Builtin.copy_,h0,acp,acd,ace,aae,AF ht,zC,hl,BH Hs,ZF w.drawn]
   cases O7<;>rfl
  rw[cond_eq_ite]at h
  split at h
  ·rename_i VI;have VI:=aab VI;simp only[aag,aar]at h;obtain⟨rfl,rfl⟩:=h;refine⟨_,w,?_,.int _ _,hw⟩;rw[HR]
   have LZ:FP.toList=[]:=by
    have hlen:=CG.1
    have:news=[]:=by
     rw[VI]at HS;unfold Ia at HS
     split at HS
     ·rw[abl]at HS;unfold FD at HS
      split at HS
      ·cases HS;rfl
      ·cases HS;rfl
     ·rw[cond_eq_ite]at HS
      split at HS
      ·cases HS;rfl
      ·cases HS
     ·cases HS
    rw[this]at hlen;exact aaF.1 hlen.symm
   rw[LZ]
   cases O7<;>simp[storeCells,goInt]
  ·rename_i VI
   rcases BD with⟨rfl,_,_⟩|⟨b,b',rfl,rfl,BD⟩
   ·cases h
   ·simp only at h
    split at h
    ·rename_i c m zz ee BY;rw[cond_eq_ite]at h
     split at h
     ·rename_i BM;simp only[dy]at BM;have hle:=aam BM.2;simp only[aag,aar]at h;obtain⟨rfl,rfl⟩:=h
      rcases BD with⟨ha,_⟩|⟨hd0,_,_⟩|⟨hd0,_,_⟩
      ·obtain⟨x,fY,fr,fZ,rfl,qD,kD,hr,hn,kR,kE,_,FO⟩:=hw.cells ha BY;have Fq:=hw.A6 BY rfl fZ (hr.write (vs:=news) (vs':=FP.toList) CG (k:=b.off) (by omega));refine⟨_,_,?_,.int _ _,Fq⟩;rw[HR];simp only[aae];rw[F6 (P:=P) (b.off+x.o) FP.toList 0 w fY qD kD (by have:=CG.1;omega) (CG.cF BM.1)];simp only[zC,aak,aa6];rfl
      ·exact(VI (by rw[hd0];simp)).elim
      ·exact(VI (by rw[hd0];simp)).elim
     ·cases h
    ·cases h
 ·cases h
theorem kY(hw:AU P w0 ρ W w){ts:Array TypeId}{t ty:TypeId}{x x' v:Value}(h0:ts[0]?=some t)(h:Kw P t x W=some v)(hx:AK ρ x x') :
  ∃v',(Builtin.len_ ts ty #[x']).run P w=.ok v' w∧AK ρ v v':=by
 unfold Kw at h
 split at h
 ·rename_i s ht
  cases h;cases hx
  exact⟨_,by simp[Builtin.len_,h0,AF ht,goInt],.int _ _⟩
 ·rename_i el a0 n c ht
  cases h
  obtain⟨a',c',rfl,_⟩:=hx.HD;exact⟨_,by simp[Builtin.len_,h0,AF ht,goInt],.int _ _⟩
 ·rename_i kt el ht
  cases h;cases hx
  exact⟨_,by simp[Builtin.len_,h0,AF ht,goInt],.int _ _⟩
 ·rename_i kt el r ht
  cases hx with
  | map hb=>
   split at h
   ·rename_i es Ez BY
    cases h
    obtain⟨y,CO,hy,rfl,_,hh,CG⟩:=hw.Ui hb BY;have hl:=CG.length;refine⟨.int .i64 CO.size,by simp[Builtin.len_,h0,AF ht,goInt,Ar hh (by simp)],?_⟩;rw[hl]
    simpa using AK.int .i64 _
   ·cases h
 ·cases h
theorem kZ(hw:AU P w0 ρ W w){ts:Array TypeId}{t ty:TypeId}{x x' v:Value}(h0:ts[0]?=some t)(h:ABt P t x W=some v)(hx:AK ρ x x') :
  ∃v',(Builtin.cap_ ts ty #[x']).run P w=.ok v' w∧AK ρ v v':=by
 unfold ABt at h
 split at h
 ·rename_i el n c ht
  cases h
  cases hx
  refine⟨_,?_,.int _ _⟩;simp[Builtin.cap_,h0,AF ht,goInt]
 ·rename_i el a n c ht
  split at h
  ·rename_i cc m z e BY;rw[cond_eq_ite]at h
   split at h
   ·cases h
   ·rename_i hz;simp only[aaQ,abz,not_or]at hz
    cases h
    cases hx with
    | @slice _ a' _ _ c' ha hc=>
     have:c'=c:=by
      rcases hc with hc|⟨x,hx,hp,h1,h2,_⟩
      ·exact hc
      ·obtain⟨_,y,hy,rfl⟩:=ha;rw[hx]at hy;cases hy;obtain⟨o',I0,hr⟩:=hw.obj BY (by simp) hx rfl
       cases hr with
       |cells _ _ _ _ hq=>
        obtain⟨e1,e2⟩:=hq.2 hz.1;have:c*x.sz=c'*x.sz:=by omega
        exact(acw hp this).symm
     subst this;refine⟨_,?_,.int _ _⟩;simp[Builtin.cap_,h0,AF ht,goInt]
    |K1=>exact(hz.2 rfl).elim
    |JR=>exact(hz.2 rfl).elim
  ·cases h
 ·cases h
theorem ZH(hw:AU P w0 ρ W w){ts:Array TypeId}{t ty:TypeId}{m m' k k':Value}{W1:CW}(h0:ts[0]?=some t)(h:QY P t m k W=some W1)(hm:AK ρ m m')(hk:AK ρ k k') :
  ∃w',(Builtin.delete_ ts ty #[m',k']).run P w=.ok (.tuple #[]) w'∧AU P w0 ρ W1 w':=by
 unfold QY at h
 split at h
 ·rename_i kt el r ht
  cases hm with
  | @map _ r' hb=>
   split at h
   ·rename_i es Ez BY;obtain⟨f,hf,h2⟩:=AY h;clear h;have h:=h2;obtain⟨y,CO,hy,rfl,nj,hh,CG⟩:=hw.Ui hb BY;obtain⟨r',LM,KN,BD⟩:=Ng hf hk CG
    rcases BD with⟨rfl,rfl⟩|⟨j,x1,x1',en,rfl,rfl,ym,FN,O5⟩
    ·cases h
     refine⟨{w with heap:=w.heap.setIfInBounds y.b (.map CO Ez)},?_,hw.A6 BY rfl hy (.map nj CG)⟩;simp[Builtin.delete_,h0,AF ht,Ar hh (by simp),LM,KN,DK hh (by simp)]
    ·cases h
     refine⟨{w with heap:=w.heap.setIfInBounds y.b (.map (CO.eraseIdxIfInBounds j) Ez)},?_,hw.A6 BY rfl hy (.map nj ?_)⟩
     ·simp[Builtin.delete_,h0,AF ht,Ar hh (by simp),LM,KN,DK hh (by simp)]
     ·have:=CG.MF j;have e1:(CO.eraseIdxIfInBounds j).toList=CO.toList.eraseIdx j:=by simp
      rw[e1];exact this
   ·cases h
 ·cases h
theorem cI(hz:ZP P)(hw:AU P w0 ρ W w){ts:Array TypeId}{t ty:TypeId}{x x':Value}{W1:CW}(h0:ts[0]?=some t)(h:WQ P t x W=some W1)(hx:AK ρ x x') :
  ∃w',(Builtin.clear_ ts ty #[x']).run P w=.ok (.tuple #[]) w'∧AU P w0 ρ W1 w':=by
 unfold WQ at h
 split at h
 ·rename_i kt el r ht
  split at h
  ·rename_i es Ez BY
   cases h
   cases hx with
   | @map _ r' hb=>
    obtain⟨y,CO,hy,rfl,nj,hh,CG⟩:=hw.Ui hb BY;refine⟨{w with heap:=w.heap.setIfInBounds y.b (.map #[] Ez)},?_,hw.A6 BY rfl hy (.map nj trivial)⟩;simp[Builtin.clear_,h0,AF ht,Ar hh (by simp),DK hh (by simp)]
  ·cases h
 ·rename_i kt el ht
  cases h;cases hx
  exact⟨w,by simp[Builtin.clear_,h0,AF ht],hw⟩
 ·rename_i el a n c ht;obtain⟨size,Hs,h2⟩:=AY h;clear h;obtain⟨z0,MD,h⟩:=AY h2;clear h2;obtain⟨a',c',rfl,BD⟩:=hx.HD;rw[cond_eq_ite]at h
  split at h
  ·rename_i VI;have VI:=aab VI;subst VI
   cases h
   refine⟨w,?_,hw⟩
   cases a'<;>simp[Builtin.clear_,h0,AF ht]
  ·rename_i VI;have VI:n≠0:=λh=>VI (by rw[h];rfl)
   split at h
   ·rename_i cc m zz ee BY;rw[cond_eq_ite]at h
    split at h
    ·rename_i BM;simp only[dy]at BM;have hle:=aam BM.1
     cases h
     rcases BD with⟨h1,_⟩|⟨b,b',ek,rfl,BD⟩
     ·cases h1
     ·cases ek
      rcases BD with⟨ha,_⟩|⟨h1,_⟩|⟨h1,_⟩
      ·obtain⟨x,fY,fr,fZ,rfl,qD,kD,hr,hn,kR,kE,_,FO⟩:=hw.cells ha BY
       have uT:Ap ρ (BE .nil z0.cells (n*z0.cells.size) 0) (Builtin.zeroCells z0.cells n).toList:=by
        refine⟨by simp[Aw,Builtin.zeroCells],λi hi=>?_⟩;rw[Aw]at hi;rw[FY _ _ _ _ _ hi,aa0]
        have h1:=OR (ρ:=ρ) hz MD (n*z0.cells.size) (by
         rcases abM z0.cells.size with h0|h0
         ·left;rw[h0];rfl
         ·exact .inr h0) i hi
        simp only[Builtin.zeroCells];rw[aal,←aba]at h1;rw[aaj];exact h1
       have Bv:(Builtin.zeroCells z0.cells n).toList.all BG=true:=by
        rw[aax];intro y hy;simp only[Builtin.zeroCells,ach,aaU,Array.toList_range,aaV]at hy;obtain⟨i,hi,rfl⟩:=hy
        have PW:0<z0.cells.size:=by
         rcases abM z0.cells.size with h0|h0
         ·rw[h0]at hi;omega
         ·exact h0
        have Ao:i%z0.cells.size<z0.cells.size:=Nat.mod_lt _ PW;have:=aax.1 BM.2 (z0.cells[i%z0.cells.size]) (by simp)
        simpa[Ao]using this
       have Fq:=hw.A6 BY rfl fZ (hr.write (vs:=BE .nil z0.cells (n*z0.cells.size) 0) uT (k:=a.off) (by rw[Aw];omega));refine⟨_,?_,Fq⟩;have D1:=F6 (P:=P) (a.off+x.o) (Builtin.zeroCells z0.cells n).toList 0 w fY qD kD (by simp[Builtin.zeroCells];omega) Bv;obtain⟨n,rfl⟩:∃k,n=k+1:=⟨n-1,by omega⟩
       simp only[Builtin.clear_,h0,acp,acd,aae,AF ht,zC,Bi MD,D1,aak,aa6]
      ·exact(VI h1).elim
      ·exact(VI h1).elim
    ·cases h
   ·cases h
 ·rename_i el n c ht
  cases h
  obtain⟨a',c',rfl,BD⟩:=hx.HD
  have:a'=none:=by
   rcases BD with⟨_,h,_⟩|⟨b,b',h,_⟩
   ·exact h
   ·cases h
  subst this;refine⟨w,?_,hw⟩
  cases n<;>simp[Builtin.clear_,h0,AF ht]
 ·cases h
theorem uU{t:TypeId}{d s v:Value}{W1:CW}(h:fG P t d s W=some (v,W1)):W.sz≤W1.sz:=by
 unfold fG at h
 split at h
 ·obtain⟨_,_,h⟩:=AY h;obtain⟨_,_,h⟩:=AY h
  repeat' (first|(cases h;done)|(cases h;exact aaf _)|(rw[cond_eq_ite]at h)|split at h)
 ·cases h
theorem kb{t:TypeId}{d s:Value}{W1:CW}(h:QY P t d s W=some W1):W.sz≤W1.sz:=by
 unfold QY at h
 split at h
 ·split at h
  ·obtain⟨_,_,h⟩:=AY h
   repeat' (first|(cases h;done)|(cases h;exact aaf _)|(rw[cond_eq_ite]at h)|split at h)
  ·cases h
 ·cases h
theorem qF{t:TypeId}{d:Value}{W1:CW}(h:WQ P t d W=some W1):W.sz≤W1.sz:=by
 unfold WQ at h
 split at h
 ·repeat' (first|(cases h;done)|(cases h;exact aaf _)|(rw[cond_eq_ite]at h)|split at h)
 ·cases h;exact aaf _
 ·obtain⟨_,_,h⟩:=AY h;obtain⟨_,_,h⟩:=AY h
  repeat' (first|(cases h;done)|(cases h;exact aaf _)|(rw[cond_eq_ite]at h)|split at h)
 ·cases h;exact aaf _
 ·cases h
theorem cJ{c:Call}{b:Builtin}(ho:o.op=.call c)(hf:c.callee=.builtin b)(w:World) :
  (execOp e' o).run P w=(builtin b c.argTypes o.type (c.args.map fun| .const _=>true|_=>false) (c.args.map e')).run P w:=by
 simp only[execOp,ho,resolve,hf,aae,aak,zC,invoke];rfl
theorem Zu{α:Type}{a:Array α}{x:α}{l:List α}(h:a.toList=x::l):a[0]?=some x:=by rw[←aba,h];rfl
theorem AFK{α:Type}{a:Array α}{x y:α}{l:List α}(h:a.toList=x::y::l):a[1]?=some y:=by rw[←aba,h];rfl
theorem ofList{α:Type}{a:Array α}{l:List α}(h:a.toList=l):a=l.toArray:=by rw[←h]
theorem kd(hz:ZP P){c:Call}{b:Builtin}(ho:o.op=.call c)(hf:c.callee=.builtin b)(h:BF P o e W=some outs)(hw:AU P w0 ρ W w)
  (ha:∀x,x∈c.args.toList→AK ρ (e x) (e' x)):A3 P w0 ρ W ((execOp e' o).run P w) outs:=by
 rw[cJ ho hf];simp only[BF,ho,hf]at h;split at h
 rotate_left
 ·cases h
 rename_i r hr
 cases h
 generalize hB:c.args.map e'=B;have DC:Ap ρ (c.args.toList.map e) B.toList:=by rw[←hB];simpa using Ap.map (ρ:=ρ) c.args.toList e e' ha
 clear hB;generalize c.args.toList.map e=A at hr DC;unfold Jp at hr
 have one:∀{x:Value},Ap ρ [x] B.toList→∃x',B=#[x']∧AK ρ x x':=by
  intro x hl
  cases hB:B.toList with
  |nil=>rw[hB]at hl;have:=hl.1;simp at this
  |cons y ys=>
   rw[hB]at hl;have:ys=[]:=by have:=hl.1;simp at this;first|exact this|exact this.symm|exact aaF.1 this.symm
   subst this;exact⟨y,ofList hB,hl.head⟩
 have two:∀{x y:Value},Ap ρ [x,y] B.toList→∃x' y',B=#[x',y']∧AK ρ x x'∧AK ρ y y':=by
  intro x y hl
  cases hB:B.toList with
  |nil=>rw[hB]at hl;have:=hl.1;simp at this
  | cons x' ys=>
   rw[hB]at hl;have h1:=hl.head;have hl:=hl.tail
   cases ys with
   |nil=>have:=hl.1;simp at this
   |cons y' ys=>
    have:ys=[]:=by have:=hl.1;simp at this;first|exact this|exact this.symm|exact aaF.1 this.symm
    subst this;exact⟨x',y',ofList hB,h1,hl.head⟩
 split at hr
 ·rename_i t ts x Ig;obtain⟨x',rfl,hx⟩:=one DC;rw[aaw]at hr;obtain⟨v,hv,rfl⟩:=hr;obtain⟨v',KM,Iu⟩:=kY (ty:=o.type) hw (Zu Ig) hv hx;exact .value hw (A9 KM) Iu
 ·rename_i t ts x Ig;obtain⟨x',rfl,hx⟩:=one DC;rw[aaw]at hr;obtain⟨v,hv,rfl⟩:=hr;obtain⟨v',KM,Iu⟩:=kZ (ty:=o.type) hw (Zu Ig) hv hx;exact .value hw (A9 KM) Iu
 ·rename_i t u ts s x Ig;obtain⟨s',x',rfl,hs,hx⟩:=two DC;rw[cond_eq_ite]at hr
  split at hr
  ·rename_i hu;rw[aaw]at hr;obtain⟨⟨v,W1⟩,hv,rfl⟩:=hr;obtain⟨v',w',ρ',C2,KM,Iu,I_⟩:=ZE (ty:=o.type) hw (Zu Ig) (AFK Ig) hu hv hs hx;exact⟨_,_,ρ',dx.2 rfl,C2,.value (A9 KM) Iu I_⟩
  ·cases hr
 ·rename_i t ts d s Ig;obtain⟨d',s',rfl,hd,hs⟩:=two DC;rw[aaw]at hr;obtain⟨⟨v,W1⟩,hv,rfl⟩:=hr;obtain⟨v',w',KM,Iu,I_⟩:=fa (ty:=o.type) hw (Zu Ig) hv hd hs;exact⟨_,_,ρ,dx.2 rfl,.refl _ (uU hv),.value (A9 KM) Iu I_⟩
 ·rename_i t ts x Ig;obtain⟨x',rfl,hx⟩:=one DC;rw[aaw]at hr;obtain⟨W1,hv,rfl⟩:=hr;obtain⟨w',KM,I_⟩:=cI (ty:=o.type) hz hw (Zu Ig) hv hx;exact⟨_,_,ρ,dx.2 rfl,.refl _ (qF hv),.value (A9 KM) (.tuple' (.nil _)) I_⟩
 ·rename_i t ts m k Ig;obtain⟨m',k',rfl,hm,hk⟩:=two DC;rw[aaw]at hr;obtain⟨W1,hv,rfl⟩:=hr;obtain⟨w',KM,I_⟩:=ZH (ty:=o.type) hw (Zu Ig) hv hm hk;exact⟨_,_,ρ,dx.2 rfl,.refl _ (kb hv),.value (A9 KM) (.tuple' (.nil _)) I_⟩
 ·rename_i k a k2 b2;obtain⟨x',y',rfl,hx,hy⟩:=two DC
  cases hx;cases hy;cases hr
  refine .value hw (A9 (s:=Builtin.max_ c.argTypes o.type #[.int k a,.int k2 b2]) (by simp[Builtin.max_,Builtin.max2];rfl)) ?_;simp only[cond_eq_ite,decide_eq_true_eq];exact .int _ _
 ·rename_i k a k2 b2;obtain⟨x',y',rfl,hx,hy⟩:=two DC
  cases hx;cases hy;cases hr
  refine .value hw (A9 (s:=Builtin.min_ c.argTypes o.type #[.int k a,.int k2 b2]) (by simp[Builtin.min_,Builtin.min2];rfl)) ?_;simp only[cond_eq_ite,decide_eq_true_eq];exact .int _ _
 ·cases hr
  exact⟨_,_,ρ,dx.2 rfl,.refl _,.recover rfl hw⟩
 ·cases hr
theorem RC(hz:ZP P)(Aa:VC o=true)(Ji:∀g,e (.global g)=.complex .f32 0 0)(he:∀x,x∈o.op.operands→Ak x=true→AK ρ (e x) (e' x))(hw:AU P w0 ρ W w)(h:BF P o e W=some outs):A3 P w0 ρ W ((execOp e' o).run P w) outs:=by
 have al:∀l:List Operand,(∀x,x∈l→x∈o.op.operands)→l.all Ak=true→∀x,x∈l→AK ρ (e x) (e' x):=λl hm hl x hx=>he x (hm x hx) (aax.1 hl x hx);have al2:∀l:List (Nat×Operand),(∀x,x∈l→x.2∈o.op.operands)→(l.all λp=>Ak p.2)=true→∀p,p∈l→AK ρ (e p.2) (e' p.2):=λl hm hl x hx=>he x.2 (hm x hx) (aax.1 hl x hx);have op:∀m:Option Operand,(∀x,m=some x→x∈o.op.operands)→m.all Ak=true→∀x,m=some x→AK ρ (e x) (e' x):=λm Br hm x hx=>he x (Br x hx) (by subst hx;simpa using hm);unfold VC at Aa;split at Aa<;>(try simp only[dy]at Aa)
 case h_1 ho=>exact nh (.inl ho) h hw (he _ (by rw[ho];simp[Op.operands]) Aa)
 case h_2 ho=>exact nh (.inr ho) h hw (he _ (by rw[ho];simp[Op.operands]) Aa)
 case h_3 ho=>exact fO ho h hw (he _ (by rw[ho];simp[Op.operands]) Aa)
 case h_4 ho=>exact zM ho h hw (he _ (by rw[ho];simp[Op.operands]) Aa)
 case h_5 ho=>exact kX ho h hw (he _ (by rw[ho];simp[Op.operands]) Aa)
 case h_6 ho=>exact Sy ho h hw (he _ (by rw[ho];simp[Op.operands]) Aa)
 case h_7 ho=>exact uB ho h hw (he _ (by rw[ho];simp[Op.operands]) Aa)
 case h_8 ho=>exact cB ho h hw (he _ (by rw[ho];simp[Op.operands]) Aa)
 case h_9 ho=>exact uK ho h hw (he _ (by rw[ho];simp[Op.operands]) Aa)
 case h_10 ho=>exact zP ho h hw (he _ (by rw[ho];simp[Op.operands]) Aa)
 case h_11 ho=>exact uM ho h hw (he _ (by rw[ho];simp[Op.operands]) Aa)
 case h_12 ho=>exact ZC hz ho h hw (he _ (by rw[ho];simp[Op.operands]) Aa)
 case h_13 ho=>exact kI ho h hw (he _ (by rw[ho];simp[Op.operands]) Aa)
 case h_14 ho=>exact uF ho h hw (he _ (by rw[ho];simp[Op.operands]) Aa)
 case h_15 ho=>exact AB1 ho h hw (he _ (by rw[ho];simp[Op.operands]) Aa)
 case h_16 t x ho=>
  rw[aaQ]at Aa
  rcases Aa with Aa|Aa
  ·exact zK ho h hw (he _ (by rw[ho];simp[Op.operands]) Aa)
  ·split at Aa
   ·simp only[BF,ho,Ji]at h
    cases h
   ·cases Aa
 case h_17 ho=>exact zI ho h hw (he _ (by rw[ho];simp[Op.operands]) Aa.1.1) (he _ (by rw[ho];simp[Op.operands]) Aa.1.2) (he _ (by rw[ho];simp[Op.operands]) Aa.2)
 case h_18 ho=>exact tw hz ho h hw
 case h_19 ho=>exact kP ho h hw
 case h_20 ho=>exact uA hz ho h hw (al2 _ (λx hx=>by rw[ho];simp[Op.operands];exact⟨x.1,by simpa using hx⟩) Aa)
 case h_21 ho=>exact ZB hz ho h hw (al2 _ (λx hx=>by rw[ho];simp[Op.operands];exact⟨x.1,by simpa using hx⟩) Aa)
 case h_22 ho=>exact tu ho h hw (he _ (by rw[ho];simp[Op.operands]) Aa.1) (he _ (by rw[ho];simp[Op.operands]) Aa.2)
 case h_23 ho=>exact t_ ho h hw (he _ (by rw[ho];simp[Op.operands]) Aa.1) (he _ (by rw[ho];simp[Op.operands]) Aa.2)
 case h_24 ho=>exact cA hz ho h hw (he _ (by rw[ho];simp[Op.operands]) Aa.1) (he _ (by rw[ho];simp[Op.operands]) Aa.2)
 case h_25 ho=>exact cC ho h hw (he _ (by rw[ho];simp[Op.operands]) Aa.1) (he _ (by rw[ho];simp[Op.operands]) Aa.2)
 case h_26 ho=>exact uD ho h hw (he _ (by rw[ho];simp[Op.operands]) Aa.1) (he _ (by rw[ho];simp[Op.operands]) Aa.2)
 case h_27 ho=>exact qA hz ho h hw (he _ (by rw[ho];simp[Op.operands]) Aa.1) (he _ (by rw[ho];simp[Op.operands]) Aa.2)
 case h_28 ho=>exact fS ho h hw (al _ (λx hx=>by rw[ho];simp[Op.operands];first|exact .inl hx|exact .inr hx|exact .inl (by simpa using hx)|exact .inr (by simpa using hx)) Aa.1) (al _ (λx hx=>by rw[ho];simp[Op.operands];first|exact .inl hx|exact .inr hx|exact .inl (by simpa using hx)|exact .inr (by simpa using hx)) Aa.2)
 case h_29 ho=>exact uE ho h hw (he _ (by rw[ho];simp[Op.operands]) Aa.1.1.1) (op _ (λx hx=>by rw[ho];simp[Op.operands,hx]) Aa.1.1.2) (op _ (λx hx=>by rw[ho];simp[Op.operands,hx]) Aa.1.2) (op _ (λx hx=>by rw[ho];simp[Op.operands,hx]) Aa.2)
 case h_30 ho=>exact RB (.inl ho) h hw (he _ (by rw[ho];simp[Op.operands]) Aa.1.1) (he _ (by rw[ho];simp[Op.operands]) Aa.1.2) (he _ (by rw[ho];simp[Op.operands]) Aa.2)
 case h_31 ho=>exact RB (.inr ho) h hw (he _ (by rw[ho];simp[Op.operands]) Aa.1.1) (he _ (by rw[ho];simp[Op.operands]) Aa.1.2) (he _ (by rw[ho];simp[Op.operands]) Aa.2)
 case h_32 c ho=>
  obtain⟨h1,h2⟩:=Aa
  split at h2
  ·rename_i f hf;exact cH hz ho hf h hw (he _ (by rw[ho];simp[Op.operands,Call.operands,hf]) h2) (al _ (λx hx=>by rw[ho];simp[Op.operands,Call.operands,hf];exact .inr (by simpa using hx)) h1)
  ·rename_i b hf;exact kd hz ho hf h hw (al _ (λx hx=>by rw[ho];simp[Op.operands,Call.operands,hf];simpa using hx) h1)
  ·cases h2
 case h_33 c ho=>
  obtain⟨h1,h2⟩:=Aa
  split at h2
  ·rename_i f hf;exact uG ho hf h hw (he _ (by rw[ho];simp[Op.operands,Call.operands,hf]) h2) (al _ (λx hx=>by rw[ho];simp[Op.operands,Call.operands,hf];exact .inr (by simpa using hx)) h1)
  ·cases h2
 case h_34=>cases Aa
end
inductive KC{α β:Type}(R:α→β→Prop):List α→List β→Prop
 |nil:KC R [] []
 |cons {x:α} {y:β} {xs:List α} {ys:List β}:R x y→KC R xs ys→KC R (x::xs) (y::ys)
def AI.at(a:AI)(i:Nat):Value:=(a.t.get i).getD undef
structure AR(ρ:Bk)(a:AI)(a':Act):Prop where
 tmps:∀i,AK ρ (a.at i) (a'.tmps.getD i undef)
 size:a'.tmps.size=a.nt
 defers:KC (LW ρ) a.defers a'.defers
theorem forall₂_mono{α β:Type}{R S:α→β→Prop}(h:∀a b,R a b→S a b){l:List α}{m:List β}(k:KC R l m):KC S l m:=by
 induction k with
 |nil=>exact .nil
 |cons hx _ ih=>exact .cons (h _ _ hx) ih
theorem AR.mono{ρ ρ':Bk}{a:AI}{a':Act}(h:AR ρ a a')(e:Ext ρ ρ'):AR ρ' a a' :=
 ⟨λi=>(h.tmps i).mono e,h.size,forall₂_mono (λ_ _ x=>x.mono e) h.defers⟩
structure ARw(ρ:Bk)(a:AI)(a':Act):Prop where
 tmps:a.My=false→∀i,AK ρ (a.at i) (a'.tmps.getD i undef)
 size:a'.tmps.size=a.nt
 defers:KC (LW ρ) a.defers a'.defers
theorem AR.w{ρ:Bk}{a:AI}{a':Act}(h:AR ρ a a'):ARw ρ a a':=⟨λ_=>h.tmps,h.size,h.defers⟩
theorem AI.AB7(a:AI):a.bad.My=true:=by
 unfold AI.My AI.bad;simp only[Tr.Bc,aaA]
abbrev ARx(ρ:Bk)(e:Exit)(a:AI)(a':Act):Prop:=match e with
 | .panic _=>ARw ρ a a'
 |_=>AR ρ a a'
theorem AR.x{ρ:Bk}{a:AI}{a':Act}(h:AR ρ a a')(e:Exit):ARx ρ e a a':=by
 cases e<;>first|exact h|exact h.w
theorem AI.RD(a:AI)(t:Tmp):a.eval (.tmp t)=a.at t:=by
 simp only[AI.eval,AI.at]
 cases a.t.get t<;>rfl
theorem AR.eval{ρ:Bk}{a:AI}{a':Act}(h:AR ρ a a')(x:Operand)(hx:Ak x=true):AK ρ (a.eval x) (a'.eval x):=by
 cases x with
 |tmp t=>rw[AI.RD];exact h.tmps t
 |const v=>exact .Q2 ρ 8 v hx
 |global g=>cases hx
 |func f=>exact .func (.func f) rfl (λi hi=>by simp at hi) rfl (λi hi=>by simp at hi)
theorem AI.ke(a:AI)(d:Tmp)(v:Value)(i:Nat):(a.put (some d) v).at i=if i=d then v else a.at i:=by
 simp only[AI.at,AI.put,Tr.Bc];split<;>rfl
theorem AR.put{ρ:Bk}{a:AI}{a':Act}(h:AR ρ a a'){d:Option Tmp}(hd:∀t,d=some t→t<a.nt){v v':Value}(hv:AK ρ v v'):AR ρ (a.put d v) (a'.put d v'):=by
 cases d with
 |none=>exact h
 | some d=>
  have hd:=hd d rfl
  refine⟨λi=>?_,?_,h.defers⟩
  ·rw[AI.ke];simp only[Act.put,aal,aaT]
   by_cases e:i=d
   ·subst e;rw[aad rfl,aad rfl,aad (by rw[h.size];exact hd)];exact hv
   ·rw[aac e,aac (abW e),←aal];exact h.tmps i
  ·simp only[Act.put,abA];exact h.size
theorem PY{nt:Nat}{o:Oper}(h:fI nt o=true):∀t,o.dst=some t→t<nt:=by
 intro t ht;unfold fI at h;rw[ht]at h;exact aam h
theorem AK.WZ{ρ:Bk}{v v':Value}(h:AK ρ v v'):(∃b,v=.bool b∧v'=.bool b)∨((∀b,v≠.bool b)∧∀b,v'≠.bool b):=by
 cases h<;>first|exact .inl ⟨_,rfl,rfl⟩|exact .inr ⟨by simp,by simp⟩
theorem Zv{ρ:Bk}{a:AI}{a':Act}(ops:Array Oper)(j:Nat)(h:∀d,(ops[j]?).bind (·.dst)=some d→AK ρ (a.at d) (a'.tmps.getD d undef)):yielded ops a'.tmps j=Ky ops a j:=by
 unfold yielded Ky
 cases ho:ops[j]? with
 |none=>rfl
 | some o=>
  cases hd:o.dst with
  |none=>simp[hd]
  | some d=>
   simp only[acf,hd];have hv:=h d (by simp[ho,hd]);simp only[AI.at,aal]at hv
   cases hx:a.t.get d with
   | none=>
    rw[hx]at hv
    cases hy:a'.tmps[d]? with
    |none=>rfl
    |some y=>
     rw[hy]at hv
     rcases hv.WZ with⟨b,h1,_⟩|⟨_,h2⟩
     ·simp[undef]at h1
     ·cases y<;>first|rfl|exact(h2 _ rfl).elim
   | some x=>
    rw[hx]at hv;simp only[abc]at hv
    cases hy:a'.tmps[d]? with
    |none=>
     rw[hy]at hv
     rcases hv.WZ with⟨b,_,h2⟩|⟨h1,_⟩
     ·simp[undef]at h2
     ·cases x<;>first|rfl|exact(h1 _ rfl).elim
    | some y=>
     rw[hy]at hv
     rcases hv.WZ with⟨b,h1,h2⟩|⟨h1,h2⟩
     ·simp only[abc]at h2;subst h1;subst h2;rfl
     ·simp only[abc]at h2
      cases x<;>first|exact(h1 _ rfl).elim|skip
      all_goals cases y<;>first|rfl|exact(h2 _ rfl).elim
theorem AR.yield{ρ:Bk}{a:AI}{a':Act}(h:AR ρ a a')(ops:Array Oper)(j:Nat):yielded ops a'.tmps j=Ky ops a j:=Zv ops j λd _=>h.tmps d
theorem AR.wanted{ρ:Bk}{a:AI}{a':Act}(h:AR ρ a a')(ops:Array Oper)(o:Oper):Region.wanted o (yielded ops a'.tmps)=DF ops o a:=by
 unfold Region.wanted DF
 cases o.guard with
 |none=>rfl
 |some p=>
  obtain⟨j,want⟩:=p;simp only[h.yield ops j]
  cases Ky ops a j<;>rfl
structure AFL(ρ:Bk)(p p':PanicEntry):Prop where
 v:AK ρ p.v p'.v
 r:p.recovered=p'.recovered
 g:p.goexit=p'.goexit
abbrev RE(ρ:Bk)(c c':List PanicEntry):Prop:=KC (AFL ρ) c c'
theorem RE.mono{ρ ρ':Bk}{c c':List PanicEntry}(h:RE ρ c c')(e:Ext ρ ρ'):RE ρ' c c':=forall₂_mono (λ_ _ x=>⟨x.v.mono e,x.r,x.g⟩) h
inductive fb(ρ:Bk):Exit→Exit→Prop
 |normal:fb ρ .normal .normal
 |exit (id:Nat):fb ρ (.exit id) (.exit id)
 |ret:fb ρ .ret .ret
 |panic {c c':List PanicEntry}:RE ρ c c'→fb ρ (.panic c) (.panic c')
inductive zS(ρ:Bk):Ending→Ending→Prop
 |returned {v v':Value}:AK ρ v v'→zS ρ (.returned v) (.returned v')
 |panicked {c c':List PanicEntry}:RE ρ c c'→zS ρ (.panicked c) (.panicked c')
def K3(P:Program)(w0:World)(ρ:Bk)(W:CW)(nt:Nat)(outs:List (Exit×AI×CW)):Exit→Act→World→Prop :=
 λe' a' w'=>∃e a W2 ρ2,(e,a,W2)∈outs∧Ef W ρ W2 ρ2∧fb ρ2 e e'∧ARx ρ2 e a a'∧AU P w0 ρ2 W2 w'∧a.nt=nt
def VK(P:Program)(w0:World)(ρ:Bk)(W:CW)(outs:List (Ending×CW)):Ending→World→Prop :=
 λe' w'=>∃e W2 ρ2,(e,W2)∈outs∧Ef W ρ W2 ρ2∧zS ρ2 e e'∧AU P w0 ρ2 W2 w'
theorem K3.mono{P:Program}{w0:World}{ρ ρ1:Bk}{W W1:CW}{nt:Nat}{m outs:List (Exit×AI×CW)}{e':Exit}{a':Act}{w':World}(h:K3 P w0 ρ1 W1 nt m e' a' w')
  (hg:Ef W ρ W1 ρ1) (hs:∀x,x∈m→x∈outs):K3 P w0 ρ W nt outs e' a' w' :=
 let ⟨e,a,W2,ρ2,h1,h2,h3,h4,h5,h6⟩:=h
 ⟨e,a,W2,ρ2,hs _ h1,hg.trans h2,h3,h4,h5,h6⟩
def Ex(P:Program)(f:FuncId):Prop:=∃fn,P.funcs[f]?=some fn
def F0(P:Program):Fence:={fn:=Ex P,depth:=none,alive:=false}
theorem AFM(P:Program)(n:Nat):(F0 P).room n:=λ_ h=>by simp[F0]at h
theorem ZI{n:Nat}{P:Program}{f:FuncId}{args:Array Value}{w:World}{R:Ending→World→Prop}(h:CallsIn (F0 P) n P f args w R):Calls P f args w R :=
 λcs=>let ⟨e,w',fr,r,s,x⟩:=h.2 cs (AFM P _);⟨e,w',fr,r,(by
  cases e with
  |returned v=>exact StepsIn.steps s
  |panicked chain=>exact StepsIn.steps s
  |outgrown=>exact s),x⟩
def B7(P:Program):Option Nat→Fence
 |none=>F0 P
 |some l=>(F0 P).inRound l
theorem IF{P:Program}(r:Option Nat){f:FuncId}(h:Ex P f):(B7 P r).fn f:=by cases r<;>exact h
theorem kf{P:Program}{r:Option Nat}{f:FuncId}(h:(B7 P r).fn f):Ex P f:=by cases r<;>exact h
theorem O9(P:Program)(r:Option Nat):(B7 P r).round=r:=by cases r<;>rfl
theorem O'(P:Program)(r:Option Nat):(B7 P r).depth=none:=by cases r<;>rfl
theorem O_{r:Option Nat}{n:Nat}{P:Program}{f:FuncId}{args:Array Value}{w:World}{R:Ending→World→Prop}(h:CallsIn (F0 P) n P f args w R):CallsIn (B7 P r) n P f args w R:=by
 cases r<;>exact h
def EN(P:Program):Prop:=∀f fn,P.funcs[f]?=some fn→fn.body.isSome=true→∀args w,(callFunc f args).run P w=.ok (.enter f args) w
inductive KO(ρ:Bk):Option Nat→Option Nat→Prop
 |none:KO ρ none none
 |some {l l':Nat}:NY ρ l l'→KO ρ (some l) (some l')
structure RS(P:Program)(w0:World)(tB:Nat→Bool→Code→Bool)(R:C5):Prop where
 eqv:∀u v,R.eqv u v=true→u=v
 ex:∀{f:FuncId} {args:List Value} {W:CW} {outs:List (Ending×CW)},R.call f args W=some outs→Ex P f
 code:∀{ro Hz:Option Nat} {fn:FuncId} {c:Code} {a:AI} {W:CW} {outs:List (Exit×AI×CW)} {ρ:Bk} {w:World} {a':Act},R.code ro fn c a W=some outs→KO ρ ro Hz→AR ρ a a'→AU P w0 ρ W w→
  tB a.nt ro.isSome c=true→∀n,c.wpIn (B7 P Hz) n P (K3 P w0 ρ W a.nt outs) a' w
 call:∀{f:FuncId} {args:List Value} {W:CW} {outs:List (Ending×CW)} {ρ:Bk} {w:World} {args':Array Value},R.call f args W=some outs→Ap ρ args args'.toList→AU P w0 ρ W w→
  (callFunc f args').run P w=.ok (.enter f args') w∧∀n,CallsIn (F0 P) n P f args' w (VK P w0 ρ W outs)
 round:∀{l l':Nat} {args:List Value} {W:CW} {outs:List (Ending×CW)} {ρ:Bk} {w:World} {args':Array Value},R.round l args W=some outs→NY ρ l l'→Ap ρ args args'.toList→AU P w0 ρ W w→
  ∃f t asz bd,(Instr.yield l' args').run P w=.ok (.round l' f t asz bd) w∧∀(r:Option Nat) n,RoundIn (B7 P r) n P l' f t asz bd w (VK P w0 ρ W outs)
theorem Zw{α β:Type}{f:α→Option (List β)}:∀{l:List α} {r:List β},QZ f l=some r→∀x,x∈l→∃m,f x=some m∧∀y,y∈m→y∈r
 |[],r,_,x,hx=>by cases hx
 | z::l,r,h,x,hx=>by
  simp only[QZ]at h
  cases hz:f z with
  |none=>rw[hz]at h;cases h
  | some lz=>
   rw[hz]at h
   cases hl:QZ f l with
   |none=>rw[hl]at h;cases h
   |some ll=>
    rw[hl]at h
    cases h
    rcases aaE.1 hx with rfl|hx
    ·exact⟨lz,hz,λy hy=>by simp[hy]⟩
    ·obtain⟨m,hm,hs⟩:=Zw hl x hx;exact⟨m,hm,λy hy=>by simp[hs y hy]⟩
theorem B5{α β:Type}{o:Option (List α)}{f:α→Option (List β)}{r:List β}(h:Dq o f=some r):∃l,o=some l∧∀x,x∈l→∃m,f x=some m∧∀y,y∈m→y∈r:=by
 cases o with
 |none=>cases h
 |some l=>exact⟨l,rfl,Zw h⟩
section
variable {P:Program}{w0:World}{tB:Nat→Bool→Code→Bool}{R:C5}
theorem Wb{o:Oper}{w:World}{e':Operand→Value}(h:∀c,o.op≠.call c):∀f,o.about P w e'=some f→Ex P f:=by
 intro f hf;unfold Oper.about at hf
 split at hf
 ·rename_i c hc;exact(h c hc).elim
 ·cases hf
theorem RF{o:Oper}{w:World}{e':Operand→Value}{c:Call}(hc:o.op=.call c){f:FuncId}(hf:o.about P w e'=some f):∃x,c.callee=.value x∨∃r n,c.callee=.invoke r n:=by
 unfold Oper.about at hf;rw[hc]at hf
 cases FO:c.callee with
 |value x=>exact⟨x,.inl rfl⟩
 |invoke r n=>exact⟨r,.inr ⟨r,n,rfl⟩⟩
 |builtin b=>
  simp only[resolve,FO,aak,Target.leads]at hf
  cases hf
theorem Wc{o:Oper}{w:World}{e':Operand→Value}{c:Call}(hc:o.op=.call c){x:Operand}(hx:c.callee=.value x){g:FuncId}{p q:Array Value}(hv:e' x=.func (.func g) p q){f:FuncId}(hf:o.about P w e'=some f):f=g:=by
 unfold Oper.about at hf;rw[hc]at hf;simp only[resolve,hx,hv,Deferred.ofValue,aak,Target.leads]at hf;exact(aa1 hf).symm
theorem fc{o:Oper}{w:World}{e':Operand→Value}{c:Call}(hc:o.op=.call c){x:Operand}(hx:c.callee=.value x){g:Nat}{p q:Array Value}(hv:e' x=.func (.yield g) p q){f:FuncId}(hf:o.about P w e'=some f):False:=by
 unfold Oper.about at hf;rw[hc]at hf;simp only[resolve,hx,hv,Deferred.ofValue,aak,Target.leads]at hf
 cases hf
theorem Nj{o:Oper}{w:World}{a':Act}(Aa:VC o=true)(hg:Qz P o=true)(hgd:o.guard≠none):∀f,o.about P w a'.eval=some f→Ex P f:=by
 intro f hf
 by_cases E8:∃c,o.op=.call c
 ·obtain⟨c,hc⟩:=E8
  obtain⟨x,hx|⟨r,n,hx⟩⟩:=RF hc hf
  ·unfold Qz at hg
   cases hgg:o.guard with
   |none=>exact(hgd hgg).elim
   | some p=>
    rw[hgg,hc]at hg;simp only[hx]at hg
    cases x with
    |func g=>
     have:=Wc hc hx (g:=g) (p:=#[]) (q:=#[]) rfl hf;subst this;exact aa8.1 hg
    |_=>cases hg
  ·unfold VC at Aa;rw[hc]at Aa;simp only[hx,Bool.and_false]at Aa
   cases Aa
 ·exact Wb (λc hc=>E8 ⟨c,hc⟩) f hf
theorem Nk{ρ:Bk}{W:CW}{w:World}{o:Oper}{e e':Operand→Value}{outs:List (BQ×CW)}(hc:BF P o e W=some outs)(Aa:VC o=true)(ZJ:∀x,x∈o.op.operands→Ak x=true→AK ρ (e x) (e' x))
  (hx:∀{f:FuncId} {args:List Value} {W1:CW},(BQ.enter f args,W1)∈outs→Ex P f):∀f,o.about P w e'=some f→Ex P f:=by
 intro f hf
 by_cases E8:∃c,o.op=.call c
 ·obtain⟨c,FO⟩:=E8
  obtain⟨x,SZ|⟨r,n,SZ⟩⟩:=RF FO hf
  ·have AIW:Ak x=true:=by
    unfold VC at Aa;rw[FO]at Aa;simp only[SZ,dy]at Aa;exact Aa.2
   have hv:=ZJ x (by rw[FO];simp[Op.operands,Call.operands,SZ]) AIW;simp only[BF,FO,SZ]at hc
   split at hc
   ·rename_i g asz OS;unfold JI at OS
    split at OS
    ·rename_i g1 p q he
     cases OS
     rw[he]at hv;generalize hq:e' x=y at hv
     cases hv with
     | func cD _ _ _ _=>
      cases cD
      have:=Wc FO SZ hq hf;subst this
      split at hc
      ·rename_i v W1 hce;unfold KJ at hce
       split at hce
       ·rename_i fn cD;exact⟨fn,cD⟩
       ·cases hce
      ·cases hc
       exact hx (dx.2 rfl)
    ·cases OS
    ·cases OS
   ·rename_i nx H0 OS;unfold JI at OS
    split at OS
    ·cases OS
     exact(H0 _ _ rfl).elim
    ·rename_i l p q he;rw[he]at hv;generalize hq:e' x=y at hv
     cases hv with
     |func cD _ _ _ _=>
      cases cD
      exact(fc FO SZ hq hf).elim
    ·cases OS
   ·cases hc
  ·unfold VC at Aa;rw[FO]at Aa;simp only[SZ,Bool.and_false]at Aa
   cases Aa
 ·exact Wb (λc hc=>E8 ⟨c,hc⟩) f hf
theorem Nl{ops:Array Oper}{o:Oper}{a:AI}(h:DF ops o a=false):o.guard≠none:=by
 intro hg;unfold DF at h;rw[hg]at h
 cases h
theorem HE{ρ:Bk}{W:CW}{o:Oper}{a':Act}{w:World}{outs:List (BQ×CW)}{Hz:Option Nat}{n:Nat}{K:Act→World→Prop}{Q:Exit→Act→World→Prop}(hR:RS P w0 tB R)
  (hab:∀f,o.about P w a'.eval=some f→Ex P f) (h:A3 P w0 ρ W ((execOp a'.eval o).run P w) outs) (hro:Hz=none∨∀c,o.op≠.defer c)
  (hv:∀{v v':Value} {W1:CW} {ρ1:Bk} {w1:World},(BQ.value v,W1)∈outs→Ef W ρ W1 ρ1→AK ρ1 v v'→AU P w0 ρ1 W1 w1→K (a'.put o.dst v') w1)
  (hs:∀{W1:CW} {ρ1:Bk} {w1:World},(BQ.skip,W1)∈outs→Ef W ρ W1 ρ1→AU P w0 ρ1 W1 w1→K (a'.put o.dst undef) w1)
  (hd:∀{d d':Deferred} {W1:CW} {ρ1:Bk} {w1:World},(BQ.defer d,W1)∈outs→Ef W ρ W1 ρ1→LW ρ1 d d'→AU P w0 ρ1 W1 w1→K ({a' with defers:=d'::a'.defers}.put o.dst undef) w1)
  (he:∀{f:FuncId} {args:List Value} {W1:CW},(BQ.enter f args,W1)∈outs→∃m,R.call f args W1=some m∧∀{ρ1:Bk},Ef W ρ W1 ρ1→∀e2 w2,VK P w0 ρ1 W1 m e2 w2→
   (∀v',e2=.returned v'→K (a'.put o.dst v') w2)∧∀c',e2=.panicked c'→Q (.panic c') a' w2)
  (hr:∀{l:Nat} {args:List Value} {W1:CW},(BQ.round l args,W1)∈outs→∃m,R.round l args W1=some m∧∀{ρ1:Bk},Ef W ρ W1 ρ1→∀e2 w2,VK P w0 ρ1 W1 m e2 w2→
   (∀v',e2=.returned v'→K (a'.put o.dst v') w2)∧∀c',e2=.panicked c'→Q (.panic c') a' w2)
  (fe:∀{W1:CW},(BQ.recover,W1)∉outs)
  (hp:∀{v v':Value} {W1:CW} {ρ1:Bk} {w1:World},(BQ.panic v,W1)∈outs→Ef W ρ W1 ρ1→AK ρ1 v v'→AU P w0 ρ1 W1 w1→Q (.panic [{v:=v',recovered:=false}]) a' w1) :
  o.wpIn (B7 P Hz) n P a' w K Q:=by
 refine⟨λf hf=>IF _ (hab f hf),?_⟩
 have AIX:o.semAt (B7 P Hz).round a'.eval=execOp a'.eval o:=by
  rw[O9]
  rcases hro with rfl|hro
  ·rfl
  ·exact Oper.semAt_eq _ _ _ hro
 rw[AIX];have AFN:(B7 P Hz).depth.isSome=true→1≤n:=by rw[O'];simp
 obtain⟨n0,W1,ρ1,hm,hg,hn⟩:=h
 cases hn with
 |value hr Iu I_=>rw[hr];exact hv hm hg Iu I_
 |skip hr I_=>rw[hr];exact hs hm hg I_
 | @enter f args args' w' hr ha I_=>
  rw[hr];obtain⟨m,Br,hk⟩:=he hm;obtain⟨h1,h2⟩:=hR.call Br ha I_;rw[h1];refine⟨AFN,O_ ((h2 (n-1)).mono λe2 w2 hE=>?_)⟩;have:=hk hg e2 w2 hE;obtain⟨e,W2,ρ2,_,_,hN,_⟩:=hE
  cases hN with
  |returned _=>exact this.1 _ rfl
  |panicked _=>exact this.2 _ rfl
 | @round l l' args args' w' KM hb ha I_=>
  rw[KM];obtain⟨m,Br,hk⟩:=hr hm;obtain⟨f,t,asz,bd,h1,h2⟩:=hR.round Br hb ha I_;rw[h1];refine⟨AFN,(h2 Hz (n-1)).mono λe2 w2 hE=>?_⟩;have:=hk hg e2 w2 hE;obtain⟨e,W2,ρ2,_,_,hN,_⟩:=hE
  cases hN with
  |returned _=>exact this.1 _ rfl
  |panicked _=>exact this.2 _ rfl
 |defer hr hd' I_=>rw[hr];exact hd hm hg hd' I_
 |recover _ _=>exact(fe hm).elim
 |panic hr Iu I_=>rw[hr];exact hp hm hg Iu I_
theorem AI.Bd(a:AI)(d:Option Tmp)(v:Value):(a.put d v).nt=a.nt:=by cases d<;>rfl
theorem AI.put_defers(a:AI)(d:Option Tmp)(v:Value):(a.put d v).defers=a.defers:=by cases d<;>rfl
theorem fg(hz:ZP P)(hR:RS P w0 tB R){ops:Array Oper}{Hz:Option Nat}{n:Nat}:∀(rest:List Oper) (i:Nat) (a:AI) (W:CW) (outs:List (Exit×AI×CW)) (ρ:Bk) (a':Act) (w:World) (Q:Exit→Act→World→Prop),
  ops.toList.drop i=rest→Fp P R ops rest a W=some outs→LU P a.nt Hz.isSome rest=true→AR ρ a a'→AU P w0 ρ W w→(∀e a2 w2,K3 P w0 ρ W a.nt outs e a2 w2→Q e a2 w2)→
  wpOpsIn (B7 P Hz) n P ops Q (List.range' i rest.length) a' w:=by
 intro rest
 induction rest with
 |nil=>
  intro i a W outs ρ a' w Q _ h _ ha hw hQ;simp only[Fp,aag]at h;subst h;exact hQ _ _ _ ⟨_,_,_,ρ,dx.2 rfl,.refl _,.normal,ha,hw,rfl⟩
 | cons o rest ih=>
  intro i a W outs ρ a' w Q Nm h Aa ha hw hQ
  have ho:ops[i]?=some o:=by
   have:ops.toList[i]?=some o:=by
    have:=ab8 (·[0]?) Nm
    simpa[abv]using this
   simpa using this
  have ML:ops.toList.drop (i+1)=rest:=by
   have:=ab8 List.tail Nm
   simpa using this
  simp only[LU,abp,dy]at Aa;obtain⟨⟨⟨⟨JA,qG⟩,ZK⟩,S_⟩,TA⟩:=Aa;have TA:∀{nt:Nat},nt=a.nt→LU P nt Hz.isSome rest=true:=λe=>by subst e;exact TA
  have hd:=PY ZK;simp only[aap,List.range'_succ,wpOpsIn,ho];rw[ha.wanted ops o];rw[Fp]at h
  cases HT:DF ops o a with
  |false=>
   rw[HT]at h;simp only at h;rw[aac (by simp)];refine⟨λf hf=>IF _ (Nj JA qG (Nl HT) f hf),?_⟩;refine ih (i+1) _ _ _ ρ _ _ Q ML h (TA (AI.Bd _ _ _)) (ha.put hd (.undef _)) hw λe a2 w2 hc=>hQ e a2 w2 ?_
   rwa[AI.Bd]at hc
  | true=>
   rw[HT]at h;simp only at h;rw[aad rfl];obtain⟨l,hl,Bv⟩:=B5 h;have hS:=RC (o:=o) hz JA (e:=a.eval) (e':=a'.eval) (λ_=>rfl) (λx _ hx=>ha.eval x hx) hw hl
   have hab:=Nk (w:=w) (e':=a'.eval) hl JA (λx _ hx=>ha.eval x hx) (λ{f args W1} hm=>by
    obtain⟨m,Br,_⟩:=Bv _ hm;obtain⟨m3,tC,_⟩:=B5 Br
    exact hR.ex tC)
   refine HE hR hab hS ?_ ?_ ?_ ?_ ?_ ?_ ?_ ?_
   ·simp only[aaQ,aaC]at S_
    rcases S_ with h1|h1
    ·left;cases Hz with
     |none=>rfl
     |some _=>cases h1
    ·right;intro c hc;unfold Qy at h1;rw[hc]at h1;cases h1
   ·intro v v' W1 ρ1 w1 hm hg hv Eg;obtain⟨m,Br,B0⟩:=Bv _ hm;refine ih (i+1) _ _ _ ρ1 _ _ Q ML Br (TA (AI.Bd _ _ _)) ((ha.mono hg.1).put hd hv) Eg λe a2 w2 hc=>hQ e a2 w2 (K3.mono ?_ hg B0)
    rwa[AI.Bd]at hc
   ·intro W1 ρ1 w1 hm hg Eg;obtain⟨m,Br,B0⟩:=Bv _ hm;refine ih (i+1) _ _ _ ρ1 _ _ Q ML Br (TA (AI.Bd _ _ _)) ((ha.mono hg.1).put hd (.undef _)) Eg λe a2 w2 hc=>hQ e a2 w2 (K3.mono ?_ hg B0)
    rwa[AI.Bd]at hc
   ·intro d d' W1 ρ1 w1 hm hg Ot Eg;obtain⟨m,Br,B0⟩:=Bv _ hm;have h1:=ha.mono hg.1;have hA:AR ρ1 {a with defers:=d::a.defers} {a' with defers:=d'::a'.defers}:=⟨h1.tmps,h1.size,.cons Ot h1.defers⟩
    refine ih (i+1) _ _ _ ρ1 _ _ Q ML Br (TA (AI.Bd _ _ _)) (hA.put hd (.undef _)) Eg λe a2 w2 hc=>hQ e a2 w2 (K3.mono ?_ hg B0)
    rwa[AI.Bd]at hc
   ·intro f args W1 hm;obtain⟨m,Br,B0⟩:=Bv _ hm;obtain⟨m3,tC,uV⟩:=B5 Br;refine⟨m3,tC,λ{ρ1} hg e2 w2 hE=>?_⟩;obtain⟨e,W2,ρ2,JB,NW,hN,Fq⟩:=hE;obtain⟨m4,uW,fh⟩:=uV _ JB
    refine⟨λv' he=>?_,λc' he=>?_⟩
    ·subst he
     cases hN with
     |returned hv=>
      refine ih (i+1) _ _ _ ρ2 _ _ Q ML uW (TA (AI.Bd _ _ _)) ((ha.mono (hg.trans NW).1).put hd hv) Fq λe a2 w2 hc=>hQ e a2 w2 (K3.mono ?_ (hg.trans NW) λx hx=>B0 x (fh x hx))
      rwa[AI.Bd]at hc
    ·subst he
     cases hN with
     | @panicked c _ Ic=>
      simp only[aag]at uW;subst uW;exact hQ _ _ _ ⟨_,_,_,ρ2,B0 _ (fh _ (dx.2 rfl)),hg.trans NW,.panic Ic,(ha.mono (hg.trans NW).1).w,Fq,rfl⟩
   ·intro f args W1 hm;obtain⟨m,Br,B0⟩:=Bv _ hm;obtain⟨m3,tC,uV⟩:=B5 Br;refine⟨m3,tC,λ{ρ1} hg e2 w2 hE=>?_⟩;obtain⟨e,W2,ρ2,JB,NW,hN,Fq⟩:=hE;obtain⟨m4,uW,fh⟩:=uV _ JB
    refine⟨λv' he=>?_,λc' he=>?_⟩
    ·subst he
     cases hN with
     |returned hv=>
      refine ih (i+1) _ _ _ ρ2 _ _ Q ML uW (TA (AI.Bd _ _ _)) ((ha.mono (hg.trans NW).1).put hd hv) Fq λe a2 w2 hc=>hQ e a2 w2 (K3.mono ?_ (hg.trans NW) λx hx=>B0 x (fh x hx))
      rwa[AI.Bd]at hc
    ·subst he
     cases hN with
     | @panicked c _ Ic=>
      simp only[aag]at uW;subst uW;exact hQ _ _ _ ⟨_,_,_,ρ2,B0 _ (fh _ (dx.2 rfl)),hg.trans NW,.panic Ic,(ha.mono (hg.trans NW).1).w,Fq,rfl⟩
   ·intro W1 hm;obtain⟨m,Br,_⟩:=Bv _ hm
    cases Br
   ·intro v v' W1 ρ1 w1 hm hg hv Eg;obtain⟨m,Br,B0⟩:=Bv _ hm;simp only[aag]at Br;subst Br;exact hQ _ _ _ ⟨_,_,_,ρ1,B0 _ (dx.2 rfl),hg,.panic (.cons ⟨hv,rfl,rfl⟩ .nil),(ha.mono hg.1).w,Eg,rfl⟩
end
theorem KQ{x y:Array Value}{P:Value→Value→Bool}(hs:Nat.beq x.size y.size=true)(h:(x.toList.zip y.toList).all (λ(v,w)=>P v w)=true)(hp:∀v w,P v w=true→v=w):x=y:=by
 have hs:=aab hs
 have key:∀(l m:List Value),l.length=m.length→(l.zip m).all (λ(v,w)=>P v w)=true→l=m:=by
  intro l
  induction l with
  |nil=>intro m hm _;cases m with
   |nil=>rfl
   |cons _ _=>simp at hm
  | cons v l ih=>
   intro m hm Bv
   cases m with
   |nil=>simp at hm
   |cons w m=>
    simp only[abj,abp,dy]at Bv;rw[hp _ _ Bv.1,ih m (by simpa using hm) Bv.2]
 have:=key x.toList y.toList (by simpa using hs) h;exact acE this
theorem HF:∀(n:Nat) (v w:Value),bo n v w=true→v=w:=by
 intro n
 induction n with
 |zero=>intro v w h;simp[bo]at h
 | succ n ih=>
  intro v w h;unfold bo at h;split at h<;>first|(exact(ac7 h).elim)|skip
  all_goals (try simp only[dy]at h)
  all_goals first
   |rfl
   |(have:=eq_of_beq h;subst this;rfl)
   |(have:=LX h;subst this;rfl)
   |(obtain⟨h1,h2⟩:=h;have h1:=of_decide_eq_true h1;have h2:=eq_of_beq h2;subst h1;subst h2;rfl)
   |(obtain⟨h1,h2⟩:=h;have h1:=aab h1;have h2:=aab h2;subst h1;subst h2;rfl)
   |(obtain⟨⟨⟨h1,h2⟩,h3⟩,h4⟩:=h;have h1:=aab h1;have h2:=aab h2;have h3:=aab h3;have h4:=aab h4;subst h1;subst h2;subst h3;subst h4;rfl)
   |(have h:=aab h;subst h;rfl)
   |(obtain⟨h1,h2⟩:=h;have h1:=aab h1;have h2:=ih _ _ h2;subst h1;subst h2;rfl)
   |(obtain⟨h1,h2⟩:=h;rw[KQ h1 h2 (λv w=>ih v w)])
   |(obtain⟨⟨⟨⟨h1,h2⟩,h3⟩,h4⟩,h5⟩:=h;have h1:=aab h1;rw[h1,KQ h2 h4 (λv w=>ih v w),KQ h3 h5 (λv w=>ih v w)])
theorem uX:∀{xs ys:List Value},ABu xs ys=true→xs=ys:=by
 intro xs ys h;simp only[ABu,dy]at h;have:=KQ (x:=xs.toArray) (y:=ys.toArray) (P:=bo 8) (by simpa using h.1) (by simpa using h.2) (λv w=>HF 8 v w)
 simpa using ab8 Array.toList this
theorem kg{a b:Option Value}(h:ABv a b=true):a=b:=by
 cases a<;>cases b<;>first|rfl|(simp[ABv]at h;done)|skip
 rw[HF 8 _ _ h]
theorem qH:∀(n:Nat) (a b:Tr Value),teq n a b=true→a=b:=by
 intro n
 induction n with
 |zero=>intro a b h;cases a<;>cases b<;>first|rfl|simp[teq]at h
 |succ n ih=>
  intro a b h
  cases a<;>cases b<;>first|rfl|(simp[teq]at h;done)|skip
  simp only[teq,dy]at h;rw[kg h.1.1,ih _ _ h.1.2,ih _ _ h.2]
theorem qI{a b:MapEntry}(h:meq a b=true):a=b:=by
 simp only[meq,dy]at h;obtain⟨k,v,n⟩:=a;obtain⟨k',v',n'⟩:=b;have h1:=HF 8 _ _ h.1.1;have h2:=HF 8 _ _ h.1.2;have h3:=aab h.2;simp only at h1 h2 h3;rw[h1,h2,h3]
theorem kh{a b:Am}(h:ABw a b=true):a=b:=by
 unfold ABw at h
 split at h<;>first|(cases h;done)|skip
 ·simp only[dy]at h;obtain⟨⟨⟨h1,h2⟩,h3⟩,h4⟩:=h;have h1:=aab h1;have h2:=aab h2;have h3:=acE (uX h3);have h4:=qH _ _ _ h4;rw[h1,h2,h3,h4]
 ·rename_i es k CO k';simp only[dy]at h;obtain⟨⟨h1,h2⟩,h3⟩:=h;have h1:=aab h1;have h2:=aab h2
  have key:∀(l m:List MapEntry),l.length=m.length→((l.zip m).all λ(a,b)=>meq a b)=true→l=m:=by
   intro l
   induction l with
   |nil=>intro m hm _;cases m with
    |nil=>rfl
    |cons _ _=>simp at hm
   | cons v l ih=>
    intro m hm Bv
    cases m with
    |nil=>simp at hm
    |cons w m=>
     simp only[abj,abp,dy]at Bv;rw[qI Bv.1,ih m (by simpa using hm) Bv.2]
  rw[h1,key es CO h2 h3]
 ·rfl
def Wd(W We:CW):Prop:=(∀i o,W.h.get i=some o→We.h.get i=some o)∧We.sz≤W.sz
theorem Zx:∀(n:Nat) (a b:Tr Am) (i:Nat) (o:Am),(UO n a b).get i=some o→a.get i=some o∧b.get i=some o:=by
 intro n
 induction n with
 |zero=>intro a b i o h;simp[UO,Tr.get_nil]at h
 | succ n ih=>
  intro a b i o h
  cases a with
  |nil=>simp[UO,Tr.get_nil]at h
  | node l v r=>
   cases b with
   |nil=>simp[UO,Tr.get_nil]at h
   | node l' v' r'=>
    simp only[UO]at h;rw[Tr.Gl]at h ⊢;rw[Tr.Gl]
    split at h
    ·rename_i hi;simp only[aad hi]
     cases v<;>cases v'<;>simp only[ABL]at h<;>first|(cases h;done)|skip
     rw[cond_eq_ite]at h
     split at h
     ·rename_i hc
      cases h
      rw[kh hc];exact⟨rfl,rfl⟩
     ·cases h
    ·rename_i hi;simp only[aac hi]
     split at h
     ·rename_i hm;simp only[aad hm];exact ih _ _ _ _ h
     ·rename_i hm;simp only[aac hm];exact ih _ _ _ _ h
theorem fi(W W':CW):Wd (meet W W') W∧Wd (meet W W') W' :=
 ⟨⟨λi o h=>(Zx _ _ _ i o h).1,aa9 _ _⟩,⟨λi o h=>(Zx _ _ _ i o h).2,aaZ _ _⟩⟩
theorem Wd.refl(W:CW):Wd W W:=⟨λ_ _ h=>h,aaf _⟩
theorem Wd.trans{W W1 W2:CW}(h:Wd W W1)(k:Wd W1 W2):Wd W W2:=⟨λi o x=>k.1 i o (h.1 i o x),abh k.2 h.2⟩
theorem RG:∀{m:List (Ending×CW)} {v:Value} {W:CW},Jq m=some (v,W)→∀e We,(e,We)∈m→e=.returned v∧Wd W We
 |[],v,W,h,e,We,hm=>by cases hm
 |[(.returned u,W1)],v,W,h,e,We,hm=>by
  simp only[Jq,aag,aar]at h;obtain⟨rfl,rfl⟩:=h;simp only[dx,aar]at hm;obtain⟨rfl,rfl⟩:=hm;exact⟨rfl,.refl _⟩
 | (.returned u,W1)::x::rest,v,W,h,e,We,hm=>by
  simp only[Jq]at h
  cases hr:Jq (x::rest)with
  |none=>rw[hr]at h;cases h
  | some p=>
   obtain⟨u',W'⟩:=p;rw[hr]at h;simp only[cond_eq_ite]at h
   split at h
   ·rename_i hv;have hv:=HF 8 _ _ hv;simp only[aag,aar]at h;obtain⟨rfl,rfl⟩:=h
    rcases aaE.1 hm with h1|h1
    ·simp only[aar]at h1;obtain⟨rfl,rfl⟩:=h1;exact⟨rfl,(fi _ _).1⟩
    ·obtain⟨h2,h3⟩:=RG hr e We h1;exact⟨by rw[h2,hv],(fi W1 W').2.trans h3⟩
   ·cases h
 |(.panicked _,_)::[],_,_,h,_,_,_=>by simp[Jq]at h
 |(.panicked _,_)::_::_,_,_,h,_,_,_=>by simp[Jq]at h
 |(.outgrown,_)::[],_,_,h,_,_,_=>by simp[Jq]at h
 |(.outgrown,_)::_::_,_,_,h,_,_,_=>by simp[Jq]at h
section
variable {P:Program}{w0:World}{ρ:Bk}{W:CW}{w:World}
theorem AU.sub{We:CW}(h:AU P w0 ρ We w)(hs:Wd W We):AU P w0 ρ W w :=
 ⟨λi x hx=>abC (h.VF i x hx) hs.2,λi o ho=>abC (h.top i o (hs.1 i o ho)) hs.2,λi o x ho hd hx=>h.live i o x (hs.1 i o ho) hd hx,
  λi j o u x y ho hd hu s6=>h.inj i j o u x y (hs.1 i o ho) hd (hs.1 j u hu) s6,h.below⟩
theorem MM{m:List (Ending×CW)}{v:Value}{W2:CW}(h:merged (some m)=some [(.returned v,W2)]){W1:CW}{e2:Ending}{w2:World}(hE:VK P w0 ρ W1 m e2 w2) :
  ∃v' ρ2,e2=.returned v'∧Ef W1 ρ W2 ρ2∧AK ρ2 v v'∧AU P w0 ρ2 W2 w2:=by
 obtain⟨e,We,ρ2,hm,hg,hN,hw⟩:=hE
 have key:e=.returned v∧Wd W2 We:=by
  unfold merged at h
  split at h
  ·rename_i x y l heq
   cases heq
   cases hme:Jq (x::y::l)with
   |none=>rw[hme]at h;cases h
   |some p=>
    obtain⟨u,W'⟩:=p;rw[hme]at h;simp only[aag,abK,aar,Ending.returned.injEq,and_true]at h;obtain⟨rfl,rfl⟩:=h;exact RG hme e We hm
  ·cases h
   simp only[dx,aar]at hm;obtain⟨rfl,rfl⟩:=hm;exact⟨rfl,.refl _⟩
 obtain⟨rfl,hs⟩:=key
 cases hN with
 |returned hv=>exact⟨_,ρ2,rfl,⟨hg.1,hg.2.1,abh hg.2.2 hs.2⟩,hv,hw.sub hs⟩
end
theorem Ih{l:List Nat}{i:Nat}:CB l i=true↔i∈l:=by
 simp only[CB,aaH]
 constructor
 ·rintro⟨x,hx,h⟩;have:=aab h;subst this;exact hx
 ·intro h;exact⟨i,h,by simp⟩
theorem Wf:∀{xs l:List Nat} {x:Nat},x∈bj l xs→x∈l∨x∈xs
 |[],l,x,h=>.inl h
 | y::ys,l,x,h=>by
  simp only[bj]at h
  rcases Wf h with h|h
  ·rw[cond_eq_ite]at h
   split at h
   ·exact .inl h
   ·rcases aaB.1 h with h|h
    ·exact .inl h
    ·right;rw[dx.1 h];simp
  ·exact .inr (by simp[h])
theorem fj{ops:Array Oper}{L:Nat→Prop}(hc:∀i,L i→∀p,p∈ec ops i→L p):∀(f:Nat) (l:List Nat),(∀x,x∈l→L x)→∀x,x∈zG ops f l→L x
 |0,l,h,x,hx=>h x hx
 | f+1,l,h,x,hx=>by
  simp only[zG,cond_eq_ite]at hx
  split at hx
  ·exact h x hx
  ·refine fj hc f _ (λy hy=>?_) x hx
   rcases Wf hy with hy|hy
   ·exact h y hy
   ·obtain⟨z,hz,tr⟩:=abo.1 hy;exact hc z (h z hz) y tr
theorem HU{ops:Array Oper}{L:Nat→Prop}(hc:∀i,L i→∀p,p∈ec ops i→L p){i:Nat}(hi:∀p,p∈ec ops i→L p){j:Nat}(h:CB (Gh ops i) j=true):L j :=
 fj hc _ _ hi j (Ih.1 h)
section TT
variable (dst:Nat→Option Tmp)(val:Nat→Value)(base:Nat→Value)
def TT(L:Nat→Bool):Nat→Nat→Value
 |0,d=>base d
 |k+1,d=>if L k=true∧dst k=some d then val k else TT L k d
variable {dst val base}
theorem RH{L L':Nat→Bool}{d:Nat}:∀{k:Nat},(∀j,j<k→dst j=some d→L j=L' j)→TT dst val base L k d=TT dst val base L' k d
 |0,_=>rfl
 |k+1,h=>by
  simp only[TT];have ih:=RH (k:=k) (L:=L) (L':=L') λj hj=>h j (by omega)
  by_cases hd:dst k=some d
  ·rw[h k (by omega) hd,ih]
  ·rw[aac (λh=>hd h.2),aac (λh=>hd h.2),ih]
theorem Wg{L:Nat→Bool}{d:Nat}{i:Nat}:∀{k:Nat},i≤k→(∀j,i≤j→j<k→dst j=some d→L j=false)→TT dst val base L k d=TT dst val base L i d
 |0,h,_=>by have:i=0:=(by omega);subst this;rfl
 |k+1,h,hl=>by
  by_cases e:i=k+1
  ·subst e;rfl
  ·rw[TT,aac (λhh=>by have:=hl k (by omega) (by omega) hh.2;rw[this]at hh;cases hh.1)];exact Wg (by omega) λj h1 h2=>hl j h1 (by omega)
theorem zU{L:Nat→Bool}{d i n:Nat}(hi:i≤n)(h1:∀j,j<i→dst j=some d→L j=true)(h2:∀j,i≤j→j<n→dst j=some d→L j=false) :
  TT dst val base L n d=TT dst val base (λ_=>true) i d:=by
 rw[Wg hi h2];exact RH λj hj hd=>h1 j hj hd
theorem AB8{L L':Nat→Bool}{i n:Nat}(hi:i<n)(hL:∀j,L' j=true↔(L j=true∨j=i))(h:∀j,i<j→j<n→dst i≠none→dst j=dst i→L j=false)(d:Nat) :
  TT dst val base L' n d=if dst i=some d then val i else TT dst val base L n d:=by
 by_cases hd:dst i=some d
 ·rw[aad hd]
  rw[Wg (i:=i+1) (by omega) λj h1 h2 cK=>?_]
  ·rw[TT,aad ⟨(hL i).2 (.inr rfl),hd⟩]
  ·have:=h j (by omega) h2 (by rw[hd];simp) (by rw[cK,hd])
   cases hx:L' j with
   |false=>rfl
   |true=>
    rcases(hL j).1 hx with h3|h3
    ·rw[this]at h3;cases h3
    ·omega
 ·rw[aac hd];refine RH λj hj cK=>?_;have Dg:j≠i:=λe=>hd (by rw[←e];exact cK)
  cases hx:L j with
  |true=>exact(hL j).2 (.inl hx)
  | false=>
   cases hy:L' j with
   |false=>rfl
   |true=>
    rcases(hL j).1 hy with h3|h3
    ·rw[hx]at h3;cases h3
    ·exact(Dg h3).elim
end TT
def gw:List (Nat×CW)→CW→CW
 |[],W=>W
 |(_,Wq)::A,_=>gw A Wq
theorem Um{ops:Array Oper}{i:Nat}{an:List Nat}{ok:CW→Bool}:∀{A B:List (Nat×CW)} {W:CW},DJ ops i an ok (A++B) W=true→(∀x,x∈A→CB an x.1=false)→
  (∀j Wj B',B=(j,Wj)::B'→anc ops j i=false)→ok (gw A W)=true
 | [],B,W,h,_,hb=>by
  simp only[abf]at h
  cases B with
  |nil=>exact h
  |cons x B=>
   obtain⟨j,Wj⟩:=x;simp only[DJ,dy,aaQ]at h
   rcases h.1 with h1|h1
   ·rw[hb j Wj B rfl]at h1;cases h1
   ·exact h1
 |(q,Wq)::A,B,W,h,ha,hb=>by
  simp only[aci,DJ,dy]at h;have hq:=ha (q,Wq) (by simp);simp only at hq;rw[hq]at h;simp only[cond_false]at h;exact Um (A:=A) (B:=B) (W:=Wq) h.2 (λx hx=>ha x (by simp[hx])) hb
section run
variable (P:Program)
inductive Fs(R:C5)(ops:Array Oper)(fl:List (Nat×Value×Option Am))(nv:Nat→Bool)(i:Nat)(o:Oper)(s s':FE)(v:Value):Prop
 |never:nv i=true→v=undef→s'={s with a:=s.a.put o.dst v}→Fs R ops fl nv i o s s' v
 |float (ob:Option Am):(i,v,ob)∈fl→G1 P R.eqv o s.a v ob=true→s'={s with a:=s.a.put o.dst v}→Fs R ops fl nv i o s s' v
 |off:(∀x,x∈fl→x.1≠i)→EI ops o s.a=some false→v=undef→s'={s with a:=s.a.put o.dst v}→Fs R ops fl nv i o s s' v
 |pure (W1:CW):(∀x,x∈fl→x.1≠i)→EI ops o s.a=some true→C1 P o=true→BF P o s.a.eval s.W=some [(.value v,W1)]→s'={s with a:=s.a.put o.dst v}→Fs R ops fl nv i o s s' v
 |read (W1:CW):(∀x,x∈fl→x.1≠i)→EI ops o s.a=some true→DU P o=true→BF P o s.a.eval s.W=some [(.value v,W1)]→s'={s with a:=s.a.put o.dst v,rd:=(i,o,s.a,v)::s.rd}→Fs R ops fl nv i o s s' v
 |value (W1:CW):(∀x,x∈fl→x.1≠i)→EI ops o s.a=some true→Sv P o=true→BF P o s.a.eval s.W=some [(.value v,W1)]→s'={s with a:=s.a.put o.dst v,W:=W1,ws:=(i,s.W)::s.ws}→Fs R ops fl nv i o s s' v
 |skip (W1:CW):(∀x,x∈fl→x.1≠i)→EI ops o s.a=some true→Sv P o=true→BF P o s.a.eval s.W=some [(.skip,W1)]→v=undef→s'={s with a:=s.a.put o.dst v,W:=W1,ws:=(i,s.W)::s.ws}→Fs R ops fl nv i o s s' v
 | call (f:FuncId) (args:List Value) (W1 W2:CW) (m:List (Ending×CW)):(∀x,x∈fl→x.1≠i)→EI ops o s.a=some true→Sv P o=true→BF P o s.a.eval s.W=some [(.enter f args,W1)]→R.call f args W1=some m→merged (some m)=some [(.returned v,W2)]→
   s'={s with a:=s.a.put o.dst v,W:=W2,ws:=(i,s.W)::s.ws}→Fs R ops fl nv i o s s' v
 | round (l:Nat) (args:List Value) (W1 W2:CW) (m:List (Ending×CW)):(∀x,x∈fl→x.1≠i)→EI ops o s.a=some true→Sv P o=true→BF P o s.a.eval s.W=some [(.round l args,W1)]→R.round l args W1=some m→merged (some m)=some [(.returned v,W2)]→
   s'={s with a:=s.a.put o.dst v,W:=W2,ws:=(i,s.W)::s.ws}→Fs R ops fl nv i o s s' v
variable {P}
theorem KR{o:Ends}{r:List (Ending×CW)}(h:merged o=some r):∃m,o=some m:=by
 cases o with
 |none=>cases h
 |some m=>exact⟨m,rfl⟩
theorem PA{R:C5}{nv:Nat→Bool}{ops:Array Oper}{fl:List (Nat×Value×Option Am)}{i:Nat}{o:Oper}{s s':FE}(h:BX P R ops fl i o s=some s'):∃v,Fs P R ops fl nv i o s s' v:=by
 unfold BX at h
 split at h
 ·rename_i x v ob hf;rw[cond_eq_ite]at h;split at h
  rotate_left
  ·cases h
  rename_i LM
  cases h
  have h1:=List.find?_some hf;have h2:=ab3 hf;have:x=i:=aab h1;subst this;exact⟨v,.float ob h2 LM rfl⟩
 ·rename_i hf
  have H0:∀x,x∈fl→x.1≠i:=λx hx he=>by
   have:=abZ.1 hf x hx;rw[he]at this;simp at this
  split at h
  ·cases h
  ·rename_i hw
   cases h
   exact⟨undef,.off H0 hw rfl rfl⟩
  ·rename_i hw;rw[cond_eq_ite]at h
   split at h
   ·rename_i hp
    split at h
    ·rename_i v W1 hc;cases h;exact⟨v,.pure W1 H0 hw hp hc rfl⟩
    ·cases h
   ·rename_i hp;rw[cond_eq_ite]at h
    split at h
    ·rename_i hr
     split at h
     ·rename_i v W1 hc;cases h;exact⟨v,.read W1 H0 hw hr hc rfl⟩
     ·cases h
    ·rename_i hr;have Nn:Sv P o=true:=by simp[Sv,hp,hr]
     split at h
     ·rename_i v W1 hc;cases h;exact⟨v,.value W1 H0 hw Nn hc rfl⟩
     ·rename_i W1 hc;cases h;exact⟨undef,.skip W1 H0 hw Nn hc rfl rfl⟩
     ·rename_i f args W1 hc
      split at h
      ·rename_i v W2 hm
       cases h
       obtain⟨m,Br⟩:=KR hm;rw[Br]at hm;exact⟨v,.call f args W1 W2 m H0 hw Nn hc Br hm rfl⟩
      ·cases h
     ·rename_i l args W1 hc
      split at h
      ·rename_i v W2 hm
       cases h
       obtain⟨m,Br⟩:=KR hm;rw[Br]at hm;exact⟨v,.round l args W1 W2 m H0 hw Nn hc Br hm rfl⟩
      ·cases h
     ·cases h
def HG(F:Nat→Oper→FE→Option FE)(ops:Array Oper)(s0:FE):Nat→Option FE
 |0=>some s0
 |k+1=>match HG F ops s0 k,ops[k]? with
  |some s,some o=>F k o s
  |_,_=>none
theorem Zy{ops:Array Oper}{i:Nat}{o:Oper}{rest:List Oper}(hd:ops.toList.drop i=o::rest):ops[i]?=some o∧ops.toList.drop (i+1)=rest:=by
 refine⟨?_,by simpa using ab8 List.tail hd⟩
 have:ops.toList[i]?=some o:=by
  have:=ab8 (·[0]?) hd
  simpa[abv]using this
 simpa using this
theorem PB{F:Nat→Oper→FE→Option FE}{ops:Array Oper}{s0 sf:FE}:∀(rest:List Oper) (i:Nat) (s:FE),ops.toList.drop i=rest→HG F ops s0 i=some s→
  C6 F i rest s=some sf→HG F ops s0 (i+rest.length)=some sf∧∀k,i≤k→k≤i+rest.length→(HG F ops s0 k).isSome=true
 |[],i,s,_,hs,h=>by
  simp only[C6,aag]at h;subst h;exact⟨hs,λk h1 h2=>by have:k=i:=(by simpa using Nat.le_antisymm h2 h1);subst this;rw[hs];rfl⟩
 | o::rest,i,s,hd,hs,h=>by
  obtain⟨ho,hd'⟩:=Zy hd;simp only[C6]at h
  cases D1:F i o s with
  |none=>rw[D1]at h;cases h
  |some s1=>
   rw[D1]at h;have WY:HG F ops s0 (i+1)=some s1:=by simp only[HG,hs,ho,D1]
   obtain⟨h1,h2⟩:=PB rest (i+1) s1 hd' WY h;have e:i+(o::rest).length=i+1+rest.length:=by simp;omega
   refine⟨by rw[e];exact h1,λk fk qE=>?_⟩
   by_cases hki:k=i
   ·subst hki;rw[hs];rfl
   ·exact h2 k (by omega) (by omega)
theorem Zz{R:C5}{ops:Array Oper}{fl:List (Nat×Value×Option Am)}:∀(rest:List Oper) (i:Nat) (s:FE),EJ P R ops fl i rest s=C6 (BX P R ops fl) i rest s
 |[],i,s=>rfl
 |o::rest,i,s=>by
  simp only[EJ,C6]
  cases BX P R ops fl i o s with
  |none=>rfl
  |some s=>exact Zz rest (i+1) s
theorem Wh{R:C5}{ops:Array Oper}{fl:List (Nat×Value×Option Am)}{nv:Nat→Bool}{F:Nat→Oper→FE→Option FE}(hF:∀i o s s',F i o s=some s'→∃v,Fs P R ops fl nv i o s s' v){s0 sf:FE}(h:C6 F 0 ops.toList s0=some sf) :
  ∃(st:Nat→FE) (val:Nat→Value),st 0=s0∧st ops.size=sf∧(∀i o,ops[i]?=some o→Fs P R ops fl nv i o (st i) (st (i+1)) (val i))∧∀i,i≤ops.size→HG F ops s0 i=some (st i):=by
 obtain⟨h1,h2⟩:=PB ops.toList 0 s0 rfl rfl h;simp only[aa0,abF]at h1 h2
 have M1:∀i o,ops[i]?=some o→∃v,Fs P R ops fl nv i o ((HG F ops s0 i).getD s0) ((HG F ops s0 (i+1)).getD s0) v:=by
  intro i o ho;have hi:i<ops.size:=(aao.1 ho).1;obtain⟨s,hs⟩:=aa8.1 (h2 i (aa7 _) (by omega));obtain⟨s',Oq⟩:=aa8.1 (h2 (i+1) (aa7 _) (by omega))
  have hd:F i o s=some s':=by
   have:=Oq;simp only[HG,hs,ho]at this;exact this
  rw[hs,Oq];exact hF _ _ _ _ hd
 have Ht:∀i,∃v,∀o,ops[i]?=some o→Fs P R ops fl nv i o ((HG F ops s0 i).getD s0) ((HG F ops s0 (i+1)).getD s0) v:=by
  intro i
  cases ho:ops[i]? with
  |none=>exact⟨undef,λo h=>by cases h⟩
  |some o=>
   obtain⟨v,hv⟩:=M1 i o ho;exact⟨v,λo' h=>by cases h;exact hv⟩
 obtain⟨val,Ht⟩:=Classical.axiomOfChoice Ht;refine⟨λi=>(HG F ops s0 i).getD s0,val,rfl,by show(HG F ops s0 ops.size).getD s0=sf;rw[h1];rfl,λi o ho=>Ht i o ho,λi hi=>?_⟩;obtain⟨s,hs⟩:=aa8.1 (h2 i (aa7 _) hi);show HG F ops s0 i=some ((HG F ops s0 i).getD s0);rw[hs];rfl
theorem PC{R:C5}{ops:Array Oper}{fl:List (Nat×Value×Option Am)}{F:Nat→Oper→FE→Option FE}{s0:FE}{i0:Nat}{ch:List PanicEntry}{W2:CW}(hF:∀i o s,i<i0→F i o s=BX P R ops fl i o s):∀(rest:List Oper) (i:Nat) (s:FE),ops.toList.drop i=rest→HG F ops s0 i=some s→
  EK P R ops fl i rest s=some (i0,ch,W2)→i≤i0∧∃o s1,ops[i0]?=some o∧HG F ops s0 i0=some s1∧Ek P R ops fl i0 o s1=some (ch,W2)
 |[],i,s,_,_,h=>by cases h
 | o::rest,i,s,hd,hs,h=>by
  obtain⟨ho,hd'⟩:=Zy hd;simp only[EK]at h
  split at h
  ·rename_i ch1 W1 hp
   cases h
   exact⟨aaf _,o,s,ho,hs,hp⟩
  ·split at h
   ·rename_i s1 D1;have hle:i+1≤i0:=nm rest h;have WY:HG F ops s0 (i+1)=some s1:=by simp only[HG,hs,ho];rw[hF _ _ _ (by omega)];exact D1
    obtain⟨h1,h2⟩:=PC hF rest (i+1) s1 hd' WY h;exact⟨by omega,h2⟩
   ·cases h
where
 nm {R:C5} {ops:Array Oper} {fl:List (Nat×Value×Option Am)} {i0:Nat} {ch:List PanicEntry} {W2:CW}:∀(rest:List Oper) {i:Nat} {s:FE},EK P R ops fl i rest s=some (i0,ch,W2)→i≤i0
  |[],i,s,h=>by cases h
  | o::rest,i,s,h=>by
   simp only[EK]at h
   split at h
   ·cases h;exact aaf _
   ·split at h
    ·have:=nm rest h;omega
    ·cases h
theorem km{R:C5}{ops:Array Oper}{fl:List (Nat×Value×Option Am)}{i0:Nat}:∀i o s s',Hy P R ops fl i0 i o s=some s'→∃v,Fs P R ops fl (NH ops i0) i o s s' v:=by
 intro i o s s' h;unfold Hy at h;rw[cond_eq_ite]at h
 split at h
 ·rename_i hn;cases h;exact⟨undef,.never hn rfl rfl⟩
 ·exact PA h
theorem fm{x:Option Value}{W W':CW}{v:BQ}(h:(match x with|some v=>some [(BQ.value v,W)]|none=>none)=some [(v,W')]):W'=W:=by
 obtain⟨u,_,he⟩:=FF h;simp only[abK,aar,and_true]at he;exact he.2
theorem uY{o:Oper}(hp:DU P o=true){e:Operand→Value}{W W1:CW}{v:BQ}(h:BF P o e W=some [(v,W1)]):W1=W:=by
 unfold DU at hp;split at hp
 case h_1 ho=>simp only[BF,ho]at h;exact fm h
 case h_2 ho=>simp only[BF,ho]at h;exact fm h
 case h_3 ho=>simp only[BF,ho]at h;exact fm h
 case h_4 ho=>simp only[BF,ho]at h;exact fm h
 case h_5 c ho=>
  split at hp
  ·rename_i hc;simp only[BF,ho,hc]at h
   split at h
   ·rename_i r hr
    cases h
    unfold Jp at hr;split at hr<;>first|(cases hr;done)|skip
    all_goals first
     |(rename_i AB9 _;cases AB9;done)
     |(rename_i AB9 _ _;cases AB9;done)
     |(cases hr;rfl)
     |(rw[aaw]at hr;obtain⟨_,_,he⟩:=hr;cases he;rfl)
   ·cases h
  ·cases hp
 case h_6 s d x ho=>
  simp only[dy]at hp;obtain⟨h1,h2⟩:=hp
  split at h1
  ·rename_i el hs
   split at h2
   ·rename_i hd;simp only[BF,ho,hs,hd]at h
    split at h
    ·rename_i hh _;cases hh
    ·cases h;rfl
    ·rename_i hh _;cases hh
    ·exact fm h
    ·cases h
   ·cases h2
  ·cases h1
 case h_7=>cases hp
theorem uZ{o:Oper}(hp:C1 P o=true){e:Operand→Value}{W W1:CW}{v:Value}(h:BF P o e W=some [(.value v,W1)])(W':CW):BF P o e W'=some [(.value v,W')]:=by
 unfold C1 at hp;split at hp
 case h_17=>cases hp
 case h_1 ho=>simp only[BF,ho]at h ⊢;simp_all
 case h_2 ho=>simp only[BF,ho]at h ⊢;simp_all
 case h_3 ho=>
  simp only[BF,ho]at h ⊢
  split at h
  ·rename_i hc;simp_all
  ·cases h
 case h_9 ho=>simp only[BF,ho]at h ⊢;simp_all
 case h_16 s d x ho=>
  simp only[dy]at hp;obtain⟨h1,h2⟩:=hp;simp only[BF,ho]at h ⊢
  split at h
  ·rename_i hs hd hx
   cases h;rfl
  ·rename_i hs hd hx
   cases h;rfl
  ·rename_i hs hd hx;rw[hd]at h2;cases h2
  ·rename_i hs hd _;rw[hs]at h1;cases h1
  ·cases h
 case h_7 u t x ho=>
  cases u<;>simp only[BF,ho]at h<;>first|(cases h;done)|skip
  all_goals
   obtain⟨u,hu,he⟩:=FF h;simp only[abK,aar,BQ.value.injEq,and_true]at he;obtain⟨rfl,rfl⟩:=he;simp only[BF,ho];rw[hu]
 all_goals
  rename_i ho;simp only[BF,ho]at h
  first
   | (
     obtain⟨u,hu,he⟩:=FF h;simp only[abK,aar,BQ.value.injEq,and_true]at he;obtain⟨rfl,rfl⟩:=he;simp only[BF,ho]
     rw[hu])
   |skip
end run
section
variable {P:Program}{w0:World}{ρ:Bk}{W:CW}{w:World}
theorem AU.pre(h:AU P w0 ρ W w)(o:Am):AU P w0 ρ (W.new o) w:=by
 have old:∀i u x,(W.new o).h.get i=some u→ρ i=some x→W.h.get i=some u:=λi u x hu hx=>by
  have:=h.VF i x hx;simp only[CW.new,Tr.Bc]at hu;rw[aac (by omega)]at hu;exact hu
 refine⟨λi x hx=>Nat.lt_succ_of_lt (h.VF i x hx),λi u hu=>?_,λi u x hu hd hx=>h.live i u x (old i u x hu hx) hd hx,
  λi j u v x y hu s6 hv NU hx hy=>h.inj i j u v x y (old i u x hu hx) s6 (old j v y hv hy) NU hx hy,h.below⟩
 show i<W.sz+1;simp only[CW.new,Tr.Bc]at hu
 split at hu
 ·omega
 ·have:=h.top i u hu;omega
theorem AU.np(h:AU P w0 ρ W w){b:Nat}(hb:ρ b=none)(Ao:b<W.sz){u:Am}(hu:W.obj b=some u){x:Info}(hx:x.b=w.heap.size){o':Obj}
  (hr:Iz P (λi=>if i=b then some x else ρ i) x u o') (hm:u.mut=true:=by rfl):Ext ρ (λi=>if i=b then some x else ρ i)∧AU P w0 (λi=>if i=b then some x else ρ i) W {w with heap:=w.heap.push o'}:=by
 have C2:Ext ρ (λi=>if i=b then some x else ρ i):=λi y hy=>by
  show(if i=b then some x else ρ i)=some y
  by_cases e:i=b
  ·subst e;rw[hb]at hy;cases hy
  ·rw[aac e];exact hy
 have hw0:w0.heap.size≤w.heap.size:=h.below.size
 have hold:∀i u y,W.h.get i=some u→u≠.dead→ρ i=some y→y.b<w.heap.size:=λi u y hu hd hy=>by
  obtain⟨o',I0,_,_⟩:=h.live i u y hu hd hy;exact(aao.1 I0).1
 refine⟨C2,?_,h.top,?_,?_,?_⟩
 ·intro i y hy
  by_cases e:i=b
  ·omega
  ·have:ρ i=some y:=by simpa[e]using hy
   exact h.VF i y this
 ·intro i v y hv hd hy
  by_cases e:i=b
  ·subst e;have hy:some x=some y:=by simpa using hy
   cases hy
   have:W.h.get i=some u:=hu;rw[hv]at this;cases this;refine⟨o',?_,hr,λ_=>by omega,λhf=>by rw[hm]at hf;cases hf⟩;show(w.heap.push o')[x.b]?=_;rw[hx];simp
  ·have hy:ρ i=some y:=by simpa[e]using hy
   obtain⟨u',UQ,hru,ji⟩:=h.live i v y hv hd hy;refine⟨u',?_,hru.mono C2,ji⟩;have hl:=(aao.1 UQ).1;show(w.heap.push o')[y.b]?=_;rw[acC,aac (by omega)];exact UQ
 ·intro i j v v' y z hv NU Iu fL hy hz tr
  by_cases ei:i=b
  ·by_cases ej:j=b
   ·omega
   ·have hz:ρ j=some z:=by simpa[ej]using hz
    have hy:some x=some y:=by simpa[ei]using hy
    cases hy
    have:=hold j v' z Iu (Am.ID fL) hz;omega
  ·have hy:ρ i=some y:=by simpa[ei]using hy
   by_cases ej:j=b
   ·have hz:some x=some z:=by simpa[ej]using hz
    cases hz
    have:=hold i v y hv (Am.ID NU) hy;omega
   ·have hz:ρ j=some z:=by simpa[ej]using hz
    exact h.inj i j v v' y z hv NU Iu fL hy hz tr
 ·exact⟨h.below.os,h.below.tape,h.below.output,by show w0.heap.size≤(w.heap.push o').size;rw[Array.size_push];omega,λk hk=>by
   show(w.heap.push o')[k]?=_
   rw[acC,aac (by omega)];exact h.below.block k hk⟩
def nameOf:Value→Nat
 | .pointer (some p)=>p.block
 | .slice (some p) _ _=>p.block
 | .map (some r)=>r
 |_=>0
def FK(P:Program)(ops:Array Oper)(x:Nat×Value×Option Am):Prop :=
 ∃o,ops[x.1]?=some o∧o.guard=none∧((∃t z s b,o.op=.alloc t∧Hr P t=some z∧De P t=some s∧x.2.1=.pointer (some ⟨b,0,none⟩)∧x.2.2=some (.cells .nil z.cells.size z.cells t))∨
  (∃t b,o.op=.makeMap t none∧x.2.1=.map (some b)∧x.2.2=some (.map [] 0))∨
  (∃t l c b n m,o.op=.makeSlice t l c∧x.2.1=.slice (some ⟨b,0,none⟩) n m)∨(∃t l c b n m,o.op=.buildSlice t l c∧x.2.1=.slice (some ⟨b,0,none⟩) n m))
theorem PD{ops:Array Oper}{a:AI}:∀{is:List Nat} {W:CW} {fl:List (Nat×Value×Option Am)} {W1:CW},Ib P ops a is W=some (fl,W1)→(∀i,i∈is→∃o,ops[i]?=some o∧floatKind P ops o=true)→AU P w0 ρ W w→
  AU P w0 ρ W1 w∧W.sz≤W1.sz∧(∀x,x∈fl→W.sz≤nameOf x.2.1∧nameOf x.2.1<W1.sz∧FK P ops x)∧fl.Pairwise (λx y=>nameOf x.2.1≠nameOf y.2.1)∧(∀i,i∈is→∃x,x∈fl∧x.1=i):=by
 intro is
 induction is with
 |nil=>
  intro W fl W1 h _ hw;simp only[Ib,aag,aar]at h;obtain⟨rfl,rfl⟩:=h;exact⟨hw,aaf _,(λx hx=>by cases hx),.nil,(λi hi=>by cases hi)⟩
 | cons i is ih=>
  intro W fl W1 h hk hw;obtain⟨o,ho,hf⟩:=hk i (by simp);simp only[Ib,ho]at h
  split at h
  ·rename_i v W2 hc
   cases hp:Ib P ops a is W2 with
   |none=>rw[hp]at h;cases h
   | some q=>
    obtain⟨l,W3⟩:=q;rw[hp]at h;simp only[aag,aar]at h;obtain⟨rfl,rfl⟩:=h
    have key:nameOf v=W.sz∧(∃u,W2=W.new u)∧FK P ops (i,v,W2.obj W.sz):=by
     unfold floatKind at hf
     split at hf
     ·rename_i t h1 h2;simp only[BF,h1]at hc
      split at hc
      ·rename_i z hz
       split at hc
       ·rename_i s hs
        cases hc
        exact⟨rfl,⟨_,rfl⟩,o,ho,h2,.inl ⟨t,z,s,W.sz,h1,hz,hs,rfl,by simp[CW.obj,CW.new,Tr.Bc]⟩⟩
       ·cases hc
      ·cases hc
     ·rename_i t h1 h2;simp only[BF,h1]at hc
      cases hc
      exact⟨rfl,⟨_,rfl⟩,o,ho,h2,.inr (.inl ⟨t,W.sz,h1,rfl,by simp[CW.obj,CW.new,Tr.Bc]⟩)⟩
     ·rename_i t l c h1 h2;simp only[BF,h1]at hc;obtain⟨v',ZA,hv,he⟩:=JS hc;simp only[abK,aar,BQ.value.injEq,and_true]at he;obtain⟨rfl,rfl⟩:=he
      split at hv
      ·obtain⟨s,hs,hv⟩:=AY hv;obtain⟨z,hz,hv⟩:=AY hv;rw[cond_eq_ite]at hv
       split at hv
       ·cases hv
        exact⟨rfl,⟨_,rfl⟩,o,ho,h2,.inr (.inr (.inl ⟨t,l,c,W.sz,_,_,h1,rfl⟩))⟩
       ·cases hv
      ·cases hv
     ·rename_i t l c h1 h2;simp only[BF,h1]at hc;obtain⟨v',ZA,hv,he⟩:=JS hc;simp only[abK,aar,BQ.value.injEq,and_true]at he;obtain⟨rfl,rfl⟩:=he
      split at hv
      ·obtain⟨s,hs,hv⟩:=AY hv;obtain⟨z,hz,hv⟩:=AY hv;rw[cond_eq_ite]at hv
       split at hv
       ·split at hv
        ·cases hv
         exact⟨rfl,⟨_,rfl⟩,o,ho,h2,.inr (.inr (.inr ⟨t,l,c,W.sz,_,_,h1,rfl⟩))⟩
        ·cases hv
       ·cases hv
      ·cases hv
     ·cases hf
    obtain⟨PF,⟨u,rfl⟩,hfk⟩:=key;obtain⟨h1,h2,h3,h4,h5⟩:=ih hp (λj hj=>hk j (by simp[hj])) (hw.pre u);have h2':W.sz+1≤W3.sz:=h2
    refine⟨h1,by omega,?_,?_,?_⟩
    ·intro x hx
     rcases aaE.1 hx with rfl|hx
     ·exact⟨by simp only[PF];exact aaf _,by simp only[PF];omega,hfk⟩
     ·obtain⟨a1,a2,a3⟩:=h3 x hx;have a1:W.sz+1≤nameOf x.2.1:=a1;exact⟨by omega,a2,a3⟩
    ·refine aco.2 ⟨λy hy=>?_,h4⟩;obtain⟨a1,_,_⟩:=h3 y hy;have a1:W.sz+1≤nameOf y.2.1:=a1;simp only[PF];omega
    ·intro j hj
     rcases aaE.1 hj with rfl|hj
     ·exact⟨_,ab0,rfl⟩
     ·obtain⟨x,hx,e⟩:=h5 j hj;exact⟨x,by simp[hx],e⟩
  ·cases h
theorem Un{ops:Array Oper}{i:Nat}(h:i∈G9 P ops):∃o,ops[i]?=some o∧floatKind P ops o=true:=by
 simp only[G9,acq]at h;obtain⟨_,h⟩:=h
 split at h
 ·rename_i o ho;simp only[dy]at h;exact⟨o,ho,h.1⟩
 ·cases h
theorem PZ{ops:Array Oper}(h:Ix P ops=true){i:Nat}(hi:i<ops.size):∀q,q∈ec ops i→q<i:=by
 simp only[Ix,aax,aaV]at h;have ho:ops[i]?=some ops[i]:=by simp[hi]
 have h:=h i hi;rw[ho]at h;simp only[dy,aax]at h;intro q hq;have:=h.1 q hq;exact aam this
theorem KT{ops:Array Oper}(h:Ix P ops=true){i j:Nat}{oi oj:Oper}(hi:ops[i]?=some oi)(hj:ops[j]?=some oj)(Ao:j<i) :
  CB (Gh ops i) j=true∨(oj.apart ops oi=true∧¬(Sv P oi=true∧Sv P oj=true∧i∉G9 P ops∧j∉G9 P ops)):=by
 have Jr:i<ops.size:=(aao.1 hi).1;simp only[Ix,aax,aaV]at h;have h:=h i Jr;rw[hi]at h;simp only[dy,aax,aaV,aaQ]at h
 rcases h.2 j Ao with h1|h1
 ·exact .inl h1
 ·right;rw[hj]at h1;simp only[dy,aaC,Bool.and_eq_false_iff]at h1;refine⟨h1.1,?_⟩;rintro⟨w1,w2,f1,f2⟩
  have f1:CB (G9 P ops) i=false:=by
   cases hh:CB (G9 P ops) i with
   |false=>rfl
   |true=>exact(f1 (Ih.1 hh)).elim
  have f2:CB (G9 P ops) j=false:=by
   cases hh:CB (G9 P ops) j with
   |false=>rfl
   |true=>exact(f2 (Ih.1 hh)).elim
  simp[w1,w2,f1,f2]at h1
theorem RI{eqv:Value→Value→Bool}(he:∀u v,eqv u v=true→u=v){a b:Option Am}(h:JQ eqv a b=true):∃c d n e,a=some (.cells c n #[] e)∧b=some (.cells d n #[] e)∧∀k,k<n→cellAt c #[] k=cellAt d #[] k:=by
 unfold JQ at h
 split at h
 ·rename_i c n z e d m y f;simp only[dy]at h;obtain⟨⟨⟨h1,h2⟩,h3,h4⟩,h5⟩:=h;have h1:=aab h1;have h2:=aab h2;have h3:=Array.eq_empty_of_size_eq_zero (aab h3);have h4:=Array.eq_empty_of_size_eq_zero (aab h4);have h5:=he _ _ h5;subst h1 h2 h3 h4;refine⟨c,d,n,e,rfl,rfl,λk hk=>?_⟩;unfold tp at h5;simp only[Value.agg.injEq]at h5;have h5:BE c #[] n 0=BE d #[] n 0:=by simpa using h5
  have:=ab8 (λl=>l.getD k undef) h5;simp only[FY _ _ _ _ _ hk,aa0]at this;exact this
 ·cases h
theorem JT{a b:Option Am}(h:G0 a b=true):a=b:=by
 unfold G0 at h
 split at h
 ·rfl
 ·rename_i n z e m y f;simp only[dy]at h;have h1:=aab h.1.1.1;have h2:=aab h.1.1.2;rw[h1,h2,KQ h.1.2 h.2 (λv w=>HF 6 v w)]
 ·cases h
end
section
variable {P:Program}{w0:World}{tB:Nat→Bool→Code→Bool}{R:C5}{ops:Array Oper}{fl:List (Nat×Value×Option Am)}{nv:Nat→Bool}{st:Nat→FE}{val:Nat→Value}
def F9(ops:Array Oper)(i:Nat):Option Tmp:=(ops[i]?).bind (·.dst)
def Wr(st:Nat→FE)(i:Nat):Prop:=(st (i+1)).ws=(i,(st i).W)::(st i).ws
theorem Fs.put{i:Nat}{o:Oper}{s s':FE}{v:Value}(h:Fs P R ops fl nv i o s s' v):s'.a=s.a.put o.dst v:=by
 cases h<;>(rename_i he;rw[he])
theorem Fs.wr{i:Nat}{o:Oper}(h:Fs P R ops fl nv i o (st i) (st (i+1)) (val i)) :
  (Wr st i∧Sv P o=true∧∀x,x∈fl→x.1≠i)∨(¬Wr st i∧(st (i+1)).W=(st i).W∧(st (i+1)).ws=(st i).ws):=by
 have no:∀{l:List (Nat×CW)} {x:Nat×CW},l≠x::l:=λh=>by have:=ab8 List.length h;simp at this
 cases h with
 |never h1 h2 he=>right;exact⟨by unfold Wr;rw[he];exact no,by rw[he],by rw[he]⟩
 |float ob h1 LM he=>right;exact⟨by unfold Wr;rw[he];exact no,by rw[he],by rw[he]⟩
 |off h1 h2 h3 he=>right;exact⟨by unfold Wr;rw[he];exact no,by rw[he],by rw[he]⟩
 |pure W1 h1 h2 h3 h4 he=>right;exact⟨by unfold Wr;rw[he];exact no,by rw[he],by rw[he]⟩
 |read W1 h1 h2 h3 h4 he=>right;exact⟨by unfold Wr;rw[he];exact no,by rw[he],by rw[he]⟩
 |value W1 h1 h2 h3 h4 he=>left;exact⟨by unfold Wr;rw[he],h3,h1⟩
 |skip W1 h1 h2 h3 h4 h5 he=>left;exact⟨by unfold Wr;rw[he],h3,h1⟩
 |call f args W1 W2 m h1 h2 h3 h4 h5 h6 he=>left;exact⟨by unfold Wr;rw[he],h3,h1⟩
 |round l args W1 W2 m h1 h2 h3 h4 h5 h6 he=>left;exact⟨by unfold Wr;rw[he],h3,h1⟩
variable (D1:∀i o,ops[i]?=some o→Fs P R ops fl nv i o (st i) (st (i+1)) (val i))
include D1
theorem ua(a0:AI)(h0:(st 0).a=a0)(d:Nat):∀i,i≤ops.size→(st i).a.at d=TT (F9 ops) val a0.at (λ_=>true) i d
 |0,_=>by rw[h0];rfl
 | i+1,hi=>by
  have ho:ops[i]?=some ops[i]:=by simp[show i<ops.size by omega]
  have hp:=(D1 i _ ho).put;rw[hp,TT];have ih:=ua a0 h0 d i (by omega);have hd:F9 ops i=ops[i].dst:=by simp[F9,ho]
  rw[hd]
  cases zV:ops[i].dst with
  |none=>
   rw[aac (by rintro⟨_,h⟩;cases h),←ih];rfl
  |some t=>
   rw[AI.ke]
   by_cases e:d=t
   ·subst e;rw[aad rfl,aad ⟨rfl,rfl⟩]
   ·rw[aac e,aac (by rintro⟨_,h⟩;cases h;exact e rfl),ih]
theorem ABN(a0:AI)(h0:(st 0).a=a0):∀i,i≤ops.size→(st i).a.nt=a0.nt∧(st i).a.defers=a0.defers
 |0,_=>by rw[h0];exact⟨rfl,rfl⟩
 |i+1,hi=>by
  have ho:ops[i]?=some ops[i]:=by simp[show i<ops.size by omega]
  rw[(D1 i _ ho).put,AI.Bd,AI.put_defers];exact ABN a0 h0 i (by omega)
theorem Wi{p:Nat}:∀(q:Nat),p≤q→q≤ops.size→∃A,(st q).ws=A++(st p).ws∧(∀x,x∈A→p≤x.1∧x.1<q∧Wr st x.1)∧gw A (st q).W=(st p).W
 |0,h,_=>by have:p=0:=(by omega);subst this;exact⟨[],rfl,(λx hx=>by cases hx),rfl⟩
 | q+1,h,hq=>by
  by_cases e:p=q+1
  ·subst e;exact⟨[],rfl,(λx hx=>by cases hx),rfl⟩
  ·obtain⟨A,h1,h2,h3⟩:=Wi (p:=p) q (by omega) (by omega);have ho:ops[q]?=some ops[q]:=by simp[show q<ops.size by omega]
   rcases(D1 q _ ho).wr with⟨hw,_⟩|⟨_,hW,fo⟩
   ·refine⟨(q,(st q).W)::A,by rw[hw,h1];rfl,λx hx=>?_,h3⟩
    rcases aaE.1 hx with rfl|hx
    ·exact⟨by omega,by simp,hw⟩
    ·obtain⟨a,b,c⟩:=h2 x hx;exact⟨a,by omega,c⟩
   ·exact⟨A,by rw[fo,h1],λx hx=>let ⟨a,b,c⟩:=h2 x hx;⟨a,by omega,c⟩,by rw[hW];exact h3⟩
theorem Vi:∀(k i:Nat),i+k=ops.size→∃p,i≤p∧p≤ops.size∧(p=ops.size∨Wr st p)∧(∀j,i≤j→j<p→¬Wr st j)∧(st p).W=(st i).W
 |0,i,h=>⟨i,aaf _,by omega,.inl (by omega),λj h1 h2=>by omega,rfl⟩
 | k+1,i,h=>by
  have ho:ops[i]?=some ops[i]:=by simp[show i<ops.size by omega]
  rcases(D1 i _ ho).wr with⟨hw,_⟩|⟨hn,hW,_⟩
  ·exact⟨i,aaf _,by omega,.inr hw,λj h1 h2=>by omega,rfl⟩
  ·obtain⟨p,h1,h2,h3,h4,h5⟩:=Vi k (i+1) (by omega);refine⟨p,by omega,h2,h3,λj nq yn=>?_,by rw[h5,hW]⟩
   by_cases e:j=i
   ·subst e;exact hn
   ·exact h4 j (by omega) yn
end
structure No(P:Program)(w0:World)(ops:Array Oper)(fl:List (Nat×Value×Option Am))(st:Nat→FE)(val:Nat→Value)(a0:AI)(W0:CW)(ρ0:Bk)(AT:Array Bool)(a':Act)(w:World)(ρ:Bk)(p:Nat):Prop where
 size:AT.size=ops.size
 closed:∀i,AT.getD i false=true→∀q,q∈ec ops i→AT.getD q false=true
 nr:∀d,AK ρ (TT (F9 ops) val a0.at (λi=>AT.getD i false) ops.size d) (a'.tmps.getD d undef)
 fp:a'.tmps.size=a0.nt
 defers:KC (LW ρ) a0.defers a'.defers
 ko:p≤ops.size
 zW:∀j,j<ops.size→Wr st j→(AT.getD j false=true↔j<p)
 pw:p=ops.size∨Wr st p
 world:AU P w0 ρ (st p).W w
 grow:Ef W0 ρ0 (st p).W ρ
 cL:∀x,x∈fl→AT.getD x.1 false=false→ρ (nameOf x.2.1)=none∧nameOf x.2.1<(st p).W.sz
section
variable {P:Program}{w0:World}{tB:Nat→Bool→Code→Bool}{R:C5}{ops:Array Oper}{fl:List (Nat×Value×Option Am)}{nv:Nat→Bool}{st:Nat→FE}{val:Nat→Value}{a0:AI}{W0:CW}{ρ0:Bk}
 {AT:Array Bool} {a':Act} {w:World} {ρ:Bk} {p:Nat}
theorem GQ{i j:Nat}(hi:i<AT.size):(AT.setIfInBounds i true).getD j false=true↔(AT.getD j false=true∨j=i):=by
 simp only[aal,aaT]
 by_cases e:i=j
 ·subst e;simp[hi]
 ·rw[aac e];simp[abW e]
theorem No.next(h:No P w0 ops fl st val a0 W0 ρ0 AT a' w ρ p){i:Nat}{o:Oper}(ho:ops[i]?=some o)(hd:∀t,o.dst=some t→t<a0.nt)(Uo:AT.getD i false=false)
  (M3:∀q,q∈ec ops i→AT.getD q false=true) (Wk:∀j,i<j→j<ops.size→F9 ops i≠none→F9 ops j=F9 ops i→AT.getD j false=false)
  {v':Value} {w2:World} {ρ2:Bk} {p2:Nat} (he:Ext ρ ρ2) (hv:AK ρ2 (val i) v') (hp2:p2≤ops.size) (hpw:p2=ops.size∨Wr st p2)
  (AIY:∀j,j<ops.size→Wr st j→((AT.getD j false=true∨j=i)↔j<p2)) (Fq:AU P w0 ρ2 (st p2).W w2) (hg:Ef W0 ρ0 (st p2).W ρ2)
  (hub:∀x,x∈fl→AT.getD x.1 false=false→x.1≠i→ρ2 (nameOf x.2.1)=none∧nameOf x.2.1<(st p2).W.sz) :
  No P w0 ops fl st val a0 W0 ρ0 (AT.setIfInBounds i true) (a'.put o.dst v') w2 ρ2 p2:=by
 have hi:i<ops.size:=(aao.1 ho).1;have Jr:i<AT.size:=by rw[h.size];exact hi
 have AIZ:F9 ops i=o.dst:=by simp[F9,ho]
 refine⟨by simp[h.size],?_,?_,?_,?_,hp2,?_,hpw,Fq,hg,?_⟩
 ·intro j hj q hq;rw[GQ Jr]at hj ⊢
  rcases hj with hj|rfl
  ·exact .inl (h.closed j hj q hq)
  ·exact .inl (M3 q hq)
 ·intro d;rw[AB8 (L:=λi=>AT.getD i false) hi (λj=>GQ Jr) Wk d,AIZ]
  cases zV:o.dst with
  |none=>
   rw[aac (by simp)];exact(h.nr d).mono he
  | some t=>
   have ht:=hd t zV
   have AB2:(a'.put (some t) v').tmps.getD d undef=if t=d then v' else a'.tmps.getD d undef:=by
    simp only[Act.put,aal,aaT]
    by_cases e:t=d
    ·subst e;rw[aad rfl,aad rfl,aad (by rw[h.fp];exact ht)];rfl
    ·rw[aac e,aac e]
   rw[AB2]
   by_cases e:t=d
   ·subst e;rw[aad rfl,aad rfl];exact hv
   ·rw[aac (by simpa using e),aac e];exact(h.nr d).mono he
 ·cases o.dst with
  |none=>exact h.fp
  |some t=>simp only[Act.put,abA];exact h.fp
 ·have:(a'.put o.dst v').defers=a'.defers:=by cases o.dst<;>rfl
  rw[this];exact forall₂_mono (λ_ _ x=>x.mono he) h.defers
 ·intro j hj fq;rw[GQ Jr];exact AIY j hj fq
 ·intro x hx hl
  have Dg:¬(AT.getD x.1 false=true∨x.1=i):=λhh=>by
   rw[(GQ Jr).2 hh]at hl;cases hl
  have h1:AT.getD x.1 false=false:=by
   cases hh:AT.getD x.1 false with
   |false=>rfl
   |true=>exact(Dg (.inl hh)).elim
  exact hub x hx h1 (λe=>Dg (.inr e))
theorem HH{s:FE}{o:Oper}{b:Bool}(h:EI ops o s.a=some b)(hs:∀j want,o.guard=some (j,want)→∀d,(ops[j]?).bind (·.dst)=some d→AK ρ (s.a.at d) (a'.tmps.getD d undef)) :
  Region.wanted o (yielded ops a'.tmps)=b:=by
 unfold EI at h;unfold Region.wanted
 split at h
 ·rename_i hg
  cases h
  rw[hg]
 ·rename_i j want hg;rw[hg];simp only;rw[Zv ops j (hs j want hg)]
  split at h
  ·rename_i b' hb
   cases h
   rw[hb]
   cases b'<;>cases want<;>rfl
  ·rename_i hb
   cases h
   rw[hb];rfl
variable (D1:∀i o,ops[i]?=some o→Fs P R ops fl nv i o (st i) (st (i+1)) (val i))(h0:(st 0).a=a0)(Ot:Ix P ops=true)
include D1 h0 Ot
theorem No.look(h:No P w0 ops fl st val a0 W0 ρ0 AT a' w ρ p){i:Nat}{o:Oper}(ho:ops[i]?=some o)(Uo:AT.getD i false=false)(M3:∀q,q∈ec ops i→AT.getD q false=true){d:Tmp}(hd:d∈o.looksAt ops) :
  AK ρ ((st i).a.at d) (a'.tmps.getD d undef):=by
 have hi:i<ops.size:=(aao.1 ho).1;have hs:=h.nr d;rw[ua D1 a0 h0 d i (by omega)]
 rwa[zU (i:=i) (by omega)]at hs
 ·intro j hj cK;have eo:ops[j]?=some ops[j]:=by simp[show j<ops.size by omega]
  have cK:ops[j].dst=some d:=by simpa[F9,eo]using cK
  rcases KT Ot ho eo hj with h1|⟨h1,_⟩
  ·exact HU (L:=λx=>AT.getD x false=true) h.closed M3 h1
  ·exact((Oper.apart_spec h1).1 d cK hd).elim
 ·intro j nq yn cK;have eo:ops[j]?=some ops[j]:=by simp[yn]
  have cK:ops[j].dst=some d:=by simpa[F9,eo]using cK
  by_cases e:j=i
  ·subst e;exact Uo
  ·rcases KT Ot eo ho (show i<j by omega)with h1|⟨h1,_⟩
   ·cases hl:AT.getD j false with
    |false=>rfl
    |true=>
     have:=HU (L:=λx=>AT.getD x false=true) h.closed (h.closed j hl) h1;rw[Uo]at this;cases this
   ·exact((Oper.apart_spec h1).2.2 d cK hd).elim
theorem No.AFO(h:No P w0 ops fl st val a0 W0 ρ0 AT a' w ρ p){i:Nat}{o:Oper}(ho:ops[i]?=some o)(Uo:AT.getD i false=false){t:Tmp}(hd:o.dst=some t) :
  ∀j,i<j→j<ops.size→F9 ops j=F9 ops i→AT.getD j false=false:=by
 intro j nq yn cK;have eo:ops[j]?=some ops[j]:=by simp[yn]
 have hdi:F9 ops i=some t:=by simp[F9,ho,hd]
 have cK:ops[j].dst=some t:=by rw[hdi]at cK;simpa[F9,eo]using cK
 rcases KT Ot eo ho nq with h1|⟨h1,_⟩
 ·cases hl:AT.getD j false with
  |false=>rfl
  |true=>
   have:=HU (L:=λx=>AT.getD x false=true) h.closed (h.closed j hl) h1;rw[Uo]at this;cases this
 ·exact((Oper.apart_spec h1).2.1 t hd cK).elim
theorem No.nu(h:No P w0 ops fl st val a0 W0 ρ0 AT a' w ρ p){i:Nat}{o:Oper}(ho:ops[i]?=some o)(Uo:AT.getD i false=false)(M3:∀q,q∈ec ops i→AT.getD q false=true)
  (fo:(st 0).ws=[]) {ok:CW→Bool} (hk:DJ ops i (Gh ops i) ok (st ops.size).ws (st ops.size).W=true):ok (st p).W=true:=by
 obtain⟨A,h1,h2,h3⟩:=Wi D1 (p:=p) ops.size h.ko (aaf _);rw[h1]at hk
 have:=Um hk ?_ ?_
 ·rwa[h3]at this
 ·intro x hx;obtain⟨RJ,fZ,hx3⟩:=h2 x hx
  cases hm:CB (Gh ops i) x.1 with
  |false=>rfl
  |true=>
   have:=HU (L:=λx=>AT.getD x false=true) h.closed M3 hm;have:=(h.zW x.1 fZ hx3).1 this;omega
 ·intro j Wj B' hB;obtain⟨A2,g1,g2,_⟩:=Wi D1 (p:=0) p (aa7 _) h.ko;rw[fo,aaR]at g1;have JB:(j,Wj)∈A2:=by rw[←g1,hB];simp
  obtain⟨_,hj,fq⟩:=g2 _ JB;simp only at hj fq;have hl:=(h.zW j (abC hj h.ko) fq).2 hj
  cases ha:anc ops j i with
  |false=>rfl
  |true=>
   have:=HU (L:=λx=>AT.getD x false=true) h.closed (h.closed j hl) (j:=i) ha;rw[Uo]at this;cases this
theorem No.cM(h:No P w0 ops fl st val a0 W0 ρ0 AT a' w ρ p)(M4:∀i,i∈G9 P ops→∃x,x∈fl∧x.1=i){i:Nat}{o:Oper}(ho:ops[i]?=some o)(Uo:AT.getD i false=false)(M3:∀q,q∈ec ops i→AT.getD q false=true)
  (hw:Wr st i) (Nn:Sv P o=true) (H0:∀x,x∈fl→x.1≠i):i=p:=by
 have hi:i<ops.size:=(aao.1 ho).1
 have Ji:p≤i:=by
  have:=(h.zW i hi hw)
  rw[Uo]at this;have hn:¬i<p:=λhh=>by have:=this.2 hh;cases this
  omega
 by_cases e:i=p
 ·exact e
 ·have hp:p<ops.size:=by omega
  have hwp:=h.pw.resolve_left (by omega);have KA:ops[p]?=some ops[p]:=by simp[hp]
  rcases(D1 p _ KA).wr with⟨_,AIa,AIb⟩|⟨hn,_,_⟩
  ·rcases KT Ot ho KA (show p<i by omega)with h1|⟨_,h1⟩
   ·have:=HU (L:=λx=>AT.getD x false=true) h.closed M3 h1;have:=(h.zW p hp hwp).1 this;omega
   ·refine(h1 ⟨Nn,AIa,λhf=>?_,λhf=>?_⟩).elim
    ·obtain⟨x,hx,e⟩:=M4 i hf;exact H0 x hx e
    ·obtain⟨x,hx,e⟩:=M4 p hf;exact AIb x hx e
  ·exact(hn hwp).elim
end
section
variable {P:Program}{w0:World}{tB:Nat→Bool→Code→Bool}{R:C5}{ops:Array Oper}{fl:List (Nat×Value×Option Am)}{nv:Nat→Bool}{st:Nat→FE}{val:Nat→Value}{a0:AI}{W0:CW}{ρ0:Bk}
 {AT:Array Bool} {a':Act} {w:World} {ρ:Bk} {p:Nat}
theorem kq(hz:ZP P)(hw:AU P w0 ρ W0 w){x:Nat×Value×Option Am}{o:Oper}(hk:FK P ops x)(ho:ops[x.1]?=some o)(hn:ρ (nameOf x.2.1)=none)(Ao:nameOf x.2.1<W0.sz){eqv:Value→Value→Bool}(heq:∀u v,eqv u v=true→u=v)(NJ:LV eqv ops x.1 x.2.1 x.2.2 W0=true){a:AI}(LM:G1 P eqv o a x.2.1 x.2.2=true)(e':Operand→Value)(he':∀t l c,o.op=.makeSlice t l c→AK ρ (a.eval l) (e' l)∧AK ρ (a.eval c) (e' c))(heb:∀t l c,o.op=.buildSlice t l c→∀p,p∈c.toList→AK ρ (a.eval p.2) (e' p.2)) :
  ∃v' w' ρ',(execOp e' o).run P w=.ok (.value v') w'∧Ext ρ ρ'∧(∀i,i≠nameOf x.2.1→ρ' i=ρ i)∧AK ρ' x.2.1 v'∧AU P w0 ρ' W0 w'∧o.guard=none∧(∀c,o.op≠.defer c)∧∀c,o.op≠.call c:=by
 obtain⟨o2,ho2,hg,BD⟩:=hk;rw[ho]at ho2
 cases ho2
 have zX:(ops[x.1]?).any VB=VB o:=by rw[ho];rfl
 have ub:VB o=false→W0.obj (nameOf x.2.1)=x.2.2:=λhb=>by
  unfold LV at NJ;rw[zX,hb,cond_false]at NJ
  split at NJ
  ·rename_i heq;rw[heq];exact JT NJ
  ·rename_i heq;rw[heq];exact JT NJ
  ·rename_i heq;rw[heq];exact JT NJ
  ·exact(ac7 NJ).elim
 rcases BD with⟨t,z,s,b,KA,MD,hs,hv,Wl⟩|⟨t,b,KA,hv,Wl⟩|⟨t,l,c,b,n,m,KA,hv⟩|⟨t,l,c,b,n,m,KA,hv⟩
 ·have BY:=ub (by unfold VB;rw[KA]);rw[hv]at hn Ao BY ⊢;rw[Wl]at BY;simp only[nameOf]at hn Ao BY ⊢;have hb:∀i,i≠b→(if i=b then some (⟨w.heap.size,0,s,z.cells.size,z.cells.size⟩:Info)else ρ i)=ρ i:=λi hi=>aac hi
  obtain⟨C2,I_⟩:=hw.np hn Ao BY (x:=⟨w.heap.size,0,s,z.cells.size,z.cells.size⟩) (o':=.cells z.cells t (0,0)) rfl (by
   refine .cells hs rfl (by simp) (λk hk=>?_) ⟨NF.zero _,λ_=>⟨rfl,rfl⟩⟩;have hc:=(hz.rel MD (λi=>if i=b then some (⟨w.heap.size,0,s,z.cells.size,z.cells.size⟩:Info)else ρ i)).cells.2 k (by simpa using hk);have hk:k<z.cells.size:=hk;have:cellAt .nil z.cells k=z.cells.getD k undef:=by simp[cellAt,Tr.get_nil,acg hk]
   rw[this]
   simpa[aal,aaj]using hc)
  refine⟨.pointer (some ⟨w.heap.size,0,none⟩),_,_,?_,C2,hb,.ptr ⟨rfl,⟨w.heap.size,0,s,z.cells.size,z.cells.size⟩,by simp,by simp⟩,I_,hg,(by rw[KA];intro c h;cases h),by rw[KA];intro c h;cases h⟩;simp only[execOp,KA];exact A9 (by simp[Instr.alloc,Bi MD,newVar,newRow])
 ·have BY:=ub (by unfold VB;rw[KA]);rw[hv]at hn Ao BY ⊢;rw[Wl]at BY;simp only[nameOf]at hn Ao BY ⊢;have hb:∀i,i≠b→(if i=b then some (⟨w.heap.size,0,0,0,0⟩:Info)else ρ i)=ρ i:=λi hi=>aac hi;obtain⟨C2,I_⟩:=hw.np hn Ao BY (x:=⟨w.heap.size,0,0,0,0⟩) (o':=.map #[] 0) rfl (.map rfl trivial);refine⟨.map (some w.heap.size),_,_,?_,C2,hb,.map ⟨⟨w.heap.size,0,0,0,0⟩,by simp,rfl⟩,I_,hg,(by rw[KA];intro c h;cases h),by rw[KA];intro c h;cases h⟩;simp only[execOp,KA];exact A9 (by simp[Instr.makeMap])
 ·have BY:=ub (by unfold VB;rw[KA]);obtain⟨i,v,ob⟩:=x;simp only at hv LM hn Ao BY ⊢;subst hv;simp only[nameOf]at hn Ao BY ⊢;obtain⟨hl,hc⟩:=he' t l c KA;simp only[G1,KA,ac8]at LM;obtain⟨outs,ft,⟨nx,W1⟩,JK,LM⟩:=LM;simp only[BF,KA]at ft;obtain⟨v',ZA,hv,rfl⟩:=JS ft;simp only[List.head?_cons,aag,aar]at JK;obtain⟨rfl,rfl⟩:=JK;simp only[dy]at LM;obtain⟨jo,cN⟩:=LM;have jo:=HF 8 _ _ jo;have cN:=JT cN;split at hv
  rotate_left
  ·cases hv
  rename_i elem kl li kc ci ht MJ hec;rw[MJ]at hl;rw[hec]at hc;generalize e1:e' l=vl at hl;generalize e2:e' c=vc at hc
  cases hl
  cases hc
  obtain⟨s,hs,hv⟩:=AY hv;obtain⟨z,hz2,hv⟩:=AY hv;rw[cond_eq_ite]at hv;split at hv
  rotate_left
  ·cases hv
  rename_i BM;simp only[dy,decide_eq_true_eq]at BM;obtain⟨⟨⟨⟨⟨c1,c2⟩,c3⟩,c4⟩,c5⟩,c6⟩:=BM;have c4:=aam c4;have c5:=aab c5;have c6:0<s:=by have:=aam c6;omega
  simp only[aag,aar]at hv;obtain⟨rfl,rfl⟩:=hv
  cases jo
  have cN:some (Am.cells .nil (ci.toNat*s) z.cells elem)=ob:=by rw[←cN];simp[CW.obj,CW.new,Tr.Bc]
  subst cN;have hb:∀i,i≠b→(if i=b then some (⟨w.heap.size,0,s,ci.toNat*s,ci.toNat*s⟩:Info)else ρ i)=ρ i:=λi hi=>aac hi
  obtain⟨C2,I_⟩:=hw.np hn Ao BY (x:=⟨w.heap.size,0,s,ci.toNat*s,ci.toNat*s⟩) (o':=.cells ((Array.range (ci.toNat*s)).map (z.cells[· %z.cells.size]!)) elem (0,0)) rfl (by
   exact .cells hs (by simp) (by simp) (λk hk=>OR hz hz2 _ (.inr (by omega)) k hk) ⟨NF.zero _,λ_=>⟨rfl,rfl⟩⟩)
  refine⟨.slice (some ⟨w.heap.size,0,none⟩) li.toNat ci.toNat,_,_,?_,C2,hb,.slice _ ⟨rfl,⟨w.heap.size,0,s,ci.toNat*s,ci.toNat*s⟩,by simp,by simp⟩ (.inl rfl),I_,hg,(by rw[KA];intro c h;cases h),by rw[KA];intro c h;cases h⟩;simp only[execOp,KA,e1,e2];exact A9 (O4 ht hs hz2 c1 c2 c3 c4 w)
 ·unfold LV at NJ;rw[zX,show VB o=true by unfold VB;rw[KA],cond_true]at NJ;obtain⟨i,v,ob⟩:=x;simp only at hv LM hn Ao NJ ⊢;subst hv;simp only[nameOf]at hn Ao NJ ⊢;simp only[G1,KA,ac8]at LM;obtain⟨outs,ft,⟨nx,W1⟩,JK,LM⟩:=LM;have uc:=ft;simp only[BF,KA]at uc;obtain⟨v',ZA,_,rfl⟩:=JS uc;simp only[List.head?_cons,aag,aar]at JK;obtain⟨rfl,rfl⟩:=JK;simp only[dy]at LM;obtain⟨jo,cN⟩:=LM;have jo:=heq _ _ jo;obtain⟨cs,r',elem,s,hs,TB,rfl,CG,HR⟩:=Nf hz KA ft (heb t l c KA);rw[TB]at jo;simp only[Value.slice.injEq,true_and]at jo;obtain⟨rfl,rfl⟩:=jo;obtain⟨c1,d1,n1,f1,Up,qJ,hcd⟩:=RI heq NJ;obtain⟨c2,d2,n2,f2,ep,ue,AIc⟩:=RI heq cN;rw[qJ]at ue;simp only[aag,Am.cells.injEq,true_and]at ue;obtain⟨rfl,rfl,rfl⟩:=ue;have ep:some (Am.cells (Tr.nil.AS 0 cs.toList) cs.size #[] elem)=some (.cells c2 n1 #[] f1):=by rw[←ep];simp[CW.obj,CW.new,Tr.Bc]
  simp only[aag,Am.cells.injEq,true_and]at ep;obtain⟨rfl,rfl,rfl⟩:=ep;have hb:∀i,i≠b→(if i=b then some (⟨w.heap.size,0,s,cs.size,cs.size⟩:Info)else ρ i)=ρ i:=λi hi=>aac hi
  have C2:Ext ρ (λi=>if i=b then some (⟨w.heap.size,0,s,cs.size,cs.size⟩:Info)else ρ i):=λi y hy=>by
   show(if i=b then _ else ρ i)=some y
   by_cases e:i=b
   ·subst e;rw[hn]at hy;cases hy
   ·rw[aac e];exact hy
  obtain⟨C2,I_⟩:=hw.np hn Ao Up (x:=⟨w.heap.size,0,s,cs.size,cs.size⟩) (o':=.cells r' elem (0,0)) rfl (by
   refine .cells hs (by simpa using CG.1.symm) (by simp) (λk hk=>?_) ⟨NF.zero _,λ_=>⟨rfl,rfl⟩⟩;rw[hcd k hk,←AIc k hk,B6 _ _ _ (by simpa using hk)];have:=(CG.2 k (by simpa using hk)).mono C2
   simpa[aal,aaj]using this)
  exact⟨.slice (some ⟨w.heap.size,0,none⟩) l l,_,_,HR w,C2,hb,.slice _ ⟨rfl,⟨w.heap.size,0,s,cs.size,cs.size⟩,by simp,by simp⟩ (.inl rfl),I_,hg,(by rw[KA];intro c h;cases h),by rw[KA];intro c h;cases h⟩
theorem cO{s:FE}{o:Oper}(h:EI ops o s.a=some false):o.guard≠none:=by
 intro hg;unfold EI at h;rw[hg]at h
 cases h
theorem ABO{α:Type}{f:α→Nat}:∀{l:List α},l.Pairwise (λx y=>f x≠f y)→∀{a b:α},a∈l→b∈l→a≠b→f a≠f b
 |[],_,_,_,h,_,_=>by cases h
 |x::l,hp,a,b,ha,hb,Dg=>by
  obtain⟨h1,h2⟩:=aco.1 hp
  rcases aaE.1 ha with ea|ha'<;>rcases aaE.1 hb with eb|jm
  ·exact(Dg (ea.trans eb.symm)).elim
  ·rw[ea];exact h1 b jm
  ·rw[eb];exact(h1 a ha').symm
  ·exact ABO h2 ha' jm Dg
variable (hz:ZP P)(hR:RS P w0 tB R){Hz:Option Nat}{n:Nat}{Q:Exit→Act→World→Prop}{K:Act→World→Prop}
 (D1:∀i o,ops[i]?=some o→Fs P R ops fl nv i o (st i) (st (i+1)) (val i)) (h0:(st 0).a=a0) (fo:(st 0).ws=[]) (Ot:Ix P ops=true) (Aa:LU P a0.nt Hz.isSome ops.toList=true)
 (M4:∀i,i∈G9 P ops→∃x,x∈fl∧x.1=i) (ZL:∀x,x∈fl→W0.sz≤nameOf x.2.1∧FK P ops x) (fu:fl.Pairwise (λx y=>nameOf x.2.1≠nameOf y.2.1))
 (NJ:∀x,x∈fl→DJ ops x.1 (Gh ops x.1) (LV R.eqv ops x.1 x.2.1 x.2.2) (st ops.size).ws (st ops.size).W=true)
 (LN:∀i o a v,(i,o,a,v)∈(st ops.size).rd→DJ ops i (Gh ops i) (λW=>match BF P o a.eval W with|some [(.value u,_)]=>R.eqv u v|_=>false) (st ops.size).ws (st ops.size).W=true)
include hz hR D1 h0 fo Ot Aa M4 ZL fu NJ LN
theorem nw:∀(q:Nat) (i:Nat),i≤q→q≤ops.size→∀x,x∈(st i).rd→x∈(st q).rd
 |0,i,h,_,x,hx=>by have:i=0:=(by omega);subst this;exact hx
 | q+1,i,h,hq,x,hx=>by
  by_cases e:i=q+1
  ·subst e;exact hx
  ·have:=nw q i (by omega) (by omega) x hx;have ho:ops[q]?=some ops[q]:=by simp[show q<ops.size by omega]
   cases D1 q _ ho<;>(rename_i he;rw[he];first|exact this|exact abP _ this)
theorem qK(h:No P w0 ops fl st val a0 W0 ρ0 AT a' w ρ p){i:Nat}(hi:i∈Region.ready .any ops AT)
  (yo:nv i=true→wpOpIn (B7 P Hz) n P ops Q i K a' w)
  (hK:∀a2 w2 ρ2 p2,No P w0 ops fl st val a0 W0 ρ0 (AT.setIfInBounds i true) a2 w2 ρ2 p2→K a2 w2):wpOpIn (B7 P Hz) n P ops Q i K a' w:=by
 cases hnn:nv i with
 |true=>exact yo hnn
 |false=>
 obtain⟨AFP,o,ho,Bv⟩:=mem_ready.1 hi;have qL:i<ops.size:=(aao.1 ho).1
 have Uo:AT.getD i false=false:=by
  have:i<AT.size:=by rw[h.size];exact qL
  simpa[aal,this]using AFP
 have M3:∀q,q∈ec ops i→AT.getD q false=true:=by
  intro q hq;simp only[ec,ho,aaU,acq]at hq;obtain⟨e,⟨he1,WX⟩,rfl⟩:=hq;exact Bv e (by simpa using he1) WX
 have AB':(VC o=true∧Qz P o=true)∧fI a0.nt o=true∧(Hz=none∨∀c,o.op≠.defer c):=by
  simp only[LU,aax,dy]at Aa;have hm:o∈ops.toList:=by simpa using acr ho
  obtain⟨⟨k1,k2⟩,k3⟩:=Aa o hm;refine⟨k1,k2,?_⟩;simp only[aaQ,aaC]at k3
  rcases k3 with h1|h1
  ·left;cases Hz with
   |none=>rfl
   |some _=>cases h1
  ·right;intro c hc;unfold Qy at h1;rw[hc]at h1;cases h1
 obtain⟨⟨JA,qG⟩,ZK,S_⟩:=AB';have hd:=PY ZK;have fv:∀d,d∈o.looksAt ops→AK ρ ((st i).a.at d) (a'.tmps.getD d undef):=λd hd=>h.look D1 h0 Ot ho Uo M3 hd
 have MN:∀j want,o.guard=some (j,want)→∀d,(ops[j]?).bind (·.dst)=some d→AK ρ ((st i).a.at d) (a'.tmps.getD d undef):=λj want hg d zV=>
  fv d (by unfold Oper.looksAt;rw[hg];simp[zV])
 have ZJ:∀x,x∈o.op.operands→Ak x=true→AK ρ ((st i).a.eval x) (a'.eval x):=by
  intro x hx hxo
  cases x with
  |tmp t=>
   rw[AI.RD];refine fv t ?_;unfold Oper.looksAt;refine ab6 _ (List.mem_filterMap.2 ⟨.tmp t,by simpa using hx,rfl⟩)
  |const v=>exact .Q2 ρ 8 v hxo
  |global g=>cases hxo
  |func f=>exact .func (.func f) rfl (λi hi=>by simp at hi) rfl (λi hi=>by simp at hi)
 have AFQ:∀t l c,o.op=.buildSlice t l c→∀p,p∈c.toList→AK ρ ((st i).a.eval p.2) (a'.eval p.2):=by
  intro t l c KA p hp;refine ZJ p.2 (by rw[KA];simp only[Op.operands];exact List.mem_toArray.2 (aaU.2 ⟨p,hp,rfl⟩)) ?_;unfold VC at JA;rw[KA]at JA;exact(aax.1 JA) p hp
 have ABP:∀t l c,o.op=.makeSlice t l c→∀x,(x=l∨x=c)→AK ρ ((st i).a.eval x) (a'.eval x):=by
  intro t l c KA x hx;refine ZJ x (by rw[KA];rcases hx with rfl|rfl<;>simp[Op.operands]) ?_;unfold VC at JA;rw[KA]at JA;simp only[dy]at JA
  rcases hx with rfl|rfl
  ·exact JA.1
  ·exact JA.2
 have Wk:∀j,i<j→j<ops.size→F9 ops i≠none→F9 ops j=F9 ops i→AT.getD j false=false:=by
  intro j h1 h2 h3 h4;have hdi:F9 ops i=o.dst:=by simp[F9,ho]
  cases zV:o.dst with
  |none=>rw[hdi,zV]at h3;exact(h3 rfl).elim
  |some t=>exact h.AFO D1 h0 Ot ho Uo zV j h1 h2 h4
 have uf:¬Wr st i→∀v' w2 ρ2,Ef (st p).W ρ (st p).W ρ2→AK ρ2 (val i) v'→AU P w0 ρ2 (st p).W w2→K (a'.put o.dst v') w2:=by
  intro Wm v' w2 ρ2 hg hv Fq
  refine hK _ _ ρ2 p (h.next ho hd Uo M3 Wk hg.1 hv h.ko h.pw ?_ Fq (h.grow.trans hg) ?_)
  ·intro j hj fq;have Dg:j≠i:=λe=>Wm (e▸fq);rw[←h.zW j hj fq];exact⟨λhh=>hh.resolve_right Dg,.inl⟩
  ·intro x hx hl _;obtain⟨u1,u2⟩:=h.cL x hx hl;exact⟨by rw[hg.2.1 _ u2];exact u1,u2⟩
 have cP:i=p→∀v' w2 ρ2,Ef (st p).W ρ (st (i+1)).W ρ2→AK ρ2 (val i) v'→AU P w0 ρ2 (st (i+1)).W w2→K (a'.put o.dst v') w2:=by
  intro tD v' w2 ρ2 hg hv Fq;obtain⟨p2,k1,k2,k3,k4,k5⟩:=Vi D1 (ops.size-(i+1)) (i+1) (by omega);rw[←k5]at hg Fq
  refine hK _ _ ρ2 p2 (h.next ho hd Uo M3 Wk hg.1 hv k2 k3 ?_ Fq (h.grow.trans hg) ?_)
  ·intro j hj fq;rw[h.zW j hj fq]
   constructor
   ·rintro(hh|hh)<;>omega
   ·intro hh
    by_cases e:j<i+1
    ·omega
    ·exact(k4 j (by omega) hh fq).elim
  ·intro x hx hl _;obtain⟨u1,u2⟩:=h.cL x hx hl;exact⟨by rw[hg.2.1 _ u2];exact u1,abC u2 hg.2.2⟩
 have hS:∀{outs:List (BQ×CW)},BF P o (st i).a.eval (st p).W=some outs→A3 P w0 ρ (st p).W ((execOp a'.eval o).run P w) outs:=λhc=>RC hz JA (λ_=>rfl) ZJ h.world hc;have hAb:∀{outs:List (BQ×CW)},BF P o (st i).a.eval (st p).W=some outs→(∀{f:FuncId} {args:List Value} {W1:CW},(BQ.enter f args,W1)∈outs→Ex P f)→∀f,o.about P w a'.eval=some f→Ex P f:=λhc hx=>Nk hc JA ZJ hx
 have ny:¬Wr st i→BF P o (st i).a.eval (st p).W=some [(.value (val i),(st p).W)]→o.wpIn (B7 P Hz) n P a' w K Q:=by
  intro Wm hc
  refine HE hR (hAb hc (λ{f args W1} hm=>by simp at hm)) (hS hc) S_ ?_ ?_ ?_ ?_ ?_ ?_ ?_
  ·intro v v' W1 ρ1 w1 hm hg hv Eg;simp only[dx,aar,BQ.value.injEq]at hm;obtain⟨rfl,rfl⟩:=hm;exact uf Wm v' w1 ρ1 hg hv Eg
  all_goals (intros;rename_i hm;first|(simp at hm;done)|skip)
  all_goals (intros;simp_all)
 unfold wpOpIn;rw[ho];simp only
 cases D1 i o ho with
 |never h1 _ _=>rw[hnn]at h1;cases h1
 | float ob hm LM he=>
  obtain⟨u1,u2⟩:=h.cL _ hm Uo;have Wl:=h.nu D1 h0 Ot ho Uo M3 fo (NJ _ hm);obtain⟨Ji,hfk⟩:=ZL _ hm;obtain⟨v',w',ρ',HR,C2,O5,hv,I_,hg,ZM,hnc⟩:=kq hz h.world hfk ho u1 u2 hR.eqv Wl LM a'.eval (λt l c KA=>⟨ABP t l c KA l (.inl rfl),ABP t l c KA c (.inr rfl)⟩) (λt l c KA p hp=>AFQ t l c KA p hp);have HT:Region.wanted o (yielded ops a'.tmps)=true:=by unfold Region.wanted;rw[hg]
  rw[HT,aad rfl];refine⟨λf hf=>IF _ (Wb hnc f hf),?_⟩;rw[Oper.semAt_eq _ _ _ ZM,HR]
  have Wm:¬Wr st i:=by
   rcases(D1 i o ho).wr with⟨_,_,H0⟩|⟨hn,_⟩
   ·exact(H0 _ hm rfl).elim
   ·exact hn
  refine hK _ _ ρ' p (h.next ho hd Uo M3 Wk C2 hv h.ko h.pw ?_ I_ ⟨h.grow.1.trans C2,λj hj=>?_,h.grow.2.2⟩ ?_)
  ·intro j hj fq;have Dg:j≠i:=λe=>Wm (e▸fq);rw[←h.zW j hj fq];exact⟨λhh=>hh.resolve_right Dg,.inl⟩
  ·have ALI:W0.sz≤nameOf (val i):=Ji;rw[O5 j (λe=>by have e:j=nameOf (val i):=e;omega)];exact h.grow.2.1 j hj
  ·intro x hx hl hxi;obtain⟨u1,u2⟩:=h.cL x hx hl;have Dg:=ABO fu hx hm (λe=>hxi (by rw[e]));exact⟨by rw[O5 _ Dg];exact u1,u2⟩
 |off H0 HT hv he=>
  rw[HH HT MN,aac (by simp)];have Wm:¬Wr st i:=by unfold Wr;rw[he];intro hh;have:=ab8 List.length hh;simp at this
  exact⟨λf hf=>IF _ (Nj JA qG (cO HT) f hf),uf Wm undef w ρ (.refl _) (by rw[hv];exact .undef _) h.world⟩
 |pure W1 H0 HT hp hc he=>
  rw[HH HT MN,aad rfl];have Wm:¬Wr st i:=by unfold Wr;rw[he];intro hh;have:=ab8 List.length hh;simp at this
  exact ny Wm (uZ hp hc _)
 |read W1 H0 HT hp hc he=>
  rw[HH HT MN,aad rfl];have Wm:¬Wr st i:=by unfold Wr;rw[he];intro hh;have:=ab8 List.length hh;simp at this
  refine ny Wm ?_;have JB:(i,o,(st i).a,val i)∈(st ops.size).rd:=nw hz hR D1 h0 fo Ot Aa M4 ZL fu NJ LN ops.size (i+1) (by omega) (aaf _) _ (by rw[he];simp);have hk:=h.nu D1 h0 Ot ho Uo M3 fo (LN i o _ _ JB)
  split at hk
  ·rename_i u W2 ep;rw[ep,hR.eqv _ _ hk,uY hp ep]
  ·cases hk
 |value W1 H0 HT Nn hc he=>
  rw[HH HT MN,aad rfl];have tD:=h.cM D1 h0 Ot M4 ho Uo M3 (by unfold Wr;rw[he]) Nn H0;have ug:(st (i+1)).W=W1:=by rw[he]
  have cQ:BF P o (st i).a.eval (st p).W=some [(.value (val i),W1)]:=by rw[←tD];exact hc
  refine HE hR (hAb cQ (λ{f args W1} hm=>by simp at hm)) (hS cQ) S_ ?_ ?_ ?_ ?_ ?_ ?_ ?_
  ·intro v v' W2 ρ1 w1 hm hg hv Eg;simp only[dx,aar,BQ.value.injEq]at hm;obtain⟨rfl,rfl⟩:=hm;exact cP tD v' w1 ρ1 (by rw[ug];exact hg) hv (by rw[ug];exact Eg)
  all_goals (intros;simp_all)
 |skip W1 H0 HT Nn hc tE he=>
  rw[HH HT MN,aad rfl];have tD:=h.cM D1 h0 Ot M4 ho Uo M3 (by unfold Wr;rw[he]) Nn H0;have ug:(st (i+1)).W=W1:=by rw[he]
  have cQ:BF P o (st i).a.eval (st p).W=some [(.skip,W1)]:=by rw[←tD];exact hc
  refine HE hR (hAb cQ (λ{f args W1} hm=>by simp at hm)) (hS cQ) S_ ?_ ?_ ?_ ?_ ?_ ?_ ?_
  ·intros;simp_all
  ·intro W2 ρ1 w1 hm hg Eg;simp only[dx,aar,true_and]at hm;subst hm;exact cP tD undef w1 ρ1 (by rw[ug];exact hg) (by rw[tE];exact .undef _) (by rw[ug];exact Eg)
  all_goals (intros;simp_all)
 | call f args W1 W2 m H0 HT Nn hc O3 Br he=>
  rw[HH HT MN,aad rfl];have tD:=h.cM D1 h0 Ot M4 ho Uo M3 (by unfold Wr;rw[he]) Nn H0;have ug:(st (i+1)).W=W2:=by rw[he]
  have cQ:BF P o (st i).a.eval (st p).W=some [(.enter f args,W1)]:=by rw[←tD];exact hc
  refine HE hR (hAb cQ (λ{f' args' ZA} hm=>by simp only[dx,aar,BQ.enter.injEq]at hm;obtain⟨⟨rfl,_⟩,_⟩:=hm;exact hR.ex O3)) (hS cQ) S_ ?_ ?_ ?_ ?_ ?_ ?_ ?_
  ·intros;simp_all
  ·intros;simp_all
  ·intros;simp_all
  ·intro f2 uh W3 hm;simp only[dx,aar,BQ.enter.injEq]at hm;obtain⟨⟨rfl,rfl⟩,rfl⟩:=hm;refine⟨m,O3,λ{ρ1} hg e2 w2 hE=>?_⟩;obtain⟨v',ρ2,rfl,NW,hv,Fq⟩:=MM Br hE;refine⟨λv2 WX=>?_,λc' WX=>by cases WX⟩
   cases WX
   exact cP tD v' w2 ρ2 (by rw[ug];exact hg.trans NW) hv (by rw[ug];exact Fq)
  all_goals (intros;simp_all)
 | round l args W1 W2 m H0 HT Nn hc O3 Br he=>
  rw[HH HT MN,aad rfl];have tD:=h.cM D1 h0 Ot M4 ho Uo M3 (by unfold Wr;rw[he]) Nn H0;have ug:(st (i+1)).W=W2:=by rw[he]
  have cQ:BF P o (st i).a.eval (st p).W=some [(.round l args,W1)]:=by rw[←tD];exact hc
  refine HE hR (hAb cQ (λ{f args W1} hm=>by simp at hm)) (hS cQ) S_ ?_ ?_ ?_ ?_ ?_ ?_ ?_
  ·intros;simp_all
  ·intros;simp_all
  ·intros;simp_all
  ·intros;simp_all
  ·intro l2 uh W3 hm;simp only[dx,aar,BQ.round.injEq]at hm;obtain⟨⟨rfl,rfl⟩,rfl⟩:=hm;refine⟨m,O3,λ{ρ1} hg e2 w2 hE=>?_⟩;obtain⟨v',ρ2,rfl,NW,hv,Fq⟩:=MM Br hE;refine⟨λv2 WX=>?_,λc' WX=>by cases WX⟩
   cases WX
   exact cP tD v' w2 ρ2 (by rw[ug];exact hg.trans NW) hv (by rw[ug];exact Fq)
  all_goals (intros;simp_all)
end
theorem IG(n i:Nat):(Array.replicate n false).getD i false=false:=by
 rw[aal,Array.getElem?_replicate];split<;>rfl
theorem ui{p q:Nat→Bool}:∀(l:List Nat),(∀j,j∈l→q j=true→p j=true)→(l.filter q).length≤(l.filter p).length
 |[],_=>aaf _
 |x::l,h=>by
  have ih:=ui l (λj hj=>h j (by simp[hj]));simp only[List.filter_cons]
  cases hq:q x with
  |true=>rw[h x (by simp) hq];simpa using ih
  |false=>cases p x<;>simp<;>omega
theorem uj{p q:Nat→Bool}{i:Nat}(hp:p i=true)(hq:q i=false):∀(l:List Nat),(∀j,j∈l→q j=true→p j=true)→i∈l→(l.filter q).length<(l.filter p).length
 |[],_,hi=>by cases hi
 | x::l,h,hi=>by
  simp only[List.filter_cons]
  rcases aaE.1 hi with rfl|hi
  ·rw[hp,hq];have:=ui l (λj hj=>h j (by simp[hj]));simp;omega
  ·have ih:=uj hp hq l (λj hj=>h j (by simp[hj])) hi
   cases hqx:q x with
   |true=>rw[h x (by simp) hqx];simpa using ih
   |false=>cases p x<;>simp<;>omega
section
variable {P:Program}{w0:World}{tB:Nat→Bool→Code→Bool}{R:C5}{ops:Array Oper}{fl:List (Nat×Value×Option Am)}{nv:Nat→Bool}{st:Nat→FE}{val:Nat→Value}{a0:AI}{W0:CW}{ρ0:Bk}
 {Hz:Option Nat} {n:Nat} {Q:Exit→Act→World→Prop}
theorem qM{AT:Array Bool}(Ot:Ix P ops=true)(hs:AT.size=ops.size)(h:Region.ready .any ops AT=[]):∀i,i<ops.size→AT.getD i false=true:=by
 intro i
 induction i using Nat.strongRecOn with
 | _ i ih=>
  intro hi
  cases hl:AT.getD i false with
  |true=>rfl
  | false=>
   have ho:ops[i]?=some ops[i]:=by simp[hi]
   have:i∈Region.ready .any ops AT:=by
    refine mem_ready.2 ⟨?_,ops[i],ho,λe he hb=>?_⟩
    ·have Jr:i<AT.size:=by omega
     simpa[aal,Jr]using hl
    ·have hq:e.on∈ec ops i:=by
      simp only[ec,ho,aaU,acq];exact⟨e,⟨by simpa using he,hb⟩,rfl⟩
     have:=PZ Ot hi _ hq;exact ih _ this (by omega)
   rw[h]at this;cases this
theorem fw(hz:ZP P)(hR:RS P w0 tB R)
  (D1:∀i o,ops[i]?=some o→Fs P R ops fl nv i o (st i) (st (i+1)) (val i)) (h0:(st 0).a=a0) (fo:(st 0).ws=[]) (Ot:Ix P ops=true) (Aa:LU P a0.nt Hz.isSome ops.toList=true)
  (M4:∀i,i∈G9 P ops→∃x,x∈fl∧x.1=i) (ZL:∀x,x∈fl→W0.sz≤nameOf x.2.1∧FK P ops x) (fu:fl.Pairwise (λx y=>nameOf x.2.1≠nameOf y.2.1))
  (NJ:∀x,x∈fl→DJ ops x.1 (Gh ops x.1) (LV R.eqv ops x.1 x.2.1 x.2.2) (st ops.size).ws (st ops.size).W=true)
  (LN:∀i o a v,(i,o,a,v)∈(st ops.size).rd→DJ ops i (Gh ops i) (λW=>match BF P o a.eval W with|some [(.value u,_)]=>R.eqv u v|_=>false) (st ops.size).ws (st ops.size).W=true)
  (hQ:(∀i,i<ops.size→nv i=false)→∀e a2 w2,K3 P w0 ρ0 W0 a0.nt [(.normal,(st ops.size).a,(st ops.size).W)] e a2 w2→Q e a2 w2)
  (hN:∀{AT:Array Bool} {a':Act} {w:World} {ρ:Bk} {p:Nat} {i:Nat} {K:Act→World→Prop},No P w0 ops fl st val a0 W0 ρ0 AT a' w ρ p→(∀j,nv j=true→AT.getD j false=false)→i∈Region.ready .any ops AT→nv i=true→wpOpIn (B7 P Hz) n P ops Q i K a' w) :
  ∀(fuel:Nat) (AT:Array Bool) (a':Act) (w:World) (ρ:Bk) (p:Nat),No P w0 ops fl st val a0 W0 ρ0 AT a' w ρ p→(∀j,nv j=true→AT.getD j false=false)→((List.range ops.size).filter λi=>!AT.getD i false).length≤fuel→
   wpAnyIn (B7 P Hz) n P .any ops Q fuel AT a' w:=by
 have fin:∀(AT:Array Bool) (a':Act) (w:World) (ρ:Bk) (p:Nat),No P w0 ops fl st val a0 W0 ρ0 AT a' w ρ p→(∀j,nv j=true→AT.getD j false=false)→(∀i,i<ops.size→AT.getD i false=true)→Q .normal a' w:=by
  intro AT a' w ρ p h LO Bv
  have hp:p=ops.size:=by
   rcases h.pw with e|hw
   ·exact e
   ·by_cases e:p=ops.size
    ·exact e
    ·have Ao:p<ops.size:=by have:=h.ko;omega
     have:=(h.zW p Ao hw).1 (Bv p Ao);omega
  subst hp;obtain⟨NI,hdf⟩:=ABN D1 a0 h0 ops.size (aaf _)
  refine hQ (λi hi=>by
   cases hn:nv i with
   |false=>rfl
   |true=>have:=LO i hn;rw[Bv i hi]at this;cases this) _ _ _ ⟨.normal,_,_,ρ,dx.2 rfl,h.grow,.normal,⟨λd=>?_,by rw[NI];exact h.fp,by rw[hdf];exact h.defers⟩,h.world,NI⟩
  rw[ua D1 a0 h0 d ops.size (aaf _)];have:=h.nr d
  rwa[RH (L':=λ_=>true) λj hj _=>Bv j hj]at this
 intro fuel
 induction fuel with
 | zero=>
  intro AT a' w ρ p h LO hc
  have Bv:∀i,i<ops.size→AT.getD i false=true:=by
   intro i hi
   cases hl:AT.getD i false with
   |true=>rfl
   |false=>
    have hm:i∈(List.range ops.size).filter λi=>!AT.getD i false:=acq.2 ⟨aaV.2 hi,by rw[hl];rfl⟩;have:=List.length_pos_of_mem hm;omega
  refine⟨?_,fin _ _ _ _ _ h LO Bv⟩
  cases hr:Region.ready .any ops AT with
  |nil=>rfl
  |cons i l=>
   obtain⟨h1,o,ho,_⟩:=mem_ready.1 (show i∈Region.ready .any ops AT by rw[hr];simp);have hi:i<ops.size:=(aao.1 ho).1;have h2:=Bv i hi;have Jr:i<AT.size:=by rw[h.size];exact hi
   simp[Jr]at h1 h2;rw[h1]at h2;cases h2
 | succ fuel ih=>
  intro AT a' w ρ p h LO hc;refine⟨λhr=>fin _ _ _ _ _ h LO (qM Ot h.size hr),λi hi=>?_⟩
  by_cases tF:nv i=true
  ·exact hN h LO hi tF
  refine qK hz hR D1 h0 fo Ot Aa M4 ZL fu NJ LN h hi (λe=>(tF e).elim) λa2 w2 ρ2 p2 h2=>ih _ _ _ _ _ h2 (λj hj=>?_) ?_
  ·have Dg:j≠i:=λe=>tF (e▸hj);have:=LO j hj;simp only[aal,aaT]at this ⊢;rw[aac (abW Dg)];exact this
  obtain⟨h1,o,ho,_⟩:=mem_ready.1 hi;have qL:i<ops.size:=(aao.1 ho).1;have Jr:i<AT.size:=by rw[h.size];exact qL
  have Uo:AT.getD i false=false:=by simpa[aal,Jr]using h1
  have:=uj (p:=λi=>!AT.getD i false) (q:=λj=>!(AT.setIfInBounds i true).getD j false) (i:=i) (by simp only[Uo];rfl)
   (by simp only[(GQ Jr (j:=i)).2 (.inr rfl)];rfl) (List.range ops.size) (λj _ hj=>by
    cases hl:AT.getD j false with
    |false=>rfl
    |true=>
     simp only[(GQ Jr).2 (.inl hl)]at hj
     cases hj) (aaV.2 qL)
  omega
theorem zY{i q:Nat}(Ot:Ix P ops=true)(hi:i<ops.size)(h:CB (Gh ops i) q=true):q<i :=
 HU (L:=λx=>x<i) (λj hj q hq=>by have:=PZ Ot (Nat.lt_trans hj hi) q hq;omega) (λq hq=>PZ Ot hi q hq) h
theorem um(hz:ZP P)(hR:RS P w0 tB R){i0:Nat}{ch:List PanicEntry}{W2:CW}
  (D1:∀i o,ops[i]?=some o→Fs P R ops [] (NH ops i0) i o (st i) (st (i+1)) (val i)) (h0:(st 0).a=a0) (fo:(st 0).ws=[]) (Ot:Ix P ops=true) (Aa:LU P a0.nt Hz.isSome ops.toList=true)
  (hwa:∀x,x∈(st ops.size).ws→CB (Gh ops i0) x.1=true) {o0:Oper} (ho0:ops[i0]?=some o0) (hp:Ek P R ops [] i0 o0 (st i0)=some (ch,W2))
  (hQ:∀e a2 w2,K3 P w0 ρ0 W0 a0.nt [(.panic ch,a0.bad,W2)] e a2 w2→Q e a2 w2)
  {AT:Array Bool} {a':Act} {w:World} {ρ:Bk} {p:Nat} {i:Nat} {K:Act→World→Prop} (h:No P w0 ops [] st val a0 W0 ρ0 AT a' w ρ p) (LO:∀j,NH ops i0 j=true→AT.getD j false=false) (hi:i∈Region.ready .any ops AT) (tF:NH ops i0 i=true):wpOpIn (B7 P Hz) n P ops Q i K a' w:=by
 obtain⟨AFP,o,ho,Bv⟩:=mem_ready.1 hi;have qL:i<ops.size:=(aao.1 ho).1;have Uo:AT.getD i false=false:=LO i tF
 have M3:∀q,q∈ec ops i→AT.getD q false=true:=by
  intro q hq;simp only[ec,ho,aaU,acq]at hq;obtain⟨e,⟨he1,WX⟩,rfl⟩:=hq;exact Bv e (by simpa using he1) WX
 have self:NH ops i0 i0=true:=by unfold NH;simp
 have hii:i=i0:=by
  by_cases e:i=i0
  ·exact e
  ·have hm:CB (Gh ops i) i0=true:=by
    unfold NH at tF;simp only[aaQ]at tF;have:=tF.resolve_left λhh=>e (aab hh);simp only[dy]at this;exact this.2
   have:=HU (L:=λx=>AT.getD x false=true) h.closed M3 hm;rw[LO i0 self]at this;cases this
 subst hii;rw[ho0]at ho
 cases ho
 have hpe:p=ops.size:=by
  rcases h.pw with e|hw
  ·exact e
  ·by_cases e:p=ops.size
   ·exact e
   ·have Ao:p<ops.size:=by have:=h.ko;omega
    obtain⟨A,h1,h2,_⟩:=Wi D1 (p:=p+1) ops.size (by omega) (aaf _);have JB:(p,(st p).W)∈(st ops.size).ws:=by rw[h1,hw];simp
    have hm:=hwa _ JB;have:=HU (L:=λx=>AT.getD x false=true) h.closed M3 hm;have:=(h.zW p Ao hw).1 this;omega
 subst hpe;have AId:∀q,CB (Gh ops i) q=true→q<i:=λq hq=>zY Ot qL hq
 have hW:(st ops.size).W=(st i).W:=by
  obtain⟨A,h1,h2,h3⟩:=Wi D1 (p:=i) ops.size (by omega) (aaf _)
  cases A with
  |nil=>exact h3
  |cons x A=>
   have:=h2 x (by simp);have h4:=AId _ (hwa x (by rw[h1];simp));omega
 have AB':(VC o0=true∧Qz P o0=true)∧fI a0.nt o0=true∧(Hz=none∨∀c,o0.op≠.defer c):=by
  simp only[LU,aax,dy]at Aa;have hm:o0∈ops.toList:=by simpa using acr ho0
  obtain⟨⟨k1,k2⟩,k3⟩:=Aa o0 hm;refine⟨k1,k2,?_⟩;simp only[aaQ,aaC]at k3
  rcases k3 with h1|h1
  ·left;cases Hz with
   |none=>rfl
   |some _=>cases h1
  ·right;intro c hc;unfold Qy at h1;rw[hc]at h1;cases h1
 obtain⟨⟨JA,qG⟩,ZK,S_⟩:=AB';have fv:∀d,d∈o0.looksAt ops→AK ρ ((st i).a.at d) (a'.tmps.getD d undef):=λd hd=>h.look D1 h0 Ot ho0 Uo M3 hd
 have MN:∀j want,o0.guard=some (j,want)→∀d,(ops[j]?).bind (·.dst)=some d→AK ρ ((st i).a.at d) (a'.tmps.getD d undef):=λj want hg d zV=>
  fv d (by unfold Oper.looksAt;rw[hg];simp[zV])
 have ZJ:∀x,x∈o0.op.operands→Ak x=true→AK ρ ((st i).a.eval x) (a'.eval x):=by
  intro x hx hxo
  cases x with
  |tmp t=>
   rw[AI.RD];refine fv t ?_;unfold Oper.looksAt;refine ab6 _ (List.mem_filterMap.2 ⟨.tmp t,by simpa using hx,rfl⟩)
  |const v=>exact .Q2 ρ 8 v hxo
  |global g=>cases hxo
  |func f=>exact .func (.func f) rfl (λi hi=>by simp at hi) rfl (λi hi=>by simp at hi)
 have hS:∀{outs:List (BQ×CW)},BF P o0 (st i).a.eval (st ops.size).W=some outs→A3 P w0 ρ (st ops.size).W ((execOp a'.eval o0).run P w) outs:=λhc=>RC hz JA (λ_=>rfl) ZJ h.world hc;unfold Ek at hp;simp only[List.find?_nil]at hp;split at hp
 rotate_left
 ·cases hp
 rename_i HT
 have out:∀{m:List (Ending×CW)} {W1:CW} {ρ1:Bk} {e2:Ending} {w2:World},m=[(.panicked ch,W2)]→Ef (st ops.size).W ρ W1 ρ1→VK P w0 ρ1 W1 m e2 w2→(∀v',e2=.returned v'→K (a'.put o0.dst v') w2)∧∀c',e2=.panicked c'→Q (.panic c') a' w2:=by
  intro m W1 ρ1 e2 w2 hm hg hE;subst hm;obtain⟨e,W3,ρ2,JB,NW,hN,Fq⟩:=hE
  cases dx.1 JB
  cases hN with
  |panicked Ic=>
   refine⟨λv' he=>(by cases he),λc' he=>?_⟩
   cases he
   refine hQ _ _ _ ⟨_,_,_,ρ2,dx.2 rfl,(h.grow.trans hg).trans NW,.panic Ic,⟨λhb=>(by rw[AI.AB7]at hb;cases hb),h.fp,?_⟩,Fq,rfl⟩;exact forall₂_mono (λ_ _ x=>x.mono (hg.trans NW).1) h.defers
 unfold wpOpIn;rw[ho0];simp only;rw[HH HT MN,aad rfl];rw[cond_eq_ite]at hp
 split at hp
 ·cases hp
 rw[cond_eq_ite]at hp
 split at hp
 ·cases hp
 split at hp
 ·rename_i f args W1 hc;split at hp
  rotate_left
  ·cases hp
  rename_i ch1 W3 hm
  cases hp
  rw[←hW]at hc
  refine HE hR (Nk hc JA ZJ (λ{f' args' ZA} hm'=>by simp only[dx,aar,BQ.enter.injEq]at hm';obtain⟨⟨rfl,_⟩,_⟩:=hm';exact hR.ex hm)) (hS hc) S_ ?_ ?_ ?_ ?_ ?_ ?_ ?_
  ·intros;simp_all
  ·intros;simp_all
  ·intros;simp_all
  ·intro f2 uh W3 Sh;simp only[dx,aar,BQ.enter.injEq]at Sh;obtain⟨⟨rfl,rfl⟩,rfl⟩:=Sh;exact⟨_,hm,λ{ρ1} hg e2 w2 hE=>out rfl hg hE⟩
  all_goals (intros;simp_all)
 ·rename_i l args W1 hc;split at hp
  rotate_left
  ·cases hp
  rename_i ch1 W3 hm
  cases hp
  rw[←hW]at hc
  refine HE hR (Nk hc JA ZJ (λ{f args W1} hm=>by simp at hm)) (hS hc) S_ ?_ ?_ ?_ ?_ ?_ ?_ ?_
  ·intros;simp_all
  ·intros;simp_all
  ·intros;simp_all
  ·intros;simp_all
  ·intro l2 uh W3 Sh;simp only[dx,aar,BQ.round.injEq]at Sh;obtain⟨⟨rfl,rfl⟩,rfl⟩:=Sh;exact⟨_,hm,λ{ρ1} hg e2 w2 hE=>out rfl hg hE⟩
  all_goals (intros;simp_all)
 ·cases hp
theorem cR(hz:ZP P)(hR:RS P w0 tB R)(Ou:P.follows .mixedOrders=true){id:Nat}{a:AI}{W:CW}{outs:List (Exit×AI×CW)}{ρ:Bk}{a':Act}{w:World}(h:Iy P R ops a W=some outs)
  (Ot:Ix P ops=true) (Aa:LU P a.nt Hz.isSome ops.toList=true) (ha:AR ρ a a') (hw:AU P w0 ρ W w) (hQ:∀e a2 w2,K3 P w0 ρ W a.nt outs e a2 w2→Q e a2 w2) :
  (Code.region id ops true).wpIn (B7 P Hz) n P Q a' w:=by
 refine wpIn_region_any Ou ?_;unfold Iy at h
 split at h
 ·cases h
 rename_i fl W1 Bw
 split at h
 ·split at h
  ·cases h
  rename_i i0 ch W2 KN
  split at h
  ·cases h
  rename_i s HR;rw[cond_eq_ite]at h;split at h
  rotate_left
  ·cases h
  rename_i LM;rw[cond_eq_ite]at h;split at h
  rotate_left
  ·cases h
  rename_i kr
  cases h
  simp only[dy]at LM;obtain⟨AIe,uo⟩:=LM;have LZ:fl=[]:=by simpa using AIe
  subst LZ;obtain⟨Eg,Hs,ZL,fu,M4⟩:=PD Bw (λi hi=>Un hi) (hw.drew (w.drawn+1));obtain⟨st,val,s0,sn,D1,hrt⟩:=Wh (fl:=[]) (nv:=NH ops i0) km HR;subst sn;have e0:(st 0).a=a:=by rw[s0]
  have e1:(st 0).W=W1:=by rw[s0]
  obtain⟨p,_,p2,p3,p4,p5⟩:=Vi D1 ops.size 0 (by omega);rw[e1]at p5
  obtain⟨_,o0,s1,ho0,WY,Hv⟩:=PC (F:=Hy P R ops [] i0) (s0:=⟨a,W1,[],[]⟩) (λi o s hi=>by
   unfold Hy;have:NH ops i0 i=false:=na hi
   rw[this];rfl) ops.toList 0 _ rfl rfl KN
  have FZ:i0<ops.size:=(aao.1 ho0).1
  have AIf:s1=st i0:=by
   have:=hrt i0 (by omega);rw[WY]at this;exact aa1 this
  subst AIf
  refine fw (a0:=a) (W0:=W) (ρ0:=ρ) hz hR D1 e0 (by rw[s0]) Ot Aa M4 (λx hx=>by cases hx) .nil (λx hx=>by cases hx) (λi o a2 v hm=>(aax.1 kr) _ hm) (λhn=>?_) (λ{AT a' w ρ p i K} h LO hi tF=>um hz hR D1 e0 (by rw[s0]) Ot Aa (λx hx=>(aax.1 uo) x hx) ho0 Hv hQ h LO hi tF) ops.size _ a' _ ρ p ?_ (λj _=>IG _ _) ?_
  ·have:=hn i0 FZ;unfold NH at this;simp at this
  ·refine⟨by simp,?_,?_,ha.size,ha.defers,p2,?_,p3,by rw[p5];exact Eg,⟨.refl _,λ_ _=>rfl,by rw[p5];exact Hs⟩,λx hx=>by cases hx⟩
   ·intro i hi;rw[IG]at hi;cases hi
   ·intro d
    have:TT (F9 ops) val a.at (λi=>(Array.replicate ops.size false).getD i false) ops.size d=a.at d:=by
     rw[Wg (i:=0) (aa7 _) λj _ hj _=>IG _ _];rfl
    rw[this];exact ha.tmps d
   ·intro j hj fq
    constructor
    ·intro hh;rw[IG]at hh;cases hh
    ·intro hh;exact(p4 j (aa7 _) hh fq).elim
  ·refine abh (acR _ _) ?_;simp
 rename_i s HR;rw[Zz]at HR;rw[cond_eq_ite]at h;split at h
 rotate_left
 ·cases h
 rename_i kr;rw[cond_eq_ite]at h;split at h
 rotate_left
 ·cases h
 rename_i zZ
 cases h
 obtain⟨Eg,Hs,ZL,fu,M4⟩:=PD Bw (λi hi=>Un hi) (hw.drew (w.drawn+1));obtain⟨st,val,s0,sn,D1,_⟩:=Wh (nv:=λ_=>false) (λi o s s' h=>PA h) HR;subst sn;have e0:(st 0).a=a:=by rw[s0]
 have e1:(st 0).W=W1:=by rw[s0]
 obtain⟨p,_,p2,p3,p4,p5⟩:=Vi D1 ops.size 0 (by omega);rw[e1]at p5
 refine fw (a0:=a) (W0:=W) (ρ0:=ρ) hz hR D1 e0 (by rw[s0]) Ot Aa M4 (λx hx=>⟨(ZL x hx).1,(ZL x hx).2.2⟩) fu ?_ ?_ (λ_=>hQ) (λ{AT a' w ρ p i K} h LO hi tF=>by cases tF) ops.size _ a' _ ρ p ?_ (λj hj=>by cases hj) ?_
 ·intro x hx;exact(aax.1 zZ) x hx
 ·intro i o a2 v hm;exact(aax.1 kr) _ hm
 ·refine⟨by simp,?_,?_,ha.size,ha.defers,p2,?_,p3,by rw[p5];exact Eg,⟨.refl _,λ_ _=>rfl,by rw[p5];exact Hs⟩,?_⟩
  ·intro i hi;rw[IG]at hi;cases hi
  ·intro d
   have:TT (F9 ops) val a.at (λi=>(Array.replicate ops.size false).getD i false) ops.size d=a.at d:=by
    rw[Wg (i:=0) (aa7 _) λj _ hj _=>IG _ _];rfl
   rw[this];exact ha.tmps d
  ·intro j hj fq
   constructor
   ·intro hh;rw[IG]at hh;cases hh
   ·intro hh;exact(p4 j (aa7 _) hh fq).elim
  ·intro x hx _;obtain⟨k1,k2,_⟩:=ZL x hx;refine⟨?_,by rw[p5];exact k2⟩
   cases hr:ρ (nameOf x.2.1)with
   |none=>rfl
   |some y=>have:=hw.VF _ _ hr;omega
 ·refine abh (acR _ _) ?_;simp
end
inductive Ov(ρ:Bk):FrameMode→FrameMode→Prop
 |returning:Ov ρ .returning .returning
 |panicking {c c':List PanicEntry}:RE ρ c c'→Ov ρ (.panicking c) (.panicking c')
theorem Ov.mono{ρ ρ':Bk}{u u':FrameMode}(h:Ov ρ u u')(e:Ext ρ ρ'):Ov ρ' u u':=by
 cases h with
 |returning=>exact .returning
 |panicking h=>exact .panicking (h.mono e)
def AB_(P:Program)(w0:World)(ρ:Bk)(W:CW)(outs:List (Ending×FrameMode×CW)):Ending→FrameMode→World→Prop :=
 λe' u' w'=>∃e u W2 ρ2,(e,u,W2)∈outs∧Ef W ρ W2 ρ2∧zS ρ2 e e'∧Ov ρ2 u u'∧AU P w0 ρ2 W2 w'
structure Wo(P:Program)(w0:World)(k:Nat)(R:C5):Prop extends RS P w0 (codeOk P) R where
 loop:∀{ro Hz:Option Nat} {fn:FuncId} {b:Code} {a:AI} {W:CW} {outs:List (Exit×AI×CW)} {ρ:Bk} {w:World} {a':Act},R.code ro fn (.loop b) a W=some outs→KO ρ ro Hz→AR ρ a a'→AU P w0 ρ W w→
  codeOk P a.nt ro.isSome b=true→∀n (Q:Exit→Act→World→Prop),(∀e a2 w2,K3 P w0 ρ W a.nt outs e a2 w2→Q e a2 w2)→Code.roundsIn (B7 P Hz) n P b Q k a' w
 exd:∀{f:FuncId} {args:List Value} {u:FrameMode} {W:CW} {outs:List (Ending×FrameMode×CW)},R.HO f args u W=some outs→Ex P f
 HO:∀{f:FuncId} {args:List Value} {u u':FrameMode} {W:CW} {outs:List (Ending×FrameMode×CW)} {ρ:Bk} {w:World} {args':Array Value},R.HO f args u W=some outs→Ap ρ args args'.toList→Ov ρ u u'→AU P w0 ρ W w→
  (callFunc f args').run P w=.ok (.enter f args') w∧∀n,CallsDIn (F0 P) n P f args' u' w (AB_ P w0 ρ W outs)
section
variable {P:Program}{w0:World}{k:Nat}{R:C5}
theorem KO.isSome{ρ:Bk}{ro Hz:Option Nat}(h:KO ρ ro Hz):Hz.isSome=ro.isSome:=by cases h<;>rfl
theorem KO.mono{ρ ρ':Bk}{ro Hz:Option Nat}(h:KO ρ ro Hz)(e:Ext ρ ρ'):KO ρ' ro Hz:=by
 cases h with
 |none=>exact .none
 |some h=>exact .some (h.mono e)
theorem TC(hS:Wo P w0 k R){ro Hz:Option Nat}{fn:FuncId}{x:Code}{a:AI}{W:CW}{outs:List (Exit×AI×CW)}{ρ:Bk}{w:World}{a':Act}{f:AI→CW→PV}{n:Nat}{K:Act→World→Prop}{Q:Exit→Act→World→Prop}
  (h:Q0 (R.code ro fn x a W) f=some outs) (hr:KO ρ ro Hz) (ha:AR ρ a a') (hw:AU P w0 ρ W w) (Aa:codeOk P a.nt ro.isSome x=true) (hQ:∀e a2 w2,K3 P w0 ρ W a.nt outs e a2 w2→Q e a2 w2)
  (hK:∀{a1 W1 m ρ1 a1' w1},f a1 W1=some m→KO ρ1 ro Hz→AR ρ1 a1 a1'→AU P w0 ρ1 W1 w1→a1.nt=a.nt→(∀e a2 w2,K3 P w0 ρ1 W1 a1.nt m e a2 w2→Q e a2 w2)→K a1' w1) :
  x.wpIn (B7 P Hz) n P (Exit.then K Q) a' w:=by
 obtain⟨l,hl,Bv⟩:=B5 h;refine wpIn_mono (hS.code hl hr ha hw Aa n) λe' a2 w2 hc=>?_;obtain⟨e,a1,W1,ρ1,hm,hg,hx,C8,Eg,NI⟩:=hc;obtain⟨m,Br,B0⟩:=Bv _ hm;have other:(∀a2,e'≠.normal→m=[(e,a1,W1)]→Q e' a2 w2)∨True:=.inr trivial
 cases hx with
 |normal=>
  exact hK Br (hr.mono hg.1) C8 Eg NI λe a2 w2 hc=>hQ e a2 w2 (K3.mono (by rw[←NI];exact hc) hg B0)
 |exit id=>
  cases Br
  exact hQ _ _ _ ⟨_,a1,W1,ρ1,B0 _ (dx.2 rfl),hg,.exit id,C8,Eg,NI⟩
 |ret=>
  cases Br
  exact hQ _ _ _ ⟨_,a1,W1,ρ1,B0 _ (dx.2 rfl),hg,.ret,C8,Eg,NI⟩
 |panic Ic=>
  cases Br
  exact hQ _ _ _ ⟨_,a1,W1,ρ1,B0 _ (dx.2 rfl),hg,.panic Ic,C8,Eg,NI⟩
theorem Wp(hS:Wo P w0 k R){ro Hz:Option Nat}{fn:FuncId}{b:Code}{a:AI}{W:CW}{outs:List (Exit×AI×CW)}{ρ:Bk}{w:World}{a':Act}{n:Nat}{Q:Exit→Act→World→Prop}
  (h:Q0 (R.code ro fn b a W) (R.code ro fn (.loop b))=some outs) (hr:KO ρ ro Hz) (ha:AR ρ a a') (hw:AU P w0 ρ W w) (Aa:codeOk P a.nt ro.isSome b=true) (hQ:∀e a2 w2,K3 P w0 ρ W a.nt outs e a2 w2→Q e a2 w2) :
  Code.roundsIn (B7 P Hz) n P b Q (k+1) a' w :=
 TC hS h hr ha hw Aa hQ λ{a1 W1 m ρ1 a1' w1} h1 KE C8 Eg NI hQ1=>hS.loop h1 KE C8 Eg (by rw[NI];exact Aa) n Q hQ1
theorem fx{l:Nat}{r:Loop}{w:World}(h:w.heap[l]?=some (.loop r))(hb:r.state≠.busy):(Instr.endLoop l).run P w=.ok r.pending {w with heap:=w.heap.setIfInBounds l (.loop {r with state:=.exhausted})}:=by
 have hb:(r.state== .busy)=false:=by cases hs:r.state<;>simp_all
 simp only[Instr.endLoop,Instr.getLoop,aae,Ar h (by simp),zC,aak,hb,aaM,abk,DK h (by simp)]
theorem VL(hS:Wo P w0 k R){ro Hz:Option Nat}{fn:FuncId}{f:Operand}{ps:Array Tmp}{asz bd:Code}{a:AI}{W:CW}{outs:List (Exit×AI×CW)}{ρ:Bk}{w:World}{a':Act}{n:Nat}{Q:Exit→Act→World→Prop}
  (h:Bs P R ro fn (.rangeFunc f ps asz bd) a W=some outs) (hr:KO ρ ro Hz) (ha:AR ρ a a') (hw:AU P w0 ρ W w) (Aa:codeOk P a.nt ro.isSome (.rangeFunc f ps asz bd)=true) (hQ:∀e a2 w2,K3 P w0 ρ W a.nt outs e a2 w2→Q e a2 w2) :
  (Code.rangeFunc f ps asz bd).wpIn (B7 P Hz) n P Q a' w:=by
 simp only[codeOk,dy]at Aa;obtain⟨⟨⟨JA,ZK⟩,S_⟩,AIg⟩:=Aa;refine wpIn_rangeFunc λVj ACA=>?_;have ACA:=kf ACA;rw[O9];simp only[Bs]at h
 have Bw:∀{dl:Nat} {mark:List Deferred} {W1:CW},WS ro W=some (dl,mark,W1)→
   ∃dl' Uq w1 ρ1,Ef W ρ W1 ρ1∧AU P w0 ρ1 W1 w1∧NY ρ1 dl dl'∧KC (LW ρ1) mark Uq∧
    (∀o:Loop,(Instr.enterLoop Vj a'.tmps ps asz bd Hz).run P w=.ok (w1.heap.size,Uq) {w1 with heap:=w1.heap.push (.loop {state:=.ready,pending:=none,fn:=Vj,tmps:=a'.tmps,params:=ps,assign:=asz,body:=bd,defers:=dl'})}):=by
  intro dl mark W1 hm;unfold WS at hm
  cases hr with
  |none=>
   simp only[aag,aar]at hm;obtain⟨rfl,rfl,rfl⟩:=hm;obtain⟨hg,Eg⟩:=hw.new (o:=.deferred) (o':=.deferred (some [])) ⟨w.heap.size,0,0,0,0⟩ rfl .deferred;refine⟨w.heap.size,[{target:=.collected w.heap.size,args:=#[]}],_,_,hg,Eg,⟨⟨w.heap.size,0,0,0,0⟩,by simp,rfl⟩,.cons (.collected ⟨⟨w.heap.size,0,0,0,0⟩,by simp,rfl⟩) .nil,λ_=>?_⟩;simp only[Instr.enterLoop,aae,run_newObj,zC,aak]
  | @some l l' hb=>
   simp only at hm
   split at hm
   ·rename_i st pd f0 t nt ps0 as0 bd0 d BY;simp only[aag,aar]at hm;obtain⟨rfl,rfl,rfl⟩:=hm;obtain⟨x,hx,rfl⟩:=hb;obtain⟨o',I0,CG⟩:=hw.obj BY (by simp) hx rfl
    cases CG with
    | @loop _ _ _ f0' _ t' _ _ _ _ d' h1 h2 h3 h4=>
     refine⟨d',[],w,ρ,.refl _,hw,h2,.nil,λ_=>?_⟩;simp only[Instr.enterLoop,Instr.getLoop,aae,Ar I0 (by simp),run_newObj,zC,aak]
   ·cases hm
 split at h
 ·cases h
 rename_i dl mark W1 hm;obtain⟨dl',Uq,w1,ρ1,hg1,Eg,ek,za,cS⟩:=Bw hm;have cS:=cS {state:=.ready,pending:=none,fn:=Vj,tmps:=a'.tmps,params:=ps,assign:=asz,body:=bd,defers:=dl'};split at h
 rotate_left
 ·cases h
 rename_i g args E8;obtain⟨AK_,uq,Bv⟩:=B5 h;have C8:=ha.mono hg1.1
 have AIh:ρ1 W1.sz=none:=by
  cases hq:ρ1 W1.sz with
  |none=>rfl
  |some y=>have:=Eg.VF _ _ hq;omega
 obtain⟨NW,Fq⟩:=Eg.new (o:=.loop .ready none fn a.t a.nt ps asz bd dl) (o':=.loop {state:=.ready,pending:=none,fn:=Vj,tmps:=a'.tmps,params:=ps,assign:=asz,body:=bd,defers:=dl'}) ⟨w1.heap.size,0,0,0,0⟩ rfl (by
  have C2:Ext ρ1 (λi=>if i=W1.sz then some (⟨w1.heap.size,0,0,0,0⟩:Info)else ρ1 i):=λi y hy=>by
   show(if i=W1.sz then _ else ρ1 i)=some y
   by_cases e:i=W1.sz
   ·subst e;rw[AIh]at hy;cases hy
   ·rw[aac e];exact hy
  have:=Iz.loop (P:=P) (ρ:=λi=>if i=W1.sz then some (⟨w1.heap.size,0,0,0,0⟩:Info)else ρ1 i) (x:=⟨w1.heap.size,0,0,0,0⟩) (st:=.ready) (pd:=none) (f:=fn) (f':=Vj) (t:=a.t) (t':=a'.tmps) (ps:=ps) (asz:=asz) (bd:=bd) (d:=dl) (d':=dl') (λi=>(C8.tmps i).mono C2) (ek.mono C2) (by rw[ha.size];exact⟨ZK,S_,AIg⟩) ACA;rw[ha.size]at this
  exact this)
 have PG:(λi=>if i=W1.sz then some (⟨w1.heap.size,0,0,0,0⟩:Info)else ρ1 i) W1.sz=some ⟨w1.heap.size,0,0,0,0⟩:=by simp
 generalize (λi=>if i=W1.sz then some (⟨w1.heap.size,0,0,0,0⟩:Info)else ρ1 i)=ρ2 at NW Fq PG;generalize ({w1 with heap:=w1.heap.push (.loop {state:=.ready,pending:=none,fn:=Vj,tmps:=a'.tmps,params:=ps,assign:=asz,body:=bd,defers:=dl'})}:World)=w2 at Fq cS;have ACB:=hg1.trans NW;unfold JI at E8
 split at E8
 ·rename_i fid first cap hfe;simp only[aag,BQ.enter.injEq]at E8;obtain⟨rfl,rfl⟩:=E8;have s7:=(ha.mono ACB.1).eval f JA;rw[hfe]at s7;generalize FO:a'.eval f=vf at s7
  cases s7 with
  | @func _ f' _ x' _ y' cD h1 h2 h3 h4=>
   cases cD
   have hy:AK ρ2 (.func (.yield W1.sz) #[] #[]) (.func (.yield w1.heap.size) #[] #[]):=.func (.yield ⟨_,PG,rfl⟩) rfl (λi hi=>by simp at hi) rfl (λi hi=>by simp at hi)
   have DC:Ap ρ2 (first.toList++[Value.func (.yield W1.sz) #[] #[]]++cap.toList) (x'++#[Value.func (.yield w1.heap.size) #[] #[]]++y').toList:=by
    have e1:=Ap.arr.2 ⟨h1,h2⟩;have e2:=Ap.arr.2 ⟨h3,h4⟩
    simpa using(e1.append (.cons hy (.nil _))).append e2
   obtain⟨FN,ACC⟩:=hS.call uq DC Fq
   refine⟨w1.heap.size,Uq,w2,{target:=.fn (.func fid) y',args:=x'++#[Value.func (.yield w1.heap.size) #[] #[]]},w2,fid,x'++#[Value.func (.yield w1.heap.size) #[] #[]]++y',w2,cS,?_,λf' jq=>IF _ (by simp only[Target.leads,aag]at jq;subst jq;exact hS.ex uq),?_,by rw[O'];simp,?_⟩
   ·have em:#[Operand.const (Value.func (.yield w1.heap.size) #[] #[])].map a'.eval=#[Value.func (.yield w1.heap.size) #[] #[]]:=by simp[Act.eval]
    simp only[resolve,FO,Deferred.ofValue,aak,em]
   ·simp only[invoke];exact FN
   ·refine O_ ((ACC (n-1)).mono λe2 w3 hE=>?_);obtain⟨e,W3,ρ3,JB,hg3,hN,hw3⟩:=hE;obtain⟨m,Br,B0⟩:=Bv _ JB
    cases hN with
    | panicked Ic=>
     cases Br
     have ZN:=ACB.trans hg3;have h3:=ha.mono ZN.1;refine hQ _ _ _ ⟨_,_,_,ρ3,B0 _ (dx.2 rfl),ZN,.panic Ic,⟨λ_=>h3.tmps,h3.size,?_⟩,hw3,rfl⟩;have ACD:KC (LW ρ3) mark Uq:=forall₂_mono (λ_ _ x=>x.mono (NW.trans hg3).1) za
     have key:∀{l l':List Deferred},KC (LW ρ3) l l'→KC (LW ρ3) (l++a.defers) (l'++a'.defers):=by
      intro l l' hl
      induction hl with
      |nil=>exact h3.defers
      |cons hx _ ih=>exact .cons hx ih
     exact key ACD
    | returned _=>
     simp only at Br;split at Br
     rotate_left
     ·cases Br
     rename_i st pd lf lt ln lp la lb ld BY;have hx3:ρ3 W1.sz=some ⟨w1.heap.size,0,0,0,0⟩:=hg3.1 _ _ PG;obtain⟨o',I0,CG⟩:=hw3.obj BY (by simp) hx3 rfl;have ZN:=ACB.trans hg3
     cases CG with
     | @loop _ _ _ f0' _ t' _ _ _ _ d' k1 k2 k3 k4=>
      have hA:AR ρ3 {a with defers:=mark++a.defers} {a' with defers:=Uq++a'.defers}:=by
       have h3:=ha.mono ZN.1;refine⟨h3.tmps,h3.size,?_⟩;have ACD:KC (LW ρ3) mark Uq:=forall₂_mono (λ_ _ x=>x.mono (NW.trans hg3).1) za
       have key:∀{l l':List Deferred},KC (LW ρ3) l l'→KC (LW ρ3) (l++a.defers) (l'++a'.defers):=by
        intro l l' hl
        induction hl with
        |nil=>exact h3.defers
        |cons hx _ ih=>exact .cons hx ih
       exact key ACD
      have hnb:st≠.busy:=by
       intro e;subst e;cases Br
      have hw4:=hw3.A6 BY rfl hx3 (Iz.loop (P:=P) (st:=.exhausted) (pd:=pd) (f:=lf) (f':=f0') k1 k2 k3 k4);refine⟨pd,_,fx I0 hnb,?_⟩;have hg4:Ef W3 ρ3 (W3.A6 W1.sz (.loop .exhausted pd lf lt t'.size lp la lb ld)) ρ3:=.refl _
      have finish:∀{e:Exit},fb ρ3 e e→(e,{a with defers:=mark++a.defers},W3.A6 W1.sz (.loop .exhausted pd lf lt t'.size lp la lb ld))∈m→Q e {a' with defers:=Uq++a'.defers} {w3 with heap:=w3.heap.setIfInBounds w1.heap.size (.loop {state:=.exhausted,pending:=pd,fn:=f0',tmps:=t',params:=lp,assign:=la,body:=lb,defers:=d'})}:=by
       intro e hx Sh;exact hQ _ _ _ ⟨e,_,_,ρ3,B0 _ Sh,ZN.trans hg4,hx,hA.x e,hw4,rfl⟩
      cases st with
      |busy=>cases Br
      | ready=>
       cases pd with
       |none=>cases Br;exact finish .normal (dx.2 rfl)
       |some c=>
        cases c<;>first|(cases Br;done)|skip
        ·cases Br;exact wpIn_exit (finish (.exit _) (dx.2 rfl))
        ·cases Br;exact wpIn_ret (finish .ret (dx.2 rfl))
      | done=>
       cases pd with
       |none=>cases Br;exact finish .normal (dx.2 rfl)
       |some c=>
        cases c<;>first|(cases Br;done)|skip
        ·cases Br;exact wpIn_exit (finish (.exit _) (dx.2 rfl))
        ·cases Br;exact wpIn_ret (finish .ret (dx.2 rfl))
      | exhausted=>
       cases pd with
       |none=>cases Br;exact finish .normal (dx.2 rfl)
       |some c=>
        cases c<;>first|(cases Br;done)|skip
        ·cases Br;exact wpIn_exit (finish (.exit _) (dx.2 rfl))
        ·cases Br;exact wpIn_ret (finish .ret (dx.2 rfl))
 ·cases E8
 ·cases E8
end
section
variable {P:Program}{w0:World}{k:Nat}{R:C5}
def noGoto(Q:Exit→Act→World→Prop):Exit→Act→World→Prop
 | .goto _,_,_=>False
 |e,a,w=>Q e a w
theorem HI{b:Frame}{a:Act}{k:List Item}{cs:List Frame}{w:World}{c:Code}:step P (lone (b.atR a (.code (.scope c)::k)) cs w)=.next (lone (b.atR a (.code c::.inScope c::k)) cs w) :=
 step_lone_go (by simp[stepG,stepG.exec,Frame.atR])
theorem ZO{b:Frame}{a:Act}{k:List Item}{cs:List Frame}{w:World}{c:Code}:step P (lone (b.atR a (.inScope c::k)) cs w)=.next (lone (b.atR a k) cs w) :=
 step_lone_go (by simp[stepG,stepG.exec,Frame.atR])
theorem ku{F:Fence}{n:Nat}{c:Code}{Q:Exit→Act→World→Prop}{a:Act}{w:World}(h:c.wpIn F n P (noGoto Q) a w):(Code.scope c).wpIn F n P Q a w:=by
 intro b k cs hro hb hr;have h0:(lone (b.atR a (.code (.scope c)::k)) cs w).fenced P F:=fenced_calm hb hr rfl;obtain⟨e,a₁,w₁,hq,TD⟩:=h b (.inScope c::k) cs hro hb hr
 cases e with
 |normal=>exact⟨.normal,a₁,w₁,hq,.head h0 HI (abH TD (.one (fenced_calm hb hr rfl) ZO))⟩
 | exit id=>exact⟨.exit id,a₁,w₁,hq,λk' hk=>.head h0 HI (TD.1 k' (by simp[exitTo,hk])),
   λKM hk=>let ⟨k₁,h1,h2⟩:=TD.2 KM (by simp[exitTo,hk]);⟨k₁,h1,.head h0 HI h2⟩⟩
 |goto l=>exact hq.elim
 |ret=>exact⟨_,a₁,w₁,hq,.of_steps (.one h0 HI) TD⟩
 |panic ch=>exact⟨_,a₁,w₁,hq,.of_steps (.one h0 HI) TD⟩
 |outgrown=>exact⟨_,a₁,w₁,hq,.of_steps (.one h0 HI) TD⟩
theorem qN(hz:ZP P)(Ou:P.follows .mixedOrders=true)(hS:Wo P w0 k R){ro Hz:Option Nat}{fn:FuncId}{c:Code}{a:AI}{W:CW}{outs:List (Exit×AI×CW)}{ρ:Bk}{w:World}{a':Act}{n:Nat}{Q:Exit→Act→World→Prop}
  (h:Bs P R ro fn c a W=some outs) (hr:KO ρ ro Hz) (ha:AR ρ a a') (hw:AU P w0 ρ W w) (Aa:codeOk P a.nt ro.isSome c=true) (hQ:∀e a2 w2,K3 P w0 ρ W a.nt outs e a2 w2→Q e a2 w2) :
  c.wpIn (B7 P Hz) n P Q a' w:=by
 have one:∀{e:Exit},fb ρ e e→outs=[(e,a,W)]→Q e a' w:=λ{e} hx ho=>hQ _ _ _ ⟨e,a,W,ρ,by rw[ho];simp,.refl _,hx,ha.x e,hw,rfl⟩
 cases c with
 |skip=>cases h;exact wpIn_skip (one .normal rfl)
 |label l=>cases h;exact wpIn_label (one .normal rfl)
 |exit id=>cases h;exact wpIn_exit (one (.exit id) rfl)
 |ret=>cases h;exact wpIn_ret (one .ret rfl)
 | region id ops d=>
  simp only[codeOk,dy,aaQ,aaC]at Aa;rw[←hr.isSome]at Aa
  cases d with
  |false=>
   simp only[Bs]at h;refine wpIn_region ?_;have:=fg hz hS.toRS ops.toList 0 a W outs ρ a' w Q rfl h Aa.1 ha hw hQ (n:=n);rw[List.range_eq_range']
   simpa using this
  |true=>
   simp only[Bs]at h;exact cR hz hS.toRS Ou h (Aa.2.resolve_left (by simp)) Aa.1 ha hw hQ
 |seq x y=>
  simp only[codeOk,dy]at Aa;simp only[Bs]at h;exact wpIn_seq (TC hS h hr ha hw Aa.1 hQ λ{a1 W1 m ρ1 a1' w1} h1 KE C8 Eg NI hQ1=>wpIn_mono (hS.code h1 KE C8 Eg (by rw[NI];exact Aa.2) n) hQ1)
 | cond c x y=>
  simp only[codeOk,dy]at Aa;simp only[Bs]at h
  split at h
  ·rename_i b hb;have hv:=ha.eval c Aa.1;rw[hb]at hv;generalize FO:a'.eval c=v at hv
   cases hv
   refine wpIn_cond FO ?_
   cases b with
   |true=>exact wpIn_mono (hS.code h hr ha hw Aa.2.1 n) hQ
   |false=>exact wpIn_mono (hS.code h hr ha hw Aa.2.2 n) hQ
  ·cases h
 | block id b=>
  simp only[codeOk]at Aa;simp only[Bs]at h;obtain⟨l,hl,Bv⟩:=B5 h;refine wpIn_block (wpIn_mono (hS.code hl hr ha hw Aa n) λe' a2 w2 hc=>?_);obtain⟨e,a1,W1,ρ1,hm,hg,hx,C8,Eg,NI⟩:=hc;obtain⟨m,Br,B0⟩:=Bv _ hm
  cases hx with
  |normal=>cases Br;exact hQ _ _ _ ⟨_,a1,W1,ρ1,B0 _ (dx.2 rfl),hg,.normal,C8,Eg,NI⟩
  | exit UP=>
   simp only[cond_eq_ite]at Br;unfold Exit.inBlock
   split at Br
   ·rename_i hid;have hid:=aab hid
    cases Br
    simp only[aad hid];exact hQ _ _ _ ⟨_,a1,W1,ρ1,B0 _ (dx.2 rfl),hg,.normal,C8,Eg,NI⟩
   ·rename_i hid;have hid:¬UP=id:=by simpa using hid
    cases Br
    simp only[aac hid];exact hQ _ _ _ ⟨_,a1,W1,ρ1,B0 _ (dx.2 rfl),hg,.exit UP,C8,Eg,NI⟩
  |ret=>cases Br;exact hQ _ _ _ ⟨_,a1,W1,ρ1,B0 _ (dx.2 rfl),hg,.ret,C8,Eg,NI⟩
  |panic Ic=>cases Br;exact hQ _ _ _ ⟨_,a1,W1,ρ1,B0 _ (dx.2 rfl),hg,.panic Ic,C8,Eg,NI⟩
 |loop b=>
  simp only[codeOk]at Aa;simp only[Bs]at h;exact wpIn_loop_rounds (k+1) (Wp hS h hr ha hw Aa hQ)
 |rangeFunc f ps asz bd=>exact VL hS h hr ha hw Aa hQ
 |scope b=>
  simp only[codeOk]at Aa;simp only[Bs]at h;refine ku (wpIn_mono (hS.code h hr ha hw Aa n) λe' a2 w2 hc=>?_);have:=hQ _ _ _ hc;obtain⟨e,a1,W1,ρ1,hm,hg,hx,C8,Eg,NI⟩:=hc
  cases hx<;>exact this
 |goto l=>simp[codeOk]at Aa
 |refuse=>simp[codeOk]at Aa
theorem cT{l:Nat}{r:Loop}{w:World}(h:w.heap[l]?=some (.loop r))(j:Option Code):(Instr.endRound l j).run P w=.ok (.bool j.isNone) {w with heap:=w.heap.setIfInBounds l (.loop {r with state:=if j.isNone then .ready else .done,pending:=j})}:=by
 simp only[Instr.endRound,Instr.getLoop,aae,Ar h (by simp),zC,aak,DK h (by simp)]
theorem Ws{l:Nat}{r:Loop}{w:World}(h:w.heap[l]?=some (.loop r))(hs:r.state=.ready):(Instr.beginRound l).run P w=.ok () {w with heap:=w.heap.setIfInBounds l (.loop {r with state:=.busy})}:=by
 simp only[Instr.beginRound,Instr.getLoop,aae,Ar h (by simp),zC,aak,DK h (by simp),hs]
theorem P0{l l':Nat}{j:Option Code}{W W1:CW}{v:Value}{m:List (Ending×CW)}{ρ ρ0:Bk}{w:World}(h:WT l j W=some m)(hb:NY ρ l l')(hw:AU P w0 ρ W w)(hg:Ef W1 ρ0 W ρ){outs:List (Ending×CW)}(B0:∀x,x∈m→x∈outs) :
  ∃v w',(Instr.endRound l' j).run P w=.ok v w'∧VK P w0 ρ0 W1 outs (.returned v) w':=by
 unfold WT at h
 split at h
 ·rename_i st pd f t nt ps asz bd ld BY
  cases h
  obtain⟨x,hx,rfl⟩:=hb;obtain⟨o',I0,CG⟩:=hw.obj BY (by simp) hx rfl
  cases CG with
  | @loop _ _ _ f0' _ t' _ _ _ _ d' k1 k2 k3 k4=>
   refine⟨_,_,cT I0 j,.returned (.bool j.isNone),_,ρ,B0 _ (dx.2 rfl),hg.trans (.refl _),.returned (.bool _),?_⟩;have:=hw.A6 BY rfl hx (Iz.loop (P:=P) (st:=if j.isNone then .ready else .done) (pd:=j) (f:=f) (f':=f0') k1 k2 k3 k4)
   cases j<;>exact this
 ·cases h
theorem Z0{ρ:Bk}{nt:Nat}:∀(ps:List Tmp) (args args':List Value) (t:Tr Value) (t':Array Value),Ap ρ args args'→(∀i,AK ρ ((t.get i).getD undef) (t'.getD i undef))→t'.size=nt→(ps.all λp=>Nat.blt p nt)=true→
  (∀i,AK ρ ((((ps.zip args).foldl (λt (p:Tmp×Value)=>t.set p.1 p.2) t).get i).getD undef) (((ps.zip args').foldl (λt (p:Tmp×Value)=>t.setIfInBounds p.1 p.2) t').getD i undef))∧((ps.zip args').foldl (λt (p:Tmp×Value)=>t.setIfInBounds p.1 p.2) t').size=nt
 |[],_,_,t,t',_,h,hs,_=>⟨h,hs⟩
 |p::ps,[],[],t,t',_,h,hs,_=>⟨h,hs⟩
 |p::ps,[],_::_,_,_,hl,_,_,_=>by have:=hl.1;simp at this
 |p::ps,_::_,[],_,_,hl,_,_,_=>by have:=hl.1;simp at this
 | p::ps,x::xs,y::ys,t,t',hl,h,hs,hp=>by
  simp only[abp,dy]at hp;have Ao:p<nt:=aam hp.1;simp only[abj,abe];refine Z0 ps xs ys _ _ hl.tail (λi=>?_) (by simp[hs]) hp.2;rw[Tr.Bc];simp only[aal,aaT]
  by_cases e:i=p
  ·have Np:p<t'.size:=by rw[hs];exact Ao
   rw[aad e,aad e.symm,aad Np];exact hl.head
  ·rw[aac e,aac (abW e),←aal];exact h i
def kv(P:Program)(l:Nat)(R:Ending→World→Prop):Exit→Act→World→Prop
 | .panic chain,a,w=>a.defers=[]∧R (.panicked chain) w
 |e,a,w=>roundPost P l R e a w
theorem TF{F:Fence}{n:Nat}{l:Nat}{f:FuncId}{tmps:Array Value}{assign body:Code}{w:World}{R:Ending→World→Prop}(hF:F.fn f){fn:Func}(cD:P.funcs[f]?=some fn)
  (h:assign.wpIn (F.inRound l) n P (Exit.then (λa₁ w₁=>∃w₂,(Instr.beginRound l).run P w₁=.ok () w₂∧body.wpIn (F.inRound l) n P (kv P l R) a₁ w₂) (λ_ _ _=>False))
   {tmps:=tmps,defers:=[]} w) :
  RoundIn F n P l f tmps assign body w R:=by
 refine⟨hF,λc cs hr=>?_⟩
 let b:Frame:={(default:Frame)with fn:=f,kind:=.normal,roundOf:=some l}
 have zJ:Frame.round l f tmps assign body .normal=b.atR {tmps:=tmps,defers:=[]} [.code assign,.beginRound,.code body]:=by
  simp[Frame.round,Frame.atR,b]
 have KM:(F.inRound l).room ((c::cs).length+1+n):=hr;have hF':(F.inRound l).fn b.fn:=hF;obtain⟨e,a₁,w₁,hq,TD⟩:=h b [.beginRound,.code body] (c::cs) rfl hF' KM;rw[←zJ]at TD
 cases e with
 | normal=>
  obtain⟨w₂,hbr,fy⟩:=hq
  have s1:StepsIn (Machine.fenced P (F.inRound l)) P (lone (b.atR a₁ [.beginRound,.code body]) (c::cs) w₁) (lone (b.atR a₁ [.code body]) (c::cs) w₂) :=
   .one (fenced_calm (fr:=b.atR a₁ [.beginRound,.code body]) hF' KM rfl) (stepR_beginRound rfl hbr)
  obtain⟨e₂,a₂,w₃,hq₂,harr₂⟩:=fy b [] (c::cs) rfl hF' KM
  cases e₂ with
  |normal=>
   obtain⟨v,w₄,GR,hR⟩:=hq₂;exact⟨.returned v,w₄,hR,(abH TD s1).trans (abH harr₂ (.one (fenced_calm (fr:=b.atR a₂ []) hF' KM rfl) (stepR_round_end rfl rfl GR)))⟩
  |ret=>
   obtain⟨v,w₄,GR,hR⟩:=hq₂;obtain⟨k₁,hs⟩:=harr₂.2 rfl;exact⟨.returned v,w₄,hR,(abH TD s1).trans (abH hs (.one (fenced_calm (fr:=b.atR a₂ (.code .ret::k₁)) hF' KM rfl) (stepR_round_ret rfl rfl GR)))⟩
  |exit id=>
   obtain⟨v,w₄,GR,hR⟩:=hq₂;obtain⟨k₁,hk,hs⟩:=harr₂.2 rfl rfl;exact⟨.returned v,w₄,hR,(abH TD s1).trans (abH hs (.one (fenced_calm (fr:=b.atR a₂ (.code (.exit id)::k₁)) hF' KM rfl) (stepR_round_exit rfl rfl hk GR)))⟩
  |goto t=>
   obtain⟨v,w₄,GR,hR⟩:=hq₂;obtain⟨k₁,hk,hs⟩:=harr₂.2 rfl rfl;exact⟨.returned v,w₄,hR,(abH TD s1).trans (abH hs (.one (fenced_calm (fr:=b.atR a₂ (.code (.goto t)::k₁)) hF' KM rfl) (stepR_round_goto rfl rfl hk GR)))⟩
  |panic chain=>
   obtain⟨hd,hR⟩:=hq₂;obtain⟨k₁,hs⟩:=harr₂;have hl:((b.atR a₂ k₁).raise chain).leaving P w₃ (.panicked chain):=⟨rfl,hd,fn,cD⟩
   exact⟨.panicked chain,w₃,hR,(abH TD s1).trans (abH hs (.one (fenced_leaving (F:=F.inRound l) hF' KM hl) (step_leave_panicked hl)))⟩
  |outgrown=>exact hq₂.elim
 |exit id=>exact hq.elim
 |goto t=>exact hq.elim
 |ret=>exact hq.elim
 |panic chain=>exact hq.elim
 |outgrown=>exact hq.elim
theorem kx{L:List FuncId}(hS:Wo P w0 k R){l l':Nat}{args:List Value}{W:CW}{outs:List (Ending×CW)}{ρ:Bk}{w:World}{args':Array Value}(h:(CV P L R).round l args W=some outs)(hb:NY ρ l l')(DC:Ap ρ args args'.toList)(hw:AU P w0 ρ W w) :
  ∃f t asz bd,(Instr.yield l' args').run P w=.ok (.round l' f t asz bd) w∧∀(r:Option Nat) n,RoundIn (B7 P r) n P l' f t asz bd w (VK P w0 ρ W outs):=by
 simp only[CV]at h;split at h
 rotate_left
 ·cases h
 rename_i pd0 f t nt ps asz bd ld0 BY;rw[cond_eq_ite]at h;split at h
 rotate_left
 ·cases h
 rename_i hlen;have hlen:=aab hlen;obtain⟨l1,fz,Bv⟩:=B5 h;have zJ:=hb;obtain⟨x,hx,rfl⟩:=hb;obtain⟨o',I0,CG⟩:=hw.obj BY (by simp) hx rfl
 cases CG with
 | @loop _ _ _ f0' _ t' _ _ _ _ d' k1 k2 k3 k4=>
  have Hs:args'.size=ps.size:=by have:=DC.1;simp at this;omega
  obtain⟨hT,hTs⟩:=Z0 ps.toList args args'.toList t t' DC k1 rfl k3.1
  refine⟨f0',(ps.zip args').foldl (λtmps (t,a)=>tmps.setIfInBounds t a) t',asz,bd,?_,λr n=>?_⟩
  ·simp only[Instr.yield,Instr.getLoop,aae,Ar I0 (by simp),zC,aak,Hs,ne_eq,not_true,abk]
  ·have AFR:(ps.zip args').foldl (λtmps (x:Tmp×Value)=>match x with|(t,a)=>tmps.setIfInBounds t a) t'=(ps.toList.zip args'.toList).foldl (λt (p:Tmp×Value)=>t.setIfInBounds p.1 p.2) t':=by
    rw[←ac5,Array.toList_zip]
   rw[AFR];have hF:(B7 P r).inRound x.b=B7 P (some x.b):=by cases r<;>rfl
   obtain⟨fnn,AFS⟩:=k4;refine TF (IF _ ⟨fnn,AFS⟩) AFS ?_;rw[hF];have hA:AR ρ ⟨(ps.toList.zip args).foldl (λt (p:Tmp×Value)=>t.set p.1 p.2) t,t'.size,[]⟩ {tmps:=(ps.toList.zip args'.toList).foldl (λt (p:Tmp×Value)=>t.setIfInBounds p.1 p.2) t',defers:=[]}:=⟨hT,hTs,.nil⟩
   refine wpIn_mono (hS.code fz (.some zJ) hA hw k3.2.1 n) λe' a2 w2 hc=>?_;obtain⟨e,a1,W1,ρ1,hm,hg,hxr,C8,Eg,NI⟩:=hc;obtain⟨m,Br,B0⟩:=Bv _ hm
   cases hxr with
   |exit id=>cases Br
   |ret=>cases Br
   |panic _=>cases Br
   | normal=>
    simp only at Br;split at Br
    rotate_left
    ·cases Br
    rename_i pd1 f1 t1 nt1 ps1 as1 bd1 ld1 ABQ;have RJ:=hg.1 _ _ hx;obtain⟨o1',AIi,AFT⟩:=Eg.obj ABQ (by simp) RJ rfl
    cases AFT with
    | @loop _ _ _ f1' _ tG _ _ _ _ d1' q1 q2 q3 q4=>
     have Fq:=Eg.A6 ABQ rfl RJ (Iz.loop (P:=P) (st:=.busy) (pd:=pd1) (f:=f1) (f':=f1') q1 q2 q3 q4);refine⟨_,Ws AIi rfl,?_⟩;obtain⟨l2,PG,AFU⟩:=B5 Br;have NW:Ef W ρ (W1.A6 l (.loop .busy pd1 f1 t1 tG.size ps1 as1 bd1 ld1)) ρ1:=hg.trans (.refl _);refine wpIn_mono (hS.code PG (.some ⟨x,RJ,rfl⟩) C8 Fq (by rw[NI];exact k3.2.2) n) λe' a3 w3 hc=>?_;obtain⟨e,a4,W4,ρ4,uW,hg4,hx4,ha4,hw4,ALJ⟩:=hc;obtain⟨m4,hm5,AFV⟩:=AFU _ uW;have yp:NY ρ4 l x.b:=⟨x,hg4.1 _ _ RJ,rfl⟩
     have cU:∀y,y∈m4→y∈outs:=λy hy=>B0 _ (AFV _ hy)
     cases hx4 with
     |normal=>exact P0 (v:=undef) hm5 yp hw4 (NW.trans hg4) cU
     |ret=>exact P0 (v:=undef) hm5 yp hw4 (NW.trans hg4) cU
     |exit id=>exact P0 (v:=undef) hm5 yp hw4 (NW.trans hg4) cU
     |panic Ic=>
      simp only[cond_eq_ite]at hm5;split at hm5
      rotate_left
      ·cases hm5
      rename_i hde
      cases hm5
      refine⟨?_,_,W4,ρ4,cU _ (dx.2 rfl),NW.trans hg4,.panicked Ic,hw4⟩;have hA:=ha4.defers;generalize a3.defers=D at hA
      cases hq:a4.defers with
      |nil=>rw[hq]at hA;cases hA;rfl
      |cons _ _=>rw[hq]at hde;cases hde
end
section
variable {P:Program}{w0:World}{k:Nat}{R:C5}
def TG(tmps:Array Value)(r:ResultVar):Sem Value :=
 match r with
 | .tmp t=>pure (tmps.getD t undef)
 | .cell s t=>do loadVar t (←asAddr (tmps.getD s undef))
theorem ky(fn:Func)(tmps:Array Value):results fn tmps=(do let vs←fn.results.mapM (TG tmps);pure (if h:vs.size=1 then vs[0]else .tuple vs)):=by
 have:(λr:ResultVar=>match r with| .tmp t=>(pure (tmps.getD t undef):Sem Value)| .cell a t=>do loadVar t (←asAddr (tmps.getD a undef)))=TG tmps:=by
  funext r;cases r<;>rfl
 unfold results;rw[←this];rfl
theorem MO{ρ:Bk}{a:AI}{a':Act}{W:CW}{w:World}(ha:∀i,AK ρ (a.at i) (a'.tmps.getD i undef))(hw:AU P w0 ρ W w):∀{rs:List ResultVar} {vs:List Value},rs.mapM (IS P a W)=some vs→
  ∃vs',(rs.mapM (TG a'.tmps)).run P w=.ok vs' w∧Ap ρ vs vs'
 |[],vs,h=>by simp at h;subst h;exact⟨[],by simp,.nil _⟩
 | r::rs,vs,h=>by
  rw[acN]at h
  cases hr:IS P a W r with
  |none=>simp[hr]at h
  | some v=>
   simp only[hr,Option.bind_eq_bind,acf]at h
   cases Z1:rs.mapM (IS P a W)with
   |none=>simp[Z1]at h
   | some vs2=>
    simp only[Z1,acf,Option.pure_def,aag]at h;subst h;obtain⟨vs',Iu,hl⟩:=MO ha hw Z1
    have Nb:∃v',(TG a'.tmps r).run P w=.ok v' w∧AK ρ v v':=by
     cases r with
     |tmp t=>
      refine⟨_,rfl,?_⟩;have:=ha t;simp only[IS,aag]at hr;rw[←hr];simp only[AI.at]at this
      cases hq:a.t.get t<;>(rw[hq]at this;exact this)
     | cell s t=>
      have:=ha s;simp only[IS]at hr
      split at hr
      ·rename_i p hp;simp only[AI.at,hp,abc]at this;generalize FO:a'.tmps.getD s undef=q at this
       cases this with
       |ptr hpp=>
        obtain⟨v',KM,Iu⟩:=UT hw hpp hr;exact⟨v',by simp only[TG,FO,asAddr,aae,aak,zC];exact KM,Iu⟩
      ·cases hr
    obtain⟨v',cV,TB⟩:=Nb;refine⟨v'::vs',?_,.cons TB hl⟩;rw[acN];simp only[aae,cV,zC,Iu,aak]
theorem K4{fn:Func}{ρ:Bk}{a:AI}{a':Act}{W:CW}{w:World}{v:Value}(ha:∀i,AK ρ (a.at i) (a'.tmps.getD i undef))(hw:AU P w0 ρ W w)(h:F5 P fn a W=some v) :
  ∃v',(results fn a'.tmps).run P w=.ok v' w∧AK ρ v v':=by
 unfold F5 at h
 have run:∀{vs'},(fn.results.toList.mapM (TG a'.tmps)).run P w=.ok vs' w→(results fn a'.tmps).run P w=.ok (if h:vs'.toArray.size=1 then vs'.toArray[0]else .tuple vs'.toArray) w:=by
  intro vs' hv;rw[ky];rw[←Array.toArray_toList (xs:=fn.results),List.mapM_toArray];simp only[aae,Sem.run_map];rw[hv];rfl
 split at h
 ·rename_i v0 hm
  cases h
  obtain⟨vs',hv,hl⟩:=MO ha hw hm
  have:∃y,vs'=[y]:=by
   have:=hl.1
   cases vs' with
   |nil=>simp at this
   |cons y ys=>exact⟨y,by have:ys=[]:=(by simpa using this);rw[this]⟩
  obtain⟨y,rfl⟩:=this;exact⟨y,by rw[run hv];rfl,hl.head⟩
 ·rename_i vs q1 q2;have hm:fn.results.toList.mapM (IS P a W)=some vs:=by first|exact q1|exact q2
  have Dg:∀v,vs=[v]→False:=by first|exact q1|exact q2
  cases h
  obtain⟨vs',hv,hl⟩:=MO ha hw hm;refine⟨.tuple vs'.toArray,?_,.tuple' (by simpa using hl)⟩;rw[run hv,dif_neg];intro h1;have fz:vs.length=1:=by rw[hl.1];simpa using h1
  obtain⟨x,hx⟩:=List.length_eq_one_iff.1 fz;exact Dg x hx
 ·cases h
end
section
variable {P:Program}{w0:World}{k:Nat}{R:C5}
theorem KC.dropWhile{ρ:Bk}:∀{c c':List PanicEntry},RE ρ c c'→RE ρ (c.dropWhile (!·.goexit)) (c'.dropWhile (!·.goexit))
 |[],[],.nil=>.nil
 |x::c,y::c',.cons h hs=>by
  simp only[List.dropWhile_cons,h.g]
  cases y.goexit with
  |true=>simpa using .cons h hs
  |false=>simpa using KC.dropWhile hs
theorem kz{ρ:Bk}{u u':FrameMode}(h:Ov ρ u u'):Ov ρ (settle u) (settle u'):=by
 cases h with
 |returning=>exact .returning
 | @panicking c c' hc=>
  cases hc with
  |nil=>exact .panicking .nil
  | @cons x y xs ys hx qO=>
   obtain⟨v,r,g⟩:=x;obtain⟨v',r',g'⟩:=y;have hr:r=r':=hx.r;subst hr
   cases r with
   |false=>exact .panicking (.cons hx qO)
   |true=>
    simp only[settle];have hd:=KC.dropWhile qO;generalize List.dropWhile (λx=>!x.goexit) xs=A at hd;generalize List.dropWhile (λx=>!x.goexit) ys=B at hd
    cases hd with
    |nil=>exact .returning
    |cons a b=>exact .panicking (.cons a b)
theorem AU.drop{ρ:Bk}{W:CW}{w:World}(h:AU P w0 ρ W w){i:Nat}{o:Am}{x:Info}(ho:W.obj i=some o)(hd:o.mut=true)(hx:ρ i=some x)(u':Obj) :
  AU P w0 ρ (W.A6 i .dead) {w with heap:=w.heap.setIfInBounds x.b u'}:=by
 have hk:=h.kill ho;obtain⟨o',I0,_,ji,_⟩:=h.live i o x ho (Am.ID hd) hx;have ji:=ji hd
 refine⟨hk.VF,hk.top,λj v y hv NU hy=>?_,hk.inj,?_⟩
 ·obtain⟨v',Iu,hrv,s7⟩:=hk.live j v y hv NU hy;refine⟨v',?_,hrv,s7⟩
  have hji:W.h.get j=some v∧j≠i:=by
   simp only[CW.A6,Tr.Bc]at hv
   split at hv
   ·cases hv;exact(NU rfl).elim
   ·rename_i e;exact⟨hv,e⟩
  have Dg:x.b≠y.b:=λhb=>by
   cases j_:v.mut with
   |true=>exact hji.2 (h.inj j i v o y x hji.1 j_ ho hd hy hx hb.symm)
   |false=>have:=s7.2 j_;omega
  show(w.heap.setIfInBounds x.b u')[y.b]?=_;rw[aa3 Dg];exact Iu
 ·exact⟨h.below.os,h.below.tape,h.below.output,by show w0.heap.size≤(w.heap.setIfInBounds x.b u').size;rw[abA];exact h.below.size,λq hq=>by
   show(w.heap.setIfInBounds x.b u')[q]?=_
   rw[aa3 (by omega)];exact h.below.block q hq⟩
theorem MP(hS:Wo P w0 k R){fn:Func}{a:AI}{a':Act}{ρ0:Bk}{W0:CW}{n:Nat}{outs:List (Ending×CW)}:∀(ds:List Deferred) {FG:List Deferred} {u u':FrameMode} {W:CW} {ρ:Bk} {w:World} {m:List (Ending×CW)},
  leaves P R fn a ds u W=some m→KC (LW ρ) ds FG→Ov ρ u u'→(∀i,AK ρ (a.at i) (a'.tmps.getD i undef))→AU P w0 ρ W w→Ef W0 ρ0 W ρ→(∀x,x∈m→x∈outs)→
  LeavesInM (F0 P) n P fn a'.tmps (VK P w0 ρ0 W0 outs) FG u' w:=by
 intro ds
 induction ds with
 | nil=>
  intro FG u u' W ρ w m h eh hu ha hw hg B0
  cases eh
  cases hu with
  | returning=>
   simp only[leaves]at h
   split at h
   ·rename_i v hv
    cases h
    obtain⟨v',hr,qP⟩:=K4 ha hw hv;exact⟨v',hr,_,W,ρ,B0 _ (dx.2 rfl),hg,.returned qP,hw⟩
   ·cases h
  |panicking hc=>
   simp only[leaves]at h
   cases h
   exact⟨_,W,ρ,B0 _ (dx.2 rfl),hg,.panicked hc,hw⟩
 | cons d ds ih=>
  intro FG u u' W ρ w m h eh hu ha hw hg B0
  cases eh with
  | @cons _ d' _ FG hd eh=>
   have HR:u'≠.run:=by cases hu<;>simp
   cases hd with
   | @collected r r' hb=>
    simp only[leaves]at h
    split at h
    ·rename_i BY;obtain⟨x,hx,rfl⟩:=hb;obtain⟨o',I0,CG⟩:=hw.obj BY (by simp) hx rfl
     cases CG
     have Fq:=hw.drop BY rfl hx (.deferred none);refine⟨HR,.inl ⟨x.b,_,rfl,?_,ih h eh hu ha Fq (hg.trans (.refl _)) B0⟩⟩;simp only[Instr.takeDeferred,aae,Ar I0 (by simp),zC,DK I0 (by simp),aak]
    ·cases h
   | @fn f cap cap' args args' hc DC=>
    simp only[leaves]at h;obtain⟨l,hl,Bv⟩:=B5 h;have PG:Ap ρ (args.toList++cap.toList) (args'++cap').toList:=by simpa using DC.append hc
    obtain⟨FN,hD⟩:=hS.HO hl PG hu hw;refine⟨HR,.inr ⟨(λh=>by cases h),.func f,cap',f,args'++cap',rfl,by simp only[invoke];exact FN,λf' jq=>(by simp only[Target.leads,aag]at jq;subst jq;exact hS.exd hl),(hD (n-1)).mono λe2 u2 w2 hE=>?_⟩⟩;obtain⟨e,u1,W2,ρ2,hm,NW,hN,hU,Fq⟩:=hE;obtain⟨m2,Br,AFW⟩:=Bv _ hm
    cases hN with
    |returned _=>
     exact ih Br (forall₂_mono (λ_ _ x=>x.mono NW.1) eh) (kz hU) (λi=>(ha i).mono NW.1) Fq (hg.trans NW) λx hx=>B0 _ (AFW _ hx)
    |panicked _=>cases Br
theorem ZQ{fn:Func}{tm:Array Value}{ρ0:Bk}{W0:CW}{n:Nat}{outs:List (Ending×CW)}:∀(ds:List Deferred) {FG:List Deferred} {c c':List PanicEntry} {W:CW} {ρ:Bk} {w:World} {m:List (Ending×CW)},
  G2 ds c W=some m→KC (LW ρ) ds FG→RE ρ c c'→AU P w0 ρ W w→Ef W0 ρ0 W ρ→(∀x,x∈m→x∈outs)→
  LeavesInM (F0 P) n P fn tm (VK P w0 ρ0 W0 outs) FG (.panicking c') w:=by
 intro ds
 induction ds with
 |nil=>
  intro FG c c' W ρ w m h eh hc hw hg B0
  cases eh
  simp only[G2]at h
  cases h
  exact⟨_,W,ρ,B0 _ (dx.2 rfl),hg,.panicked hc,hw⟩
 | cons d ds ih=>
  intro FG c c' W ρ w m h eh hc hw hg B0
  cases eh with
  | @cons _ d' _ FG hd eh=>
   cases hd with
   | @collected r r' hb=>
    simp only[G2]at h
    split at h
    ·rename_i BY;obtain⟨x,hx,rfl⟩:=hb;obtain⟨o',I0,CG⟩:=hw.obj BY (by simp) hx rfl
     cases CG
     have Fq:=hw.drop BY rfl hx (.deferred none);refine⟨by simp,.inl ⟨x.b,_,rfl,?_,ih h eh hc Fq (hg.trans (.refl _)) B0⟩⟩;simp only[Instr.takeDeferred,aae,Ar I0 (by simp),zC,DK I0 (by simp),aak]
    ·cases h
   | @fn f cap cap' args args' hc DC=>simp only[G2]at h;cases h
theorem TH{ρ:Bk}{fn:Func}{args:List Value}{args':Array Value}(h:Ap ρ args args'.toList)(hle:args.length≤fn.ntmps) :
  AR ρ (IC fn args) {tmps:=args'++Array.replicate (fn.ntmps-args'.size) undef,defers:=[]}:=by
 have hs:args'.size=args.length:=by have:=h.1;simp at this;omega
 refine⟨λi=>?_,by simp[IC,hs];omega,.nil⟩;simp only[AI.at,IC,Tr.KL,aa7,true_and,aa0,acQ,Tr.get_nil];rw[aal]
 by_cases hi:i<args.length
 ·rw[aad hi,Array.getElem?_append_left (by omega)];have:=h.2 i hi;rw[aaj,aaj]at this;have e1:args'.toList[i]?=args'[i]?:=aba ..;rw[e1]at this;exact this
 ·rw[aac hi,Array.getElem?_append_right (by omega),Array.getElem?_replicate];split<;>exact .undef _
def CK(P:Program)(L:List FuncId):Prop:=(∀f fn c,CB L f=true→P.funcs[f]?=some fn→fn.body=some c→codeOk P fn.ntmps false c=true)∧
 ∀f,CB L (f+2000000)=true→(∃fn,P.funcs[f]?=some fn∧fn.body.isSome=true)∧∀(w:World) (n:Nat),CallsIn (F0 P) n P f #[] w λe w'=>e=.returned (.bool true)∧Below w.heap.size w w'
theorem CK.of{L:List FuncId}(h:bb P L=true)(hL:(L.all λf=>Nat.blt f 2000000)=true):CK P L:=by
 refine⟨λf fn c hm hf hc=>?_,λf hm=>?_⟩
 ·have:=aax.1 h f (Ih.1 hm);rw[hf]at this;simp only[hc]at this;exact this
 ·have:=aax.1 hL _ (Ih.1 hm);have:=aam this;omega
theorem CK.add{L:List FuncId}(h:CK P L){g:FuncId}(hg:Nat.blt g 1000000=true)(hL:(L.all λf=>Nat.blt f 2000000)=true){fn:Func}(hf:P.funcs[g]?=some fn)(hb:fn.body.isSome=true)(Hs:Nat.ble P.funcs.size 2000000=true)
  (hc:∀(w:World) (n:Nat),CallsIn (F0 P) n P g #[] w λe w'=>e=.returned (.bool true)∧Below w.heap.size w w'):CK P ((g+2000000)::L):=by
 have Hs:=aam Hs
 refine⟨λf fn c hm hf hc=>?_,λf hm=>?_⟩
 ·rcases aaE.1 (Ih.1 hm)with rfl|hm
  ·have:=(aao.1 hf).1;omega
  ·exact h.1 f fn c (Ih.2 hm) hf hc
 ·rcases aaE.1 (Ih.1 hm)with he|hm
  ·have:f=g:=by omega
   subst this;exact⟨⟨fn,hf,hb⟩,hc⟩
  ·have:=aax.1 hL _ hm;have:=aam this;omega
theorem AU.behind{ρ:Bk}{W:CW}{w w':World}(h:AU P w0 ρ W w)(hb:Below w.heap.size w w'):AU P w0 ρ W w' :=
 ⟨h.VF,h.top,λi o x ho hd hx=>by
   obtain⟨o',I0,hr,hf⟩:=h.live i o x ho hd hx;have Ao:=(aao.1 I0).1
   exact⟨o',by rw[hb.block _ Ao];exact I0,hr,hf⟩,h.inj,h.below.trans (hb.mono h.below.size)⟩
theorem Wt(ZR:EN P){L:List FuncId}(Wu:CK P L)(hS:Wo P w0 k R){f:FuncId}{args:List Value}{W:CW}{outs:List (Ending×CW)}{ρ:Bk}{w:World}{args':Array Value}(h:(match P.funcs[f]? with
  | some fn=>match fn.body with
   |some c=>cond (Nat.ble args.length fn.ntmps) (Dq (R.code none f c (IC fn args) W) λ(e,a,W)=>
    match e with
    | .normal=>leaves P R fn a a.defers .returning W
    | .ret=>leaves P R fn a a.defers .returning W
    | .panic ch=>cond a.My (G2 a.defers ch W) (leaves P R fn a a.defers (.panicking ch) W)
    |_=>none) none
   |_=>none
  |_=>none)=some outs) (hm:CB L f=true)
  (DC:Ap ρ args args'.toList) (hw:AU P w0 ρ W w):(callFunc f args').run P w=.ok (.enter f args') w∧∀n,CallsIn (F0 P) n P f args' w (VK P w0 ρ W outs):=by
 split at h
 rotate_left
 ·cases h
 rename_i fn hf;split at h
 rotate_left
 ·cases h
 rename_i c hc;rw[cond_eq_ite]at h;split at h
 rotate_left
 ·cases h
 rename_i hle;have hle:=aam hle;obtain⟨l,hl,Bv⟩:=B5 h;refine⟨ZR f fn hf (by rw[hc];rfl) _ _,λn=>callsIn_of_wp_marks hf hc ⟨fn,hf⟩ ?_⟩;refine wpIn_mono (hS.code (Hz:=none) hl .none (TH DC hle) hw (Wu.1 f fn c hm hf hc) n) λe' a2 w2 hC=>?_;obtain⟨e,a1,W1,ρ1,JB,hg,hx,C8,Eg,_⟩:=hC;obtain⟨m,Br,B0⟩:=Bv _ JB
 cases hx with
 |normal=>exact MP hS _ Br C8.defers .returning C8.tmps Eg hg B0
 |ret=>exact MP hS _ Br C8.defers .returning C8.tmps Eg hg B0
 |panic Ic=>
  simp only[cond_eq_ite]at Br
  split at Br
  ·exact ZQ _ Br C8.defers Ic Eg hg B0
  ·rename_i hb;exact MP hS _ Br C8.defers (.panicking Ic) (C8.tmps (by simpa using hb)) Eg hg B0
 |exit id=>cases Br
theorem cW{m outs:List (Ending×CW)}(h:merged (some m)=some outs):outs=m∨∃v W2,outs=[(.returned v,W2)]:=by
 unfold merged at h
 split at h
 ·split at h
  ·cases h;exact .inr ⟨_,_,rfl⟩
  ·rename_i heq _ _
   cases h
   cases heq
   exact .inl rfl
 ·cases h;exact .inl rfl
theorem qQ(ZR:EN P){L:List FuncId}(Wu:CK P L)(hS:Wo P w0 k R){f:FuncId}{args:List Value}{W:CW}{outs:List (Ending×CW)}{ρ:Bk}{w:World}{args':Array Value}(h:(CV P L R).call f args W=some outs)
  (DC:Ap ρ args args'.toList) (hw:AU P w0 ρ W w):(callFunc f args').run P w=.ok (.enter f args') w∧∀n,CallsIn (F0 P) n P f args' w (VK P w0 ρ W outs):=by
 simp only[CV]at h
 cases hm:CB L f with
 |false=>rw[hm]at h;cases h
 | true=>
  rw[hm]at h;simp only[aav,cond_false]at h;rw[cond_eq_ite]at h
  split at h
  ·rename_i ho;simp only[dy]at ho;have LZ:args=[]:=by simpa using ho.2
   subst LZ
   have AFX:args'=#[]:=by
    have:=DC.1;apply acE;exact aaF.1 this.symm
   subst AFX;obtain⟨⟨fn,hf,hb⟩,hc⟩:=Wu.2 f ho.1
   cases h
   refine⟨ZR f fn hf hb _ _,λn=>(hc w n).mono λe w' hE=>?_⟩;obtain⟨rfl,qR⟩:=hE;exact⟨_,W,ρ,dx.2 rfl,.refl _,.returned (.bool _),hw.behind qR⟩
  cases Sh:CB L (f+1000000)with
  |false=>
   rw[Sh]at h;exact Wt ZR Wu hS h hm DC hw
  |true=>
   rw[Sh]at h;simp only[cond_true]at h;obtain⟨m,nb⟩:=KR h;obtain⟨h1,h2⟩:=Wt ZR Wu hS nb hm DC hw;refine⟨h1,λn=>(h2 n).mono λe w' hE=>?_⟩;rw[nb]at h
   rcases cW h with rfl|⟨v,W2,rfl⟩
   ·exact hE
   ·obtain⟨v',ρ2,rfl,hg,hv,Fq⟩:=MM h hE;exact⟨_,_,ρ2,dx.2 rfl,hg,.returned hv,Fq⟩
end
section
variable {P:Program}{w0:World}{k:Nat}{R:C5}
def f_(P:Program)(w0:World)(ρ:Bk)(W:CW)(nt:Nat)(c₀:Frame)(cs:List Frame)(outs:List (Exit×AI×FrameMode×CW)):Exit→Act→List Frame→World→Prop :=
 λe' a' jk w'=>∃e a u W2 ρ2 u',(e,a,u,W2)∈outs∧Ef W ρ W2 ρ2∧fb ρ2 e e'∧ARx ρ2 e a a'∧Ov ρ2 u u'∧AU P w0 ρ2 W2 w'∧a.nt=nt∧jk={c₀ with mode:=u'}::cs
theorem f_.mono{ρ ρ1:Bk}{W W1:CW}{nt:Nat}{c₀:Frame}{cs jk:List Frame}{m outs:List (Exit×AI×FrameMode×CW)}{e':Exit}{a':Act}{w':World}(h:f_ P w0 ρ1 W1 nt c₀ cs m e' a' jk w')
  (hg:Ef W ρ W1 ρ1) (hs:∀x,x∈m→x∈outs):f_ P w0 ρ W nt c₀ cs outs e' a' jk w' :=
 let ⟨e,a,u,W2,ρ2,u',h1,h2,h3,h4,h5,h6,h7,h8⟩:=h
 ⟨e,a,u,W2,ρ2,u',hs _ h1,hg.trans h2,h3,h4,h5,h6,h7,h8⟩
theorem cX(hz:ZP P){ops:Array Oper}{n:Nat}{c₀:Frame}{cs:List Frame}:∀(rest:List Oper) (i:Nat) (a:AI) (u u':FrameMode) (W:CW) (outs:List (Exit×AI×FrameMode×CW)) (ρ:Bk) (a':Act) (w:World) (Q:Exit→Act→List Frame→World→Prop),
  ops.toList.drop i=rest→CU P R ops rest a u W=some outs→LU P a.nt false rest=true→AR ρ a a'→Ov ρ u u'→AU P w0 ρ W w→(∀e a2 jr w2,f_ P w0 ρ W a.nt c₀ cs outs e a2 jr w2→Q e a2 jr w2)→
  wpOpsSIn (F0 P) n P ops Q (List.range' i rest.length) a' ({c₀ with mode:=u'}::cs) w:=by
 intro rest
 induction rest with
 |nil=>
  intro i a u u' W outs ρ a' w Q _ h _ ha hu hw hQ;simp only[CU,aag]at h;subst h;exact hQ _ _ _ _ ⟨_,_,_,_,ρ,u',dx.2 rfl,.refl _,.normal,ha,hu,hw,rfl,rfl⟩
 | cons o rest ih=>
  intro i a u u' W outs ρ a' w Q Nm h Aa ha hu hw hQ
  have ho:ops[i]?=some o:=by
   have:ops.toList[i]?=some o:=by
    have:=ab8 (·[0]?) Nm
    simpa[abv]using this
   simpa using this
  have ML:ops.toList.drop (i+1)=rest:=by simpa using ab8 List.tail Nm
  simp only[LU,abp,dy]at Aa;obtain⟨⟨⟨⟨JA,qG⟩,ZK⟩,_⟩,TA⟩:=Aa;have TA:∀{nt:Nat},nt=a.nt→LU P nt false rest=true:=λe=>by subst e;exact TA
  have hd:=PY ZK;simp only[aap,List.range'_succ,wpOpsSIn,ho];rw[CU]at h
  refine⟨λf hf=>?_,?_⟩
  ·cases HT:DF ops o a with
   |false=>exact Nj JA qG (Nl HT) f hf
   | true=>
    rw[HT]at h;simp only at h;obtain⟨l,hl,Bv⟩:=B5 h
    exact Nk (w:=w) (e':=a'.eval) hl JA (λx _ hx=>ha.eval x hx) (λ{f args W1} hm=>by
     obtain⟨m,Br,_⟩:=Bv _ hm
     cases Br) f hf
  rw[ha.wanted ops o]
  cases HT:DF ops o a with
  |false=>
   rw[HT]at h;simp only at h;rw[aac (by simp)];refine ih (i+1) _ _ _ _ _ ρ _ _ Q ML h (TA (AI.Bd _ _ _)) (ha.put hd (.undef _)) hu hw λe a2 jr w2 hc=>hQ e a2 jr w2 ?_
   rwa[AI.Bd]at hc
  | true=>
   rw[HT]at h;simp only at h;rw[aad rfl];obtain⟨l,hl,Bv⟩:=B5 h;obtain⟨n0,W1,ρ1,hm,hg,hn⟩:=RC (o:=o) hz JA (e:=a.eval) (e':=a'.eval) (λ_=>rfl) (λx _ hx=>ha.eval x hx) hw hl;obtain⟨m,Br,B0⟩:=Bv _ hm
   have go:∀{v v':Value} {u1 ur:FrameMode} {w1:World},CU P R ops rest (a.put o.dst v) u1 W1=some m→AK ρ1 v v'→Ov ρ1 u1 ur→AU P w0 ρ1 W1 w1→wpOpsSIn (F0 P) n P ops Q (List.range' (i+1) rest.length) (a'.put o.dst v') ({c₀ with mode:=ur}::cs) w1:=by
    intro v v' u1 ur w1 he hv Z2 Eg;refine ih (i+1) _ _ _ _ _ ρ1 _ _ Q ML he (TA (AI.Bd _ _ _)) ((ha.mono hg.1).put hd hv) Z2 Eg λe a2 jr w2 hc=>hQ e a2 jr w2 (f_.mono ?_ hg B0)
    rwa[AI.Bd]at hc
   cases hn with
   |value hr hv Eg=>rw[hr];exact go Br hv (hu.mono hg.1) Eg
   |skip hr Eg=>rw[hr];exact go Br (.undef _) (hu.mono hg.1) Eg
   |enter _ _ _=>cases Br
   |round _ _ _ _=>cases Br
   |defer _ _ _=>cases Br
   |panic hr hv Eg=>
    rw[hr];simp only[aag]at Br;subst Br;exact hQ _ _ _ _ ⟨_,_,_,_,ρ1,u',B0 _ (dx.2 rfl),hg,.panic (.cons ⟨hv,rfl,rfl⟩ .nil),(ha.mono hg.1).w,hu.mono hg.1,Eg,rfl,rfl⟩
   | recover hr Eg=>
    rw[hr];simp only[recoverD];have Z2:=hu.mono hg.1
    cases Z2 with
    |returning=>exact go Br .nilIface .returning Eg
    | @panicking c c' hc=>
     cases hc with
     |nil=>exact go Br .nilIface (.panicking .nil) Eg
     | @cons x y xs ys hx qO=>
      obtain⟨v,r,g⟩:=x;obtain⟨v',r',g'⟩:=y;have e1:r=r':=hx.r;have e2:g=g':=hx.g;subst e1;subst e2
      cases r<;>cases g
      ·exact go Br hx.v (.panicking (.cons ⟨hx.v,rfl,rfl⟩ qO)) Eg
      ·exact go Br .nilIface (.panicking (.cons ⟨hx.v,rfl,rfl⟩ qO)) Eg
      ·exact go Br .nilIface (.panicking (.cons ⟨hx.v,rfl,rfl⟩ qO)) Eg
      ·exact go Br .nilIface (.panicking (.cons ⟨hx.v,rfl,rfl⟩ qO)) Eg
theorem gA(hS:Wo P w0 k R){fn:FuncId}{n:Nat}{c₀:Frame}{cs:List Frame}{c:Code}{a:AI}{u u':FrameMode}{W:CW}{outs:List (Exit×AI×FrameMode×CW)}{ρ:Bk}{a':Act}{w:World}{Q:Exit→Act→List Frame→World→Prop}
  (h:(Dq (R.code none fn c a W) λ(e,a,W)=>some [(e,a,u,W)])=some outs) (Aa:codeOk P a.nt false c=true) (ha:AR ρ a a') (hu:Ov ρ u u') (hw:AU P w0 ρ W w) (hQ:∀e a2 jr w2,f_ P w0 ρ W a.nt c₀ cs outs e a2 jr w2→Q e a2 jr w2) :
  c.wpSIn (F0 P) n P Q a' ({c₀ with mode:=u'}::cs) w:=by
 obtain⟨l,hl,Bv⟩:=B5 h;refine wpSIn_of_wpIn rfl (wpIn_mono (hS.code (Hz:=none) hl .none ha hw Aa n) λe' a2 w2 hC=>?_);obtain⟨e,a1,W1,ρ1,hm,hg,hx,C8,Eg,NI⟩:=hC;obtain⟨m,Br,B0⟩:=Bv _ hm
 cases Br
 exact hQ _ _ _ _ ⟨_,_,_,_,ρ1,u',B0 _ (dx.2 rfl),hg,hx,C8,hu.mono hg.1,Eg,NI,rfl⟩
theorem qS(hz:ZP P)(hS:Wo P w0 k R){fn:FuncId}{n:Nat}{c₀:Frame}{cs:List Frame}:∀(c:Code) (a:AI) (u u':FrameMode) (W:CW) (outs:List (Exit×AI×FrameMode×CW)) (ρ:Bk) (a':Act) (w:World) (Q:Exit→Act→List Frame→World→Prop),
  VD P R fn c a u W=some outs→codeOk P a.nt false c=true→AR ρ a a'→Ov ρ u u'→AU P w0 ρ W w→(∀e a2 jr w2,f_ P w0 ρ W a.nt c₀ cs outs e a2 jr w2→Q e a2 jr w2)→
  c.wpSIn (F0 P) n P Q a' ({c₀ with mode:=u'}::cs) w:=by
 intro c
 induction c with
 | region id ops d=>
  intro a u u' W outs ρ a' w Q h Aa ha hu hw hQ
  cases d with
  |true=>exact gA hS (by simpa only[VD]using h) Aa ha hu hw hQ
  |false=>
   simp only[VD]at h;simp only[codeOk,dy]at Aa;refine wpSIn_region ?_;have:=cX (R:=R) (n:=n) (c₀:=c₀) (cs:=cs) hz ops.toList 0 a u u' W outs ρ a' w Q rfl h Aa.1 ha hu hw hQ;rw[List.range_eq_range']
   simpa using this
 |seq x y Y9 Y'=>
  intro a u u' W outs ρ a' w Q h Aa ha hu hw hQ;simp only[VD]at h;simp only[codeOk,dy]at Aa;obtain⟨l,hl,Bv⟩:=B5 h;refine wpSIn_seq (Y9 a u u' W l ρ a' w _ hl Aa.1 ha hu hw λe' a2 jr w2 hC=>?_);obtain⟨e,a1,u1,W1,ρ1,ur,hm,hg,hx,C8,Z2,Eg,NI,rfl⟩:=hC;obtain⟨m,Br,B0⟩:=Bv _ hm
  cases hx with
  |normal=>exact Y' _ _ _ _ _ ρ1 _ _ _ Br (by rw[NI];exact Aa.2) C8 Z2 Eg λe a2 jr w2 hc=>hQ e a2 jr w2 (f_.mono (by rw[←NI];exact hc) hg B0)
  |exit id=>cases Br;exact hQ _ _ _ _ ⟨_,_,_,_,ρ1,ur,B0 _ (dx.2 rfl),hg,.exit id,C8,Z2,Eg,NI,rfl⟩
  |ret=>cases Br;exact hQ _ _ _ _ ⟨_,_,_,_,ρ1,ur,B0 _ (dx.2 rfl),hg,.ret,C8,Z2,Eg,NI,rfl⟩
  |panic Ic=>cases Br;exact hQ _ _ _ _ ⟨_,_,_,_,ρ1,ur,B0 _ (dx.2 rfl),hg,.panic Ic,C8,Z2,Eg,NI,rfl⟩
 | cond c x y Y9 Y'=>
  intro a u u' W outs ρ a' w Q h Aa ha hu hw hQ;simp only[VD]at h;simp only[codeOk,dy]at Aa;have hv:=ha.eval c Aa.1
  split at h
  ·rename_i hb;rw[hb]at hv;generalize FO:a'.eval c=v at hv
   cases hv
   exact wpSIn_cond (t:=true) FO (Y9 _ _ _ _ _ ρ _ _ _ h Aa.2.1 ha hu hw hQ)
  ·rename_i hb;rw[hb]at hv;generalize FO:a'.eval c=v at hv
   cases hv
   exact wpSIn_cond (t:=false) FO (Y' _ _ _ _ _ ρ _ _ _ h Aa.2.2 ha hu hw hQ)
  ·cases h
 |_=>
  intro a u u' W outs ρ a' w Q h Aa ha hu hw hQ;exact gA hS (by simpa only[VD]using h) Aa ha hu hw hQ
theorem k_(hz:ZP P)(ZR:EN P){L:List FuncId}(Wu:CK P L)(hS:Wo P w0 k R){f:FuncId}{args:List Value}{u u':FrameMode}{W:CW}{outs:List (Ending×FrameMode×CW)}{ρ:Bk}{w:World}{args':Array Value}(h:(CV P L R).HO f args u W=some outs)
  (DC:Ap ρ args args'.toList) (hu:Ov ρ u u') (hw:AU P w0 ρ W w):(callFunc f args').run P w=.ok (.enter f args') w∧∀n,CallsDIn (F0 P) n P f args' u' w (AB_ P w0 ρ W outs):=by
 simp only[CV]at h
 cases hm:CB L f with
 |false=>rw[hm]at h;cases h
 | true=>
  rw[hm]at h;simp only[aav,cond_false]at h;split at h
  rotate_left
  ·cases h
  rename_i fn hf;split at h
  rotate_left
  ·cases h
  rename_i c hc;rw[cond_eq_ite]at h;split at h
  rotate_left
  ·cases h
  rename_i hle;have hle:=aam hle;obtain⟨l,hl,Bv⟩:=B5 h;refine⟨ZR f fn hf (by rw[hc];rfl) _ _,λn=>callsDIn_of_wpSIn hf hc ⟨fn,hf⟩ λc₀ cs AFY=>?_⟩;subst AFY;refine qS (c₀:=c₀) (cs:=cs) hz hS c _ u c₀.mode W l ρ _ w _ hl (Wu.1 f fn c hm hf hc) (TH DC hle) hu hw λe' a2 jr w2 hC=>?_;obtain⟨e,a1,u1,W1,ρ1,ur,JB,hg,hx,C8,Z2,Eg,_,rfl⟩:=hC;obtain⟨m,Br,B0⟩:=Bv _ JB;simp only[cond_eq_ite]at Br;split at Br
  rotate_left
  ·cases Br
  rename_i hd
  have hd:a2.defers=[]:=by
   have hA:KC (LW ρ1) a1.defers a2.defers:=by cases e<;>exact C8.defers
   generalize a2.defers=D at hA
   cases hq:a1.defers with
   |nil=>rw[hq]at hA;cases hA;rfl
   |cons _ _=>rw[hq]at hd;cases hd
  have fin:AR ρ1 a1 a2→∀{v:Value},F5 P fn a1 W1=some v→m=[(.returned v,u1,W1)]→∃v',(results fn a2.tmps).run P w2=.ok v' w2∧AB_ P w0 ρ W outs (.returned v') ur w2:=by
   intro hA1 v hv Sh;obtain⟨v',hr,qP⟩:=K4 hA1.tmps Eg hv;exact⟨v',hr,_,u1,W1,ρ1,B0 _ (by rw[Sh];simp),hg,.returned qP,Z2,Eg⟩
  cases hx with
  | normal=>
   simp only at Br
   split at Br
   ·rename_i v hv
    cases Br
    exact⟨hd,ur,rfl,fin C8 hv rfl⟩
   ·cases Br
  | ret=>
   simp only at Br
   split at Br
   ·rename_i v hv
    cases Br
    exact⟨hd,ur,rfl,fin C8 hv rfl⟩
   ·cases Br
  |exit id=>cases Br
  |panic _=>cases Br
theorem zb{eqv:Value→Value→Bool}(he:∀u v,eqv u v=true→u=v):Wo P w0 0 (C5.base eqv) where
 eqv:=he
 code h:=by cases h
 call h:=by cases h
 round h:=by cases h
 ex h:=by cases h
 exd h:=by cases h
 loop h:=by cases h
 HO h:=by cases h
theorem zc(hz:ZP P)(Ou:P.follows .mixedOrders=true)(ZR:EN P){L:List FuncId}(Wu:CK P L)(hS:Wo P w0 k R):Wo P w0 (k+1) (CV P L R) where
 eqv:=hS.eqv
 ex {f args W outs} h:=by
  simp only[CV]at h
  cases hm:CB L f with
  |false=>rw[hm]at h;cases h
  | true=>
   rw[hm]at h;simp only[aav,cond_false]at h
   cases ho:(CB L (f+2000000)&&args.isEmpty)with
   |true=>
    simp only[dy]at ho;obtain⟨⟨fn,hf,_⟩,_⟩:=Wu.2 f ho.1;exact⟨fn,hf⟩
   | false=>
    rw[ho]at h;simp only[cond_false]at h
    cases hf:P.funcs[f]? with
    |some fn=>exact⟨fn,hf⟩
    |none=>
     rw[hf]at h
     cases Sh:CB L (f+1000000)<;>(rw[Sh]at h;cases h)
 exd {f args u W outs} h:=by
  simp only[CV]at h
  cases hm:CB L f with
  |false=>rw[hm]at h;cases h
  |true=>
   rw[hm]at h
   cases hf:P.funcs[f]? with
   |some fn=>exact⟨fn,hf⟩
   |none=>rw[hf]at h;cases h
 code h hr ha hw Aa n:=qN hz Ou hS h hr ha hw Aa λ_ _ _ h=>h
 call h DC hw:=qQ ZR Wu hS h DC hw
 round h hb DC hw:=kx hS h hb DC hw
 loop h hr ha hw Aa n Q hQ:=Wp hS (by simpa only[CV,Bs]using h) hr ha hw Aa hQ
 HO h DC hu hw:=k_ hz ZR Wu hS h DC hu hw
theorem cY{eqv:Value→Value→Bool}(he:∀u v,eqv u v=true→u=v)(hz:ZP P)(Ou:P.follows .mixedOrders=true)(ZR:EN P){L:List FuncId}(Wu:CK P L):∀n,Wo P w0 n (evB P eqv L n)
 |0=>zb he
 |n+1=>zc hz Ou ZR Wu (cY he hz Ou ZR Wu n)
theorem ACE(hz:ZP P)(Ou:P.follows .mixedOrders=true)(ZR:EN P){L:List FuncId}(Wu:CK P L)(n:Nat):Wo P w0 n (Y8 P L n):=cY (HF 8) hz Ou ZR Wu n
end
theorem Below.ABR(w:World):Below w.heap.size w w:=⟨rfl,rfl,rfl,aaf _,λ_ _=>rfl⟩
end Go.Ce
namespace Go.Ce
structure C5.Le(R S:C5):Prop where
 code:∀{ro fn c a W o},R.code ro fn c a W=some o→S.code ro fn c a W=some o
 call:∀{f args W o},R.call f args W=some o→S.call f args W=some o
 round:∀{l args W o},R.round l args W=some o→S.round l args W=some o
 HO:∀{f args u W o},R.HO f args u W=some o→S.HO f args u W=some o
 eqv:∀{u v},R.eqv u v=true→S.eqv u v=true
theorem Wv{α β:Type}{f g:α→Option (List β)}(h:∀x r,f x=some r→g x=some r):∀{l:List α} {r:List β},QZ f l=some r→QZ g l=some r
 |[],r,e=>e
 | x::xs,r,e=>by
  simp only[QZ]at e ⊢
  split at e
  ·cases e
  ·rename_i l hl
   split at e
   ·cases e
   ·rename_i m hm;rw[h _ _ hl,Wv h hm];exact e
theorem DA{α β:Type}{o o':Option (List α)}{f g:α→Option (List β)}{r:List β}(ho:∀l,o=some l→o'=some l)(h:∀x r,f x=some r→g x=some r)(e:Dq o f=some r):Dq o' g=some r:=by
 unfold Dq at e ⊢
 split at e
 ·cases e
 ·rename_i l;rw[ho l rfl];exact Wv h e
theorem Nq{ops:Array Oper}{i:Nat}{an:List Nat}{ok ok':CW→Bool}(h:∀W,ok W=true→ok' W=true):∀{ws:List (Nat×CW)} {W:CW},DJ ops i an ok ws W=true→DJ ops i an ok' ws W=true
 |[],W,e=>h W e
 | (j,Wj)::before,W,e=>by
  simp only[DJ,dy,aaQ]at e ⊢;refine⟨e.1.imp id (h W),?_⟩;have e2:=e.2
  cases hm:CB an j with
  |true=>rfl
  |false=>
   rw[hm]at e2;exact Nq h e2
section
variable {P:Program}{R S:C5}
theorem Z3{ops:Array Oper}:∀{rest:List Oper} {a:AI} {u:FrameMode} {W:CW},CU P R ops rest a u W=CU P S ops rest a u W
 |[],a,u,W=>rfl
 |x::rest,a,u,W=>by
  simp only[CU];have ih:∀{a:AI} {u:FrameMode} {W:CW},CU P R ops rest a u W=CU P S ops rest a u W:=λ{a u W}=>Z3;simp only[ih]
end
section
variable {P:Program}{R S:C5}(Iv:R.Le S)
include Iv
theorem F'{ops:Array Oper}:∀{rest:List Oper} {a:AI} {W:CW} {o:List (Exit×AI×CW)},Fp P R ops rest a W=some o→Fp P S ops rest a W=some o
 |[],a,W,o,h=>h
 | x::rest,a,W,o,h=>by
  simp only[Fp]at h ⊢
  split at h
  ·rename_i hg;refine DA (λl hl=>hl) (λy r hy=>?_) h;obtain⟨n,W1⟩:=y
   cases n with
   |value v=>exact F' hy
   |skip=>exact F' hy
   |defer d=>exact F' hy
   |enter f args=>
    refine DA (λl hl=>Iv.call hl) (λz r hz=>?_) hy;obtain⟨e,W2⟩:=z
    cases e with
    |returned v=>exact F' hz
    |panicked ch=>exact hz
    |outgrown=>exact hz
   |round l args=>
    refine DA (λl hl=>Iv.round hl) (λz r hz=>?_) hy;obtain⟨e,W2⟩:=z
    cases e with
    |returned v=>exact F' hz
    |panicked ch=>exact hz
    |outgrown=>exact hz
   |recover=>exact hy
   |panic v=>exact hy
  ·exact F' h
theorem Nr{o o':Ends}(h:∀l,o=some l→o'=some l){r:List (Ending×CW)}(hm:merged o=some r):merged o'=some r:=by
 obtain⟨m,Br⟩:=KR hm;rw[h m Br,←Br];exact hm
theorem RK{a b:Option Am}(h:JQ R.eqv a b=true):JQ S.eqv a b=true:=by
 unfold JQ at h ⊢
 split at h
 ·simp only[dy]at h ⊢;exact⟨h.1,Iv.eqv h.2⟩
 ·cases h
theorem cZ{o:Oper}{a:AI}{v:Value}{ob:Option Am}(h:G1 P R.eqv o a v ob=true):G1 P S.eqv o a v ob=true:=by
 unfold G1 at h ⊢
 split at h
 ·split at h
  ·simp only[ac8]at h ⊢;obtain⟨l,h1,p,h2,h3⟩:=h;refine⟨l,h1,p,h2,?_⟩
   split at h3
   ·simp only[dy]at h3 ⊢;exact⟨Iv.eqv h3.1,RK Iv h3.2⟩
   ·cases h3
  ·cases h
 ·exact h
 ·exact h
theorem lB{ops:Array Oper}{i:Nat}{v:Value}{ob:Option Am}{W:CW}(h:LV R.eqv ops i v ob W=true):LV S.eqv ops i v ob W=true:=by
 unfold LV at h ⊢
 cases hb:(ops[i]?).any VB with
 |true=>
  rw[hb]at h;simp only[cond_true]at h ⊢
  split at h
  ·exact RK Iv h
  ·cases h
 |false=>rw[hb]at h;exact h
theorem K5{ops:Array Oper}{fl:List (Nat×Value×Option Am)}{i:Nat}{o:Oper}{s s':FE}(h:BX P R ops fl i o s=some s'):BX P S ops fl i o s=some s':=by
 unfold BX at h ⊢
 split at h
 ·rw[cond_eq_ite]at h ⊢
  split at h
  ·rename_i hc;rw[aad (cZ Iv hc)];exact h
  ·cases h
 ·split at h
  ·cases h
  ·exact h
  ·rename_i hw
   cases hp:C1 P o with
   |true=>
    rw[hp]at h;simp only[cond_true]at h ⊢;exact h
   | false=>
    rw[hp]at h;simp only[cond_false]at h ⊢
    cases hr:DU P o with
    |true=>
     rw[hr]at h;simp only[cond_true]at h ⊢;exact h
    | false=>
     rw[hr]at h;simp only[cond_false]at h ⊢
     split at h
     ·exact h
     ·exact h
     ·rename_i f args W1 hc
      split at h
      ·rename_i v W2 hm;rw[Nr Iv (λl hl=>Iv.call hl) hm];exact h
      ·cases h
     ·rename_i l args W1 hc
      split at h
      ·rename_i v W2 hm;rw[Nr Iv (λl hl=>Iv.round hl) hm];exact h
      ·cases h
     ·cases h
theorem JU{ops:Array Oper}{fl:List (Nat×Value×Option Am)}:∀{rest:List Oper} {i:Nat} {s s':FE},EJ P R ops fl i rest s=some s'→EJ P S ops fl i rest s=some s'
 |[],i,s,s',h=>h
 |o::rest,i,s,s',h=>by
  simp only[EJ]at h ⊢
  split at h
  ·rename_i s1 h1;rw[K5 Iv h1];exact JU h
  ·cases h
theorem ca{ops:Array Oper}{fl:List (Nat×Value×Option Am)}{i:Nat}{o:Oper}{s:FE}{x:List PanicEntry×CW}(h:Ek P R ops fl i o s=some x):Ek P S ops fl i o s=some x:=by
 unfold Ek at h ⊢
 split at h
 ·cases h
 ·split at h
  ·cases hp:C1 P o with
   |true=>rw[hp]at h;cases h
   | false=>
    rw[hp]at h;simp only[cond_false]at h ⊢
    cases hr:DU P o with
    |true=>rw[hr]at h;cases h
    | false=>
     rw[hr]at h;simp only[cond_false]at h ⊢
     split at h
     ·split at h
      ·rename_i hm;rw[Iv.call hm];exact h
      ·cases h
     ·split at h
      ·rename_i hm;rw[Iv.round hm];exact h
      ·cases h
     ·cases h
  ·cases h
omit Iv in
theorem MQ{ops:Array Oper}{fl:List (Nat×Value×Option Am)}{i:Nat}{o:Oper}{s:FE}{x:List PanicEntry×CW}(h:Ek P R ops fl i o s=some x):BX P R ops fl i o s=none:=by
 unfold Ek at h;unfold BX
 split at h
 ·cases h
 ·rename_i hf;simp only[hf]
  split at h
  ·rename_i hw;rw[hw];simp only
   cases hp:C1 P o with
   |true=>rw[hp]at h;cases h
   | false=>
    rw[hp]at h;simp only[cond_false]at h ⊢
    cases hr:DU P o with
    |true=>rw[hr]at h;cases h
    | false=>
     rw[hr]at h;simp only[cond_false]at h ⊢
     split at h
     ·rename_i hc;rw[hc]
      split at h
      ·rename_i hm;simp only[hm];rfl
      ·cases h
     ·rename_i hc;rw[hc]
      split at h
      ·rename_i hm;simp only[hm];rfl
      ·cases h
     ·cases h
  ·cases h
theorem K6{ops:Array Oper}{fl:List (Nat×Value×Option Am)}:∀{rest:List Oper} {i:Nat} {s:FE} {x:Nat×List PanicEntry×CW},EK P R ops fl i rest s=some x→EK P S ops fl i rest s=some x
 |[],i,s,x,h=>h
 | o::rest,i,s,x,h=>by
  simp only[EK]at h ⊢
  cases hp:Ek P R ops fl i o s with
  |some y=>
   rw[hp]at h;rw[ca Iv hp];exact h
  | none=>
   rw[hp]at h;simp only at h
   cases hs:BX P R ops fl i o s with
   |none=>rw[hs]at h;cases h
   |some s1=>
    rw[hs]at h;have Ul:=K5 Iv hs
    cases hq:Ek P S ops fl i o s with
    |some y=>have:=MQ hq;rw[Ul]at this;cases this
    |none=>simp only[Ul];exact K6 h
omit Iv in
theorem K7{ops:Array Oper}{fl:List (Nat×Value×Option Am)}:∀{rest:List Oper} {i:Nat} {s:FE} {x:Nat×List PanicEntry×CW},EK P R ops fl i rest s=some x→EJ P R ops fl i rest s=none
 |[],i,s,x,h=>by cases h
 | o::rest,i,s,x,h=>by
  simp only[EK]at h;simp only[EJ]
  cases hp:Ek P R ops fl i o s with
  |some y=>rw[MQ hp]
  | none=>
   rw[hp]at h;simp only at h
   cases hs:BX P R ops fl i o s with
   |none=>rfl
   |some s1=>
    rw[hs]at h;exact K7 h
omit Iv in
theorem K8{F G:Nat→Oper→FE→Option FE}(hFG:∀i o s s',F i o s=some s'→G i o s=some s'):∀{rest:List Oper} {i:Nat} {s s':FE},C6 F i rest s=some s'→C6 G i rest s=some s'
 |[],i,s,s',h=>h
 |o::rest,i,s,s',h=>by
  simp only[C6]at h ⊢
  split at h
  ·rename_i s1 h1;rw[hFG _ _ _ _ h1];exact K8 hFG h
  ·cases h
theorem Ww{ops:Array Oper}{fl:List (Nat×Value×Option Am)}{i0:Nat}:∀i o s s',Hy P R ops fl i0 i o s=some s'→Hy P S ops fl i0 i o s=some s':=by
 intro i o s s' h;unfold Hy at h ⊢
 cases hn:NH ops i0 i with
 |true=>rw[hn]at h;exact h
 |false=>rw[hn]at h;exact K5 Iv h
theorem gB{ops:Array Oper}{a:AI}{W:CW}{o:List (Exit×AI×CW)}(h:Iy P R ops a W=some o):Iy P S ops a W=some o:=by
 have win:∀{s:FE},(s.rd.all λ(i,o,a,v)=>DJ ops i (Gh ops i) (λW=>match BF P o a.eval W with|some [(.value u,_)]=>R.eqv u v|_=>false) s.ws s.W)=true→
   (s.rd.all λ(i,o,a,v)=>DJ ops i (Gh ops i) (λW=>match BF P o a.eval W with|some [(.value u,_)]=>S.eqv u v|_=>false) s.ws s.W)=true:=by
  intro s h1;rw[aax]at h1 ⊢;intro x hx;refine Nq (λW hW=>?_) (h1 x hx)
  split at hW
  ·exact Iv.eqv hW
  ·cases hW
 unfold Iy at h ⊢
 split at h
 ·cases h
 ·split at h
  ·split at h
   ·cases h
   ·rename_i KN;have uu:=K6 Iv KN;rw[K7 uu,uu];simp only
    split at h
    ·cases h
    ·rename_i s hs;rw[K8 (Ww Iv) hs];simp only[cond_eq_ite]at h ⊢
     split at h
     ·rename_i h1;rw[aad h1]
      split at h
      ·rename_i h2;exact(aad (win h2)).trans h
      ·cases h
     ·cases h
  ·rename_i s hs;rw[JU Iv hs];simp only[cond_eq_ite]at h ⊢
   split at h
   ·rename_i h1;refine(aad (win h1)).trans ?_
    split at h
    ·rename_i h2;refine(aad ?_).trans h;rw[aax]at h2 ⊢;intro x hx;exact Nq (λW hW=>lB Iv hW) (h2 x hx)
    ·cases h
   ·cases h
theorem EL{fn:Func}{a:AI}:∀{ds:List Deferred} {u:FrameMode} {W:CW} {o:List (Ending×CW)},leaves P R fn a ds u W=some o→leaves P S fn a ds u W=some o
 |[],u,W,o,h=>by cases u<;>exact h
 | d::ds,u,W,o,h=>by
  cases u<;>(
   simp only[leaves]at h ⊢
   split at h
   ·split at h
    ·exact EL h
    ·cases h
   ·refine DA (λl hl=>Iv.HO hl) (λz r hz=>?_) h;obtain⟨e,u2,W2⟩:=z
    cases e with
    |returned v=>exact EL hz
    |panicked ch=>exact hz
    |outgrown=>exact hz
   ·cases h)
theorem PH{fn:FuncId}{c:Code}{a:AI}{u:FrameMode}{W:CW}{o:List (Exit×AI×FrameMode×CW)}(h:(Dq (R.code none fn c a W) λ(e,a,W)=>some [(e,a,u,W)])=some o) :
  (Dq (S.code none fn c a W) λ(e,a,W)=>some [(e,a,u,W)])=some o :=
 DA (λl hl=>Iv.code hl) (λ_ _ h=>h) h
theorem Wx{fn:FuncId}:∀{c:Code} {a:AI} {u:FrameMode} {W:CW} {o:List (Exit×AI×FrameMode×CW)},VD P R fn c a u W=some o→VD P S fn c a u W=some o:=by
 intro c
 induction c with
 |region id ops d=>
  intro a u W o h
  cases d with
  |false=>simp only[VD]at h ⊢;rw[Z3 (S:=R)];exact h
  |true=>exact PH Iv h
 |seq x y Y9 Y'=>
  intro a u W o h;simp only[VD]at h ⊢;refine DA (λl hl=>Y9 hl) (λz r hz=>?_) h;obtain⟨e,a2,u2,W2⟩:=z
  cases e with
  |normal=>exact Y' hz
  |_=>exact hz
 |cond c x y Y9 Y'=>
  intro a u W o h;simp only[VD]at h ⊢
  split at h
  ·exact Y9 h
  ·exact Y' h
  ·cases h
 |_=>intro a u W o h;exact PH Iv h
theorem Z4{o o':PV}{f g:AI→CW→PV}{r:List (Exit×AI×CW)}(ho:∀l,o=some l→o'=some l)(hf:∀a W r,f a W=some r→g a W=some r)(h:Q0 o f=some r):Q0 o' g=some r:=by
 unfold Q0 at h ⊢;refine DA ho (λz r hz=>?_) h;obtain⟨e,a,W⟩:=z
 cases e with
 |normal=>exact hf _ _ _ hz
 |_=>exact hz
theorem ZS{ro:Option Nat}{fn:FuncId}{c:Code}{a:AI}{W:CW}{o:List (Exit×AI×CW)}(h:Bs P R ro fn c a W=some o):Bs P S ro fn c a W=some o:=by
 cases c with
 |region id ops d=>cases d with
  |false=>exact F' Iv h
  |true=>exact gB Iv h
 |seq x y=>exact Z4 Iv (λl hl=>Iv.code hl) (λ_ _ _ hr=>Iv.code hr) h
 |cond c x y=>
  simp only[Bs]at h ⊢
  split at h
  ·exact Iv.code h
  ·cases h
 |block id b=>
  simp only[Bs]at h ⊢;exact DA (λl hl=>Iv.code hl) (λ_ _ hz=>hz) h
 |scope b=>exact Iv.code h
 |loop b=>exact Z4 Iv (λl hl=>Iv.code hl) (λ_ _ _ hr=>Iv.code hr) h
 | rangeFunc f ps asz bd=>
  simp only[Bs]at h ⊢
  split at h
  ·cases h
  ·rename_i dl mark W1 ha
   split at h
   ·rename_i g args hc;exact DA (λl hl=>Iv.call hl) (λ_ _ hz=>hz) h
   ·cases h
 |_=>exact h
theorem cd{L:List FuncId}:(CV P L R).Le (CV P L S) where
 eqv:=Iv.eqv
 code h:=ZS Iv h
 call {f args W o} h:=by
  simp only[CV]at h ⊢
  cases hm:CB L f with
  |false=>rw[hm]at h;cases h
  | true =>
   rw[hm]at h;simp only[aav,cond_false]at h ⊢
   cases ho:(CB L (f+2000000)&&args.isEmpty)with
   |true=>rw[ho]at h;exact h
   | false=>
    rw[ho]at h;simp only[cond_false]at h ⊢
    have key:∀{o:List (Ending×CW)},(match P.funcs[f]? with
      | some fn=>match fn.body with
       |some c=>cond (Nat.ble args.length fn.ntmps) (Dq (R.code none f c (IC fn args) W) λ(e,a,W)=>
        match e with
        | .normal=>leaves P R fn a a.defers .returning W
        | .ret=>leaves P R fn a a.defers .returning W
        | .panic ch=>cond a.My (G2 a.defers ch W) (leaves P R fn a a.defers (.panicking ch) W)
        |_=>none) none
       |_=>none
      |_=>none)=some o→(match P.funcs[f]? with
      | some fn=>match fn.body with
       |some c=>cond (Nat.ble args.length fn.ntmps) (Dq (S.code none f c (IC fn args) W) λ(e,a,W)=>
        match e with
        | .normal=>leaves P S fn a a.defers .returning W
        | .ret=>leaves P S fn a a.defers .returning W
        | .panic ch=>cond a.My (G2 a.defers ch W) (leaves P S fn a a.defers (.panicking ch) W)
        |_=>none) none
       |_=>none
      |_=>none)=some o:=by
     intro o h
     split at h
     ·rename_i fn hf
      split at h
      ·rename_i c hc
       cases hle:Nat.ble args.length fn.ntmps with
       |false=>rw[hle]at h;cases h
       | true=>
        rw[hle]at h;simp only[cond_true]at h ⊢;refine DA (λl hl=>Iv.code hl) (λz r hz=>?_) h;obtain⟨e,a,W⟩:=z
        cases e with
        |normal=>exact EL Iv hz
        |ret=>exact EL Iv hz
        |panic ch=>
         simp only[cond_eq_ite]at hz ⊢
         split at hz
         ·rename_i hb;rw[aad hb];exact hz
         ·rename_i hb;rw[aac hb];exact EL Iv hz
        |exit id=>exact hz
        |goto id=>exact hz
        |outgrown=>exact hz
      ·cases h
     ·cases h
    cases Sh:CB L (f+1000000)with
    |false=>
     rw[Sh]at h;simp only[cond_false]at h ⊢;exact key h
    |true=>
     rw[Sh]at h;simp only[cond_true]at h ⊢;exact Nr Iv (λl hl=>key hl) h
 HO {f args u W o} h:=by
  simp only[CV]at h ⊢
  cases hm:CB L f with
  |false=>rw[hm]at h;cases h
  | true=>
   rw[hm]at h;simp only[aav,cond_false]at h ⊢
   split at h
   ·rename_i fn hf
    split at h
    ·rename_i c hc
     cases hle:Nat.ble args.length fn.ntmps with
     |false=>rw[hle]at h;cases h
     |true=>
      rw[hle]at h;simp only[cond_true]at h ⊢;exact DA (λl hl=>Wx Iv hl) (λ_ _ hz=>hz) h
    ·cases h
   ·cases h
 round {l args W o} h:=by
  simp only[CV]at h ⊢
  split at h
  ·rename_i Dr f t nt ps assign body ld BY
   cases hq:Nat.beq args.length ps.size with
   |false=>rw[hq]at h;cases h
   | true=>
    rw[hq]at h;simp only[cond_true]at h ⊢;refine DA (λl hl=>Iv.code hl) (λz r hz=>?_) h;obtain⟨e,a,W1⟩:=z
    cases e with
    |normal=>
     simp only at hz ⊢
     split at hz
     ·exact DA (λl hl=>Iv.code hl) (λ_ _ hz=>hz) hz
     ·cases hz
    |_=>exact hz
  ·cases h
end
theorem gC{P:Program}{eqv:Value→Value→Bool}{L:List FuncId}:∀n,(evB P eqv L n).Le (evB P eqv L (n+1))
 |0=>⟨λ{_ _ _ _ _ _} h=>(by cases h),λ{_ _ _ _} h=>(by cases h),λ{_ _ _ _} h=>(by cases h),λ{_ _ _ _ _} h=>(by cases h),λh=>h⟩
 |n+1=>cd (gC n)
theorem C5.Le.refl(R:C5):R.Le R:=⟨λh=>h,λh=>h,λh=>h,λh=>h,λh=>h⟩
theorem C5.Le.trans{R S T:C5}(h:R.Le S)(k:S.Le T):R.Le T:=⟨λx=>k.code (h.code x),λx=>k.call (h.call x),λx=>k.round (h.round x),λx=>k.HO (h.HO x),λx=>k.eqv (h.eqv x)⟩
theorem Ds{P:Program}{eqv:Value→Value→Bool}{L:List FuncId}{n m:Nat}(h:n≤m):(evB P eqv L n).Le (evB P eqv L m):=by
 induction h with
 |refl=>exact .refl _
 |step _ ih=>exact ih.trans (gC _)
end Go.Ce
namespace Go.Ce
open Go.RowKit (Below)
def AIj(P:Program):Bool:=(List.range P.types.size).all λt=>match Hr P t with|some z=>F4 8 z|none=>true
def AIk (P:Program):Bool:=P.funcs.toList.all fun fn=>!(fn.body.isNone && fn.name == "maps.clone")
theorem EX.of{P:Program}(h:AIk P=true):EX P:=by
 intro f fn hf hb hn;have hm:fn∈P.funcs.toList:=by simpa using acr hf
 have:=aax.1 h fn hm;simp[hb,hn]at this
theorem ZP.of{P:Program}(h:AIj P=true)(hx:EX P):ZP P:=by
 refine⟨?_,hx⟩;intro t z hz
 have Ao:t<P.types.size:=by
  unfold Hr at hz;rw[cond_eq_ite]at hz
  split at hz
  ·rename_i h1;exact aam h1
  ·cases hz
 have:=aax.1 h t (aaV.2 Ao);rw[hz]at this;exact⟨8,this⟩
def AIl (P:Program):Bool:=P.funcs.toList.all fun fn=>!(fn.name == "runtime.NumGoroutine")
theorem EN.of{P:Program}(h:AIl P=true):EN P:=by
 intro f fn hf hb args w;have hm:fn∈P.funcs.toList:=by simpa using acr hf
 have hn:=List.all_eq_true.1 h fn hm; have hn:(fn.name == "runtime.NumGoroutine")=false:=by simpa using hn
 have hb:fn.body.isNone=false:=by cases hx:fn.body<;>simp_all
 simp only[callFunc,aae,run_program,zC,hf,hn,hb,aaM,abk,aak]
theorem AU.uv{P:Program}{ρ:Bk}{W:CW}{w:World}(h:AU P w ρ W w)(x:Info){f:Nat→Value}{e e':TypeId}{c':Array Value}{fr:Nat×Nat}(hb:w.heap[x.b]?=some (.cells c' e' fr))(hn:c'.size=x.n')
  (hle:x.o+x.n≤x.n') (he:(P.info? e).map (·.size)=some x.sz) (hc:∀k,k<x.n→AK ρ (f k) (c'.getD (k+x.o) undef)) :
  Ef W ρ (W.new (.fixed f x.n e)) (λi=>if i=W.sz then some x else ρ i)∧AU P w (λi=>if i=W.sz then some x else ρ i) (W.new (.fixed f x.n e)) w:=by
 have C2:Ext ρ (λi=>if i=W.sz then some x else ρ i):=λi y hy=>by
  have:=h.VF i y hy;show(if i=W.sz then some x else ρ i)=some y;rw[aac (by omega)];exact hy
 have Ao:x.b<w.heap.size:=(aao.1 hb).1
 refine⟨⟨C2,λi hi=>by show(if i=W.sz then some x else ρ i)=ρ i;rw[aac (by omega)],Nat.le_succ _⟩,?_,?_,?_,?_,h.below⟩
 ·intro i y hy;show i<W.sz+1
  by_cases e:i=W.sz
  ·omega
  ·have:ρ i=some y:=by simpa[e]using hy
   have:=h.VF i y this;omega
 ·intro i u hu;show i<W.sz+1;simp only[CW.new,Tr.Bc]at hu
  split at hu
  ·omega
  ·have:=h.top i u hu;omega
 ·intro i u y hu hd hy;simp only[CW.new,Tr.Bc]at hu
  split at hu
  ·rename_i e0
   cases hu
   have hy:some x=some y:=by simpa[e0]using hy
   cases hy
   exact⟨_,hb,.fixed he hn hle λk hk=>(hc k hk).mono C2,(λhm=>by cases hm),λ_=>Ao⟩
  ·rename_i e0;have hy:ρ i=some y:=by simpa[e0]using hy
   obtain⟨u',UQ,hru,ji⟩:=h.live i u y hu hd hy;exact⟨u',UQ,hru.mono C2,ji⟩
 ·intro i j u v y z hu s6 hv NU hy hz tr;simp only[CW.new,Tr.Bc]at hu hv
  by_cases ei:i=W.sz
  ·simp only[aad ei,aag]at hu;subst hu;cases s6
  ·simp only[aac ei]at hu hy
   by_cases ej:j=W.sz
   ·simp only[aad ej,aag]at hv;subst hv;cases NU
   ·simp only[aac ej]at hv hz;exact h.inj i j u v y z hu s6 hv NU hy hz tr
section
variable (P:Program)
def Z5(js:TypeId→Bool):List Field→Nat→Nat→Bool
 |[],off,total=>Nat.beq off total
 |f::fs,off,total=>Nat.beq f.offset off&&js f.type&&Z5 js fs (off+P.cellsOf f.type) total
def js:Nat→TypeId→Bool
 |0,_=>false
 |n+1,t=>match P.underlying t with
  |some .bool=>true
  |some (.int _)=>true
  |some .string=>true
  |some (.slice e)=>(match De P e with|some s=>Nat.blt 0 s|none=>false)&&js n e
  |some (.struct fs)=>Z5 P (js n) fs.toList 0 (P.cellsOf t)
  |some (.array k e)=>js n e&&Nat.beq (P.cellsOf t) (k*P.cellsOf e)
  |_=>false
def CT:Nat→TypeId→CW→List Value→Prop
 |0=>λ_ _ _=>False
 |n+1=>λt W vs=>match P.underlying t with
  |some .bool=>∃b,vs=[.bool b]
  |some (.int k)=>∃x,vs=[.int k x]∧(Lit.int k x).wf=true
  |some .string=>∃s:ByteArray,vs=[.string s]∧s.size≤maxLen
  | some (.slice e)=>vs=[.slice none 0 0]∨vs=[.slice (some ⟨0,0,some 0⟩) 0 0]∨∃k len cap f,vs=[.slice (some ⟨k,0,none⟩) len cap]∧0<cap∧len≤cap∧cap≤maxLen∧
    W.obj k=some (.fixed f (len*P.cellsOf e) e)∧∀i,i<len→CT n e W (FC f (P.cellsOf e) (i*P.cellsOf e))
  |some (.struct fs)=>vs.length=P.cellsOf t∧∀f,f∈fs.toList→CT n f.type W ((vs.drop f.offset).take (P.cellsOf f.type))
  |some (.array k e)=>vs.length=P.cellsOf t∧∀i,i<k→CT n e W ((vs.drop (i*P.cellsOf e)).take (P.cellsOf e))
  |_=>False
end
def cg(W W':CW):Prop:=∀i o,W.obj i=some o→W'.obj i=some o
theorem cg.refl(W:CW):cg W W:=λ_ _ h=>h
theorem cg.trans{W W1 W2:CW}(h:cg W W1)(k:cg W1 W2):cg W W2:=λi o e=>k i o (h i o e)
section
variable {P:Program}
theorem CT.mono{W W':CW}(hk:cg W W'):∀{n:Nat} {t:TypeId} {vs:List Value},CT P n t W vs→CT P n t W' vs:=by
 intro n
 induction n with
 |zero=>intro t vs h;exact h
 | succ n ih=>
  intro t vs h;simp only[CT]at h ⊢
  split at h<;>try exact h
  ·rcases h with h|h|⟨k,len,cap,f,h1,h2,h3,h4,h5,h6⟩
   ·exact .inl h
   ·exact .inr (.inl h)
   ·exact .inr (.inr ⟨k,len,cap,f,h1,h2,h3,h4,hk _ _ h5,λi hi=>ih (h6 i hi)⟩)
  ·exact⟨h.1,λf hf=>ih (h.2 f hf)⟩
  ·exact⟨h.1,λi hi=>ih (h.2 i hi)⟩
def Laid(P:Program)(w:World)(ρ:Bk)(W:CW)(cs:List Value)(Q:CW→List Value→Prop):Prop :=
 ∃vs ρ' W',Ef W ρ W' ρ'∧cg W W'∧Ap ρ' vs cs∧AU P w ρ' W' w∧Q W' vs
theorem gD{js:TypeId→Bool}:∀{fs:List Field} {off total:Nat},Z5 P js fs off total=true→off≤total∧∀f,f∈fs→off≤f.offset∧f.offset+P.cellsOf f.type≤total
 |[],off,total,h=>⟨Nat.le_of_eq (aab h),λf hf=>by cases hf⟩
 |g::fs,off,total,h=>by
  simp only[Z5,dy]at h;have h1:=aab h.1.1;obtain⟨h2,h3⟩:=gD h.2;refine⟨by omega,λf hf=>?_⟩
  rcases aaE.1 hf with rfl|hf
  ·omega
  ·have:=h3 f hf;omega
theorem Wy{w:World}{n:Nat}{ACF:TypeId→Bool}{cs:List Value}{total:Nat}(jn:cs.length=total):∀(fs:List Field) (off:Nat),Z5 P ACF fs off total=true→
  (∀f,f∈fs→ACF f.type=true→∀ρ W,AU P w ρ W w→Laid P w ρ W ((cs.drop f.offset).take (P.cellsOf f.type)) (CT P n f.type))→∀ρ W,AU P w ρ W w→
  Laid P w ρ W (cs.drop off) λW' vs=>∀f,f∈fs→CT P n f.type W' ((vs.drop (f.offset-off)).take (P.cellsOf f.type))
 |[],off,h,_,ρ,W,hw=>by
  have:=aab h;have LZ:cs.drop off=[]:=List.drop_eq_nil_of_le (by omega);rw[LZ];exact⟨[],ρ,W,.refl _,.refl _,.nil _,hw,λf hf=>by cases hf⟩
 | g::fs,off,h,hp,ρ,W,hw=>by
  simp only[Z5,dy]at h;have h1:=aab h.1.1;obtain⟨h2,h3⟩:=gD h.2;obtain⟨v1,ρ1,W1,g1,k1,l1,w1,c1⟩:=hp g (by simp) h.1.2 ρ W hw;obtain⟨v2,ρ2,W2,g2,k2,l2,w2,c2⟩:=Wy jn fs _ h.2 (λf hf=>hp f (by simp[hf])) ρ1 W1 w1
  have cV:v1.length=P.cellsOf g.type:=by
   have:=l1.1;simp only[aaI,abN]at this;omega
  refine⟨v1++v2,ρ2,W2,g1.trans g2,k1.trans k2,?_,w2,λf hf=>?_⟩
  ·have:=(l1.mono g2.ext).append l2;rw[h1,←acA,abn]at this;exact this
  ·rcases aaE.1 hf with rfl|hf
   ·rw[h1,abB,abI,←cV,List.take_left']
    ·exact c1.mono k2
    ·rfl
   ·have h4:=(h3 f hf).1;have:=c2 f hf;have e:f.offset-off=v1.length+(f.offset-(off+P.cellsOf g.type)):=by omega
    rw[e,←acA,List.drop_left];exact this
theorem cj{w:World}{n:Nat}{e:TypeId}{s:Nat}{cs:List Value}:∀(m i:Nat),(i+m)*s≤cs.length→
  (∀j,i≤j→j<i+m→∀ρ W,AU P w ρ W w→Laid P w ρ W ((cs.drop (j*s)).take s) (CT P n e))→∀ρ W,AU P w ρ W w→
  Laid P w ρ W ((cs.drop (i*s)).take (m*s)) λW' vs=>∀j,j<m→CT P n e W' ((vs.drop (j*s)).take s)
 |0,i,h,_,ρ,W,hw=>by
  rw[abl,acO];exact⟨[],ρ,W,.refl _,.refl _,.nil _,hw,λj hj=>by omega⟩
 | m+1,i,h,hp,ρ,W,hw=>by
  obtain⟨v1,ρ1,W1,g1,k1,l1,w1,c1⟩:=hp i (aaf _) (by omega) ρ W hw;have hh:(i+1+m)*s≤cs.length:=by rw[show i+1+m=i+(m+1) by omega];exact h
  obtain⟨v2,ρ2,W2,g2,k2,l2,w2,c2⟩:=cj m (i+1) hh (λj h1 h2=>hp j (by omega) (by omega)) ρ1 W1 w1;have hm:(i+1)*s≤cs.length:=abh (aaN _ (by omega)) h
  have cV:v1.length=s:=by
   have:=l1.1;simp only[aaI,abN]at this;rw[abu,acD]at hm;omega
  refine⟨v1++v2,ρ2,W2,g1.trans g2,k1.trans k2,?_,w2,λj hj=>?_⟩
  ·have:=(l1.mono g2.ext).append l2
   have e:(cs.drop (i*s)).take ((m+1)*s)=(cs.drop (i*s)).take s++(cs.drop ((i+1)*s)).take (m*s):=by
    rw[abu i 1 s,acD,←acA,abu m 1 s,acD,ac6 (m*s) s,List.take_add]
   rw[e];exact this
  ·cases j with
   |zero=>
    rw[abl,abI,←cV,List.take_left']
    ·exact c1.mono k2
    ·rfl
   |succ j=>
    have:=c2 j (by omega);have e:(j+1)*s=v1.length+j*s:=by rw[abu,acD,cV];omega
    rw[e,←acA,List.drop_left];exact this
theorem qU{e:TypeId}{s:Nat}(h:De P e=some s):P.cellsOf e=s:=by
 unfold De at h;simp[Program.cellsOf,h]
theorem Z6{w:World}{a:Addr}{v:Value}(h:w.cell? a=some v):a.spot=none∧∃c e fr,w.heap[a.block]?=some (.cells c e fr)∧c[a.off]?=some v:=by
 unfold World.cell? at h
 split at h
 ·rename_i c e fr hb
  split at h
  ·cases h
  ·rename_i hs;exact⟨by simpa using hs,c,e,fr,hb,h⟩
 ·cases h
theorem place{H:Type}{enc:TypeId×Value→H}{w:World}{held:Bool}:∀(n:Nat) (t:TypeId) (fuel:Nat) (cs:List Value) (x:DataW H×List MemPlace),js P n t=true→DataW.trod enc P w 0 (λ_=>true) held fuel t cs=some x→
  ∀ρ W,AU P w ρ W w→Laid P w ρ W cs (CT P n t):=by
 intro n
 induction n with
 |zero=>intro t fuel cs x h;cases h
 | succ n ih=>
  intro t fuel cs x Aa h ρ W hw;simp only[js]at Aa
  split at Aa
  ·rename_i ht;obtain⟨b,rfl,_⟩:=DataW.trod_bool ht h;exact⟨[.bool b],ρ,W,.refl _,.refl _,.cons (.bool _) (.nil _),hw,by simp only[CT,ht];exact⟨b,rfl⟩⟩
  ·rename_i k ht;obtain⟨i,rfl,_,hwf⟩:=DataW.trod_int ht h;exact⟨[.int k i],ρ,W,.refl _,.refl _,.cons (.int _ _) (.nil _),hw,by simp only[CT,ht];exact⟨i,rfl,hwf⟩⟩
  ·rename_i ht;obtain⟨s,rfl,_,hl⟩:=DataW.trod_string ht h;exact⟨[.string s],ρ,W,.refl _,.refl _,.cons (.string _) (.nil _),hw,by simp only[CT,ht];exact⟨s,rfl,hl⟩⟩
  ·rename_i e ht;simp only[dy]at Aa;obtain⟨h1,hoe⟩:=Aa;split at h1
   rotate_left
   ·cases h1
   rename_i s hs;have VZ:0<s:=by have:=aam h1;omega
   have jn:=qU hs
   rcases DataW.trod_slice ht h with⟨rfl,_⟩|⟨a,len,cap,elems,rest,m,_,rfl,_,_,hlc,hcm,MJ,uw,nz,_⟩
   ·exact⟨[.slice none 0 0],ρ,W,.refl _,.refl _,.cons (.fJ _ _) (.nil _),hw,by simp only[CT,ht];exact .inl trivial⟩
   ·obtain⟨Z7,nz⟩:=nz rfl;rw[jn]at uw nz
    by_cases hc0:cap=0
    ·subst hc0;have:len=0:=by omega
     subst this;exact⟨[.slice (some ⟨0,0,some 0⟩) 0 0],ρ,W,.refl _,.refl _,.cons (.JR rfl) (.nil _),hw,by simp only[CT,ht];exact .inr (.inl trivial)⟩
    ·
     have reads:∀i,i<cap→∃l,w.cells? 0 (a.add (i*s)) s=some l∧(i<len→∃y,DataW.trod enc P w 0 (λ_=>true) held m e l=some y):=by
      intro i hi
      by_cases H2:i<len
      ·have:=uw i H2;rw[ck (by omega)]at this;obtain⟨l,hl,hy⟩:=acI.1 this;exact⟨l,hl,λ_=>⟨_,hy⟩⟩
      ·have:=nz (i-len) (by omega);rw[ck (by omega),show len+(i-len)=i by omega]at this;obtain⟨l,hl,hy⟩:=acI.1 this;exact⟨l,hl,λh=>absurd h H2⟩
     have cell:∀i j,i<cap→j<s→∃v,w.cell? ((a.add (i*s)).add j)=some v:=by
      intro i j hi hj;obtain⟨l,hl,_⟩:=reads i hi;unfold World.cells? at hl;rw[aad (aa7 _)]at hl;have:=mapM_some_get hl j j (by simp[hj]);have hlen:=mapM_some_length hl;rw[List.length_range]at hlen;rw[ck (by omega)]at this;exact⟨_,this⟩
     obtain⟨v0,tE⟩:=cell 0 0 (by omega) VZ;have lC:(a.add (0*s)).add 0=a:=by simp[Addr.add]
     rw[lC]at tE;obtain⟨I9,c',e',fr,hb,_⟩:=Z6 tE;obtain⟨ab,ao,asp⟩:=a;simp only at I9 hb;subst I9
     have AFZ:∀i j,((⟨ab,ao,none⟩:Addr).add i).add j=⟨ab,ao+(i+j),none⟩:=by
      intro i j;rw[NZ,NZ];congr 1;omega
     have AFa:∀k,k<cap*s→∃v,c'[ao+k]?=some v:=by
      intro k hk;have h1:k/s<cap:=Nat.div_lt_of_lt_mul (by rw[acF];exact hk);have h2:k%s<s:=Nat.mod_lt _ VZ;obtain⟨v,hv⟩:=cell (k/s) (k%s) h1 h2;rw[AFZ]at hv;have e:k/s*s+k%s=k:=by rw[acF];exact Nat.div_add_mod k s
      rw[e]at hv;obtain⟨_,c2,e2,f2,O6,TB⟩:=Z6 hv;simp only at O6 TB;rw[hb]at O6;cases O6;exact⟨v,TB⟩
     have Hs:ao+cap*s≤c'.size:=by
      have hp:0<cap*s:=Nat.mul_pos (by omega) VZ;obtain⟨v,hv⟩:=AFa (cap*s-1) (by omega);have:=(aao.1 hv).1;omega
     have hls:len*s≤cap*s:=aaN _ hlc
     let C:List Value:=(List.range (len*s)).map λk=>c'.getD (ao+k) undef
     have hC:C.length=len*s:=by simp[C]
     have hCg:∀k,k<len*s→C[k]?=some (c'.getD (ao+k) undef):=λk hk=>by simp[C,hk]
     obtain⟨V,ρ1,W1,g1,k1,l1,w1,c1⟩:=cj (P:=P) (w:=w) (n:=n) (e:=e) (s:=s) (cs:=C) len 0 (by rw[hC,aa0];exact aaf _) (λj _ hj ρ W hw=>by
      have hj:j<len:=by omega
      obtain⟨l,hl,hy⟩:=reads j (by omega);obtain⟨y,hy⟩:=hy hj
      have:(C.drop (j*s)).take s=l:=by
       unfold World.cells? at hl;rw[aad (aa7 _)]at hl;have hlen:=mapM_some_length hl;rw[List.length_range]at hlen;have hjs:(j+1)*s≤len*s:=aaN _ hj;rw[abu,acD]at hjs;apply abq;intro i
       by_cases hi:i<s
       ·have h1:=mapM_some_get hl i i (by simp[hi]);rw[AFZ]at h1;rw[aaW,aad hi,abv,hCg _ (by omega),←h1];unfold World.cell?;simp only[hb];have:ao+(j*s+i)<c'.size:=by omega
        simp[Array.getD,this]
       ·rw[aaW,aac hi,ab1 (by omega)]
      rw[this]
      exact ih e m l y hoe hy ρ W hw) ρ W hw
     have AFb:(C.drop (0*s)).take (len*s)=C:=by
      rw[abl,abI,aaS (by omega)]
     rw[AFb]at l1;have hV:V.length=len*s:=by rw[l1.1,hC]
     obtain⟨g2,w2⟩:=w1.uv (e:=e) (f:=λk=>V.getD k undef) ⟨ab,ao,s,len*s,c'.size⟩ hb rfl (by show ao+len*s≤c'.size;omega) (by exact hs) (λk hk=>by
      have hk:k<len*s:=hk;have:=l1.2 k (by omega);rw[aaj (l:=C),hCg k hk]at this;show AK ρ1 (V.getD k undef) (c'.getD (k+ao) undef)
      rw[ac6 k ao];exact this)
     have ABS:cg W1 (W1.new (.fixed (λk=>V.getD k undef) (len*s) e)):=λi o ho=>by
      have:=w1.top i o ho;simp only[CW.obj,CW.new,Tr.Bc];rw[aac (by omega)];exact ho
     refine⟨[.slice (some ⟨W1.sz,0,none⟩) len cap],_,_,g1.trans g2,k1.trans ABS,.cons (.slice _ ⟨rfl,⟨ab,ao,s,len*s,c'.size⟩,by simp,by simp⟩ (.inl rfl)) (.nil _),w2,?_⟩;simp only[CT,ht];refine .inr (.inr ⟨W1.sz,len,cap,λk=>V.getD k undef,rfl,by omega,hlc,hcm,by simp[CW.obj,CW.new,Tr.Bc,jn],λi hi=>?_⟩);rw[jn]
     have AFc:FC (λk=>V.getD k undef) s (i*s)=(V.drop (i*s)).take s:=by
      have his:(i+1)*s≤len*s:=aaN _ hi;rw[abu,acD]at his;apply abq;intro j
      by_cases hj:j<s
      ·rw[aaW,aad hj,abv];have h1:=Na (λk=>V.getD k undef) s (i*s) j hj;rw[aaj,ck (by rw[En];exact hj),abc]at h1;rw[ck (by rw[En];exact hj),h1,ck (by omega)];simp[aaj,show i*s+j<V.length by omega]
      ·rw[ab1 (by rw[En];omega),aaW,aac hj]
     rw[AFc];exact(c1 i hi).mono ABS
  ·rename_i fs ht;obtain⟨xs,m,_,_,hl,hxl,hf⟩:=DataW.trod_struct ht h
   obtain⟨vs,ρ1,W1,g1,k1,l1,w1,c1⟩:=Wy (P:=P) (w:=w) (n:=n) (ACF:=js P n) (cs:=cs) hl fs.toList 0 Aa (λf jq hof ρ W hw=>by
    obtain⟨i,hi,he⟩:=abV jq;have Jr:i<fs.size:=by simpa using hi
    have:=hf i f (by rw[←he];simp[Jr]);rw[ck (by omega)]at this
    exact ih f.type m _ _ hof this ρ W hw) ρ W hw
   rw[abI]at l1;refine⟨vs,ρ1,W1,g1,k1,l1,w1,?_⟩;simp only[CT,ht];exact⟨by rw[l1.1];exact hl,λf hf=>by have:=c1 f hf;simpa using this⟩
  ·rename_i k e ht;simp only[dy]at Aa;have AFd:=aab Aa.2;obtain⟨xs,m,_,_,hl,hxl,hf⟩:=DataW.trod_array ht h
   obtain⟨vs,ρ1,W1,g1,k1,l1,w1,c1⟩:=cj (P:=P) (w:=w) (n:=n) (e:=e) (s:=P.cellsOf e) (cs:=cs) k 0 (by rw[hl,AFd,aa0];exact aaf _) (λj _ hj ρ W hw=>by
    have:=hf j (by omega);rw[ck (by omega)]at this
    exact ih e m _ _ Aa.1 this ρ W hw) ρ W hw
   rw[abl,abI,aaS (by rw[hl,AFd];exact aaf _)]at l1;refine⟨vs,ρ1,W1,g1,k1,l1,w1,?_⟩;simp only[CT,ht];exact⟨by rw[l1.1];exact hl,λi hi=>c1 i hi⟩
  ·cases Aa
end
end Go.Ce
