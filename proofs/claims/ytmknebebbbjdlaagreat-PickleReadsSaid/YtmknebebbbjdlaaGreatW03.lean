/- A part of the proof: Pf, Hg, Pg, Ph, Pi, Pj, Pk, ShA, Hh, Pl, Pm, Pn, Po, Pp, Pq, Pr, ShB, Ps, Pt, Pu, Pv, Pw, Px, Py, Pz, ShC, Qa, Qb, Qc. -/
import Derived.Test.YtmknebebbbjdlaaGreatW02
import Derived.Test.YtmknebebbbjdlaaGreatProg
set_option linter.unusedSectionVars false
set_option linter.unusedVariables false
set_option linter.unusedSimpArgs false
set_option linter.defProp false
set_option maxRecDepth 200000
namespace Go.Ce
open Go Go.Proofs Go.Proofs.Tryz
theorem Ab.imp{α:Type}{n:Nat}{R S:Nat→Nat→α→Prop}{v:Value}{l:List α}(h:Ab n R v l)(hi:∀b o x,R b o x→S b o x):Ab n S v l:=by
 obtain⟨a,cap,h1,h2⟩:=h;exact⟨a,cap,h1,λi x hx=>by obtain⟨p,hp,hr⟩:=h2 i x hx;exact⟨p,hp,hi _ _ _ hr⟩⟩
theorem U8.kp{W W':CW}{b o:Nat}{x:TB}(h:U8 W b o x)(ht:Ai W)(k:Kp W W'):U8 W' b o x:=⟨k.cell ht h.name,k.cell ht h.kind,h.lo,h.hi⟩
theorem EI.kp{W W':CW}{b o:Nat}{x:Aq}(h:EI W b o x)(ht:Ai W)(k:Kp W W'):EI W' b o x :=
 ⟨k.cell ht h.name,k.cell ht h.Bg,by obtain⟨v,h1,h2⟩:=h.fields;exact⟨v,k.cell ht h1,h2.imp λ_ _ _ hr=>hr.kp ht k⟩,k.cell ht h.elem,by obtain⟨a,l,n,h1⟩:=h.binds;exact⟨a,l,n,k.cell ht h1⟩,h.lo,h.hi⟩
def Dd:ByteArray:=⟨#[]⟩
def TF(c:List Aq)(i:Nat):Option Nat:=match c[i]? with
 | some x=>match c.findIdx? (λy=>decide (y.name=x.Bg))with
  |some j=>match c[j]? with
   |some y=>if y.elem=0 then some j else none
   |none=>none
  |none=>none
 |none=>none
def Bx(c:List Aq):Nat→Nat→Option (List Nat)
 | f,i=>match c[i]? with
  |none=>none
  | some x=>if x.Bg=Dd then some [i]else match f with
   |0=>none
   |f+1=>match TF c i with
    |some j=>(Bx c f j).map (i::·)
    |none=>none
termination_by f=>f
def ints(l:List Nat):List Value:=l.map λ(i:Nat)=>Value.int .i64 (i:Int)
theorem z3:Is prog 3=some (.int .i64 0):=by kernel_rfl
theorem by3:(prog.info? 3).map (·.bytes)=some 8:=by kernel_rfl
theorem r_(n:Int)(W:CW):tk prog 40 1 [(0,.int .i64 n)] W=some (.slice (some ⟨W.sz,0,none⟩) 1 1,W.new (.cells (Tr.nil.AW 0 [.int .i64 n]) [Value.int .i64 n].length #[] 3)):=by kernel_rfl
theorem ABa(W:CW)(el:TypeId)(x:Value):Bu (W.new (.cells (Tr.nil.AW 0 [x]) [x].length #[] el)) el 1 (.slice (some ⟨W.sz,0,none⟩) 1 1) [x] :=
 .some ⟨Tr.nil.AW 0 [x],1,#[],by rw[Bd,aae rfl];rfl,rfl,λk w hw=>by
  rw[C6 _ _ _ (dx.1 hw).1,aah,hw];rfl⟩ rfl
theorem TG{P:Program}{t el el':TypeId}(u:P.underlying t=some (.slice el')){W W':CW}{v:Value}{cs:List Value}(h:Bu W el 1 v cs):It P t v W'=some (.int .i64 cs.length):=by
 cases h with
 |nil=>rw[AQ u];rfl
 |some hB hl=>rw[AQ u,hl,abR]
def kT(c:List Aq)(i:Nat)(W:CW):Ending→CW→Prop:=λe W'=>Kp W W'∧Ai W'∧match Bx c c.length i with
 |some l=>∃vo,e=.returned (.tuple #[vo,.bool true])∧Bu W' 3 1 vo (ints l)∧Aw W.sz vo
 |none=>e=.returned (.tuple #[.slice none 0 0,.bool false])
theorem Mo{c:List Aq}{f i:Nat}{x:Aq}(hx:c[i]?=some x)(hs:x.Bg=Dd):Bx c f i=some [i]:=by
 unfold Bx;rw[hx];simp only[hs,aar]
theorem RU{c:List Aq}{i:Nat}{x:Aq}(hx:c[i]?=some x)(hs:x.Bg≠Dd):Bx c 0 i=none:=by
 unfold Bx;rw[hx];simp only[hs,abf]
theorem JS{c:List Aq}{f i:Nat}{x:Aq}(hx:c[i]?=some x)(hs:x.Bg≠Dd):Bx c (f+1) i=match TF c i with
  |some j=>(Bx c f j).map (i::·)
  |none=>none:=by
 rw[Bx,hx];simp only[hs,abf]
theorem sA{v:Value}{c:List Aq}{i0:Nat}{W:CW}(ht:Ai W)(hc:Ab 5 (EI W) v c)(hlen:c.length<100000)(Fj:i0<c.length):Ac prog Bs 97 [v,.int .i64 i0] W (kT c i0 W):=by
 refine AIN ?_;rw[AIM];refine F8 (r_ _ W) ?_;have k0:Kp W (W.new (.cells (Tr.nil.AW 0 [.int .i64 (i0:Int)]) [Value.int .i64 (i0:Int)].length #[] 3)):=.new _;have t0:=ht.new (.cells (Tr.nil.AW 0 [.int .i64 (i0:Int)]) [Value.int .i64 (i0:Int)].length #[] 3);have o0:Bu (W.new (.cells (Tr.nil.AW 0 [.int .i64 (i0:Int)]) [Value.int .i64 (i0:Int)].length #[] 3)) 3 1 (.slice (some ⟨W.sz,0,none⟩) 1 1) (ints [i0]):=ABa _ _ _;refine CX (λk e ds W'=>ds=[]∧∃(i:Nat) (pre:List Nat) (vo:Value),e 0=v∧e 1=.int .i64 i∧e 6=vo∧i<c.length∧Bu W' 3 1 vo (ints (pre++[i]))∧Aw W.sz vo∧Kp W W'∧Ai W'∧k+pre.length=c.length∧Bx c c.length i0=(Bx c k i).map (pre++·)) c.length ⟨rfl,i0,[],_,rfl,rfl,rfl,Fj,o0,dQ (aag _),k0,t0,rfl,by cases Bx c c.length i0<;>rfl⟩ ?_;rintro k e ds W' ⟨rfl,i,pre,vo,h0,h1,h6,hi,ho,SV,bn,uU,hk,kU⟩;have QW:Ab 5 (EI W') v c:=hc.imp λ_ _ _ hr=>hr.kp ht bn;have Yo:=QW;obtain⟨a,cap,rfl,Ah⟩:=Yo;have hx:=ck hi;obtain⟨p,rfl,hp⟩:=Ah i _ hx;rw[AEG,h0,h1,h6,AY UG WQ hi];simp only[AA,TC,AH a9 (a:=⟨p.block,p.off+i*5+1,none⟩) hp.Bg,K6,G1]
 refine AF (λhs=>?_) (λhs=>?_)
 ·have hs:c[i].Bg≠Dd:=by simpa[Dd]using hs
  refine As (Ks QW (by omega)) ?_
  have fail:Bx c c.length i0=none→∀e1:Env,e1 38=.bool true→(U6 none (EB (λk e ds W'=>ds=[]∧∃(i:Nat) (pre:List Nat) (vo:Value),e 0=.slice (some p) c.length cap∧e 1=.int .i64 i∧e 6=vo∧i<c.length∧Bu W' 3 1 vo (ints (pre++[i]))∧Aw W.sz vo∧Kp W W'∧Ai W'∧k+pre.length=c.length∧Bx c c.length i0=(Bx c k i).map (pre++·)) k (CB 0 (gD none (AM prog Tryz.f97 (kT c i0 W)))))) .normal e1 [] W':=by
   intro hn e1 h38;simp only[U6,Aj];rw[h38];simp only[Af,kH,GL,Ib,kK,gD,dH,AG,Nat.reduceEqDiff,↓reduceIte];refine⟨bn,uU,?_⟩;rw[hn]
  simp only[AP,AA]
  have Hp:It prog 40 vo W'=some (.int .i64 ((pre.length+1:Nat):Int)):=by
   rw[TG J9 ho];simp[ints]
  refine AF (λU'=>?_) (λU'=>?_)
  ·refine fail ?_ _ (by simp only[AG,↓reduceIte]);have U':HW c c[i].Bg<0:=of_decide_eq_true U';rw[kU]
   cases k with
   |zero=>rw[RU hx hs];rfl
   | succ k=>
    rw[JS hx hs]
    have:TF c i=none:=by
     unfold TF;rw[hx];simp only;unfold HW at U'
     cases hf:c.findIdx? (λx=>decide (x.name=c[i].Bg))with
     |none=>rfl
     |some j=>rw[hf]at U';simp at U';omega
    rw[this];rfl
  ·have U':¬HW c c[i].Bg<0:=of_decide_eq_false U';rw[Hp,AQ UG];simp only[AA,Ae]
   refine AF (λOa=>?_) (λOa=>?_)
   ·refine fail ?_ _ (by simp only[AG,↓reduceIte]);have Oa:((pre.length+1:Nat):Int)>c.length:=of_decide_eq_true Oa;have:k=0:=by omega
    subst this;rw[kU,RU hx hs];rfl
   ·have Oa:¬((pre.length+1:Nat):Int)>c.length:=of_decide_eq_false Oa;obtain⟨k,rfl⟩:∃k',k=k'+1:=⟨k-1,by omega⟩
    obtain⟨j,hf⟩:∃j,c.findIdx? (λx=>decide (x.name=c[i].Bg))=some j:=by
     cases hf:c.findIdx? (λx=>decide (x.name=c[i].Bg))with
     |none=>unfold HW at U';rw[hf]at U';simp at U'
     |some j=>exact⟨j,rfl⟩
    have mw:HW c c[i].Bg=j:=by unfold HW;rw[hf]
    have hj:j<c.length:=(aaA.1 hf).1;have bo:=ck hj;obtain⟨p',ic,hpj⟩:=Ah j _ bo
    cases ic
    rw[mw,AY UG WQ hj];simp only[AA,Ko,AH a5 (a:=⟨p.block,p.off+j*5+3,none⟩) hpj.elem,BX]
    have ZV:TF c i=if c[j].elem=0 then some j else none:=by
     unfold TF;rw[hx];simp only[hf,bo]
    by_cases he:c[j].elem=0
    ·have hb:(c[j].elem !=0)=false:=by simp[he]
     rw[hb];simp only[U6,Aj,AG,AJ,Nat.reduceEqDiff,↓reduceIte,AT,kH];rw[h6];refine oe J9 s3 z3 rfl (by omega) by3 (by omega) (r_ _) rfl rfl uU ho (by simp[ints];omega) λu v1 W1 IF t1 o1 n1=>?_;simp only[Oo]
     refine⟨k,by omega,trivial,j,pre++[i],v1,?_,?_,?_,hj,?_,n1 _ bn.sz,IF.kp bn SV,t1,by simp;omega,?_⟩
     ·simp only[AG,AJ,Nat.reduceEqDiff,↓reduceIte];exact h0
     ·simp only[AG,AJ,Nat.reduceEqDiff,↓reduceIte]
     ·simp only[AG,↓reduceIte]
     ·have:ints (pre++[i]++[j])=ints (pre++[i])++[.int .i64 (j:Int)]:=by simp[ints]
      rw[this];exact o1
     ·rw[kU,JS hx hs,ZV,aae he];simp only[Option.map_map];congr 1;funext l;simp
    ·refine fail ?_ _ (by simp only[AG,↓reduceIte];simp[he]);rw[kU,JS hx hs,ZV,aad he];rfl
 ·have hs:c[i].Bg=Dd:=by simpa[Dd]using hs
  simp only[M7,Er,gD,Aj,dH,AG,AJ,Nat.reduceEqDiff,↓reduceIte,h6];refine⟨bn,uU,?_⟩;rw[kU,Mo hx hs];exact⟨vo,rfl,ho,SV⟩
end Go.Ce
namespace Go.Ce
section
variable {α:Type}{W:CW}{b n:Nat}{enc:α→List Value}
theorem RV(hn:∀x,(enc x).length=n):∀(l:List α) (o:Nat),(∀i x,l[i]?=some x→Cells W b (o+i*n) (enc x))→Cells W b o (l.flatMap enc)
 |[],o,_=>λj v h=>by cases h
 | x::l,o,h=>by
  intro j v hj;rw[aaO]at hj
  by_cases Ad:j<n
  ·have h0:=h 0 x rfl;rw[abe,abc]at h0;rw[aay (by rw[hn];exact Ad)]at hj;exact h0 j v hj
  ·rw[aaC (by rw[hn];omega),hn]at hj
   have:=RV hn l (o+n) (λi y hy=>by
    have:=h (i+1) y (by simpa using hy)
    rwa[show o+(i+1)*n=o+n+i*n by rw[ac5];omega]at this) (j-n) v hj
   rwa[show o+n+(j-n)=o+j by omega]at this
theorem RW(hn:∀x,(enc x).length=n):∀(l:List α) (o:Nat),Cells W b o (l.flatMap enc)→∀i x,l[i]?=some x→Cells W b (o+i*n) (enc x)
 |[],o,_=>λi x h=>by cases h
 | y::l,o,h=>by
  intro i x hx;rw[aaO]at h
  cases i with
  |zero=>
   cases hx
   intro j v hj;rw[abe,abc];exact h j v (by rw[aay (dx.1 hj).1];exact hj)
  | succ i=>
   have:=RW hn l (o+n) (λj v hj=>by
    have:=h (n+j) v (by rw[aaC (by rw[hn];omega),hn,Nat.add_sub_cancel_left];exact hj)
    rwa[show o+(n+j)=o+n+j by omega]at this) i x (by simpa using hx)
   rwa[show o+n+i*n=o+(i+1)*n by rw[ac5];omega]at this
end
section
variable {P:Program}
theorem AEd{t u el:TypeId}{ts:List TypeId}{n bytes:Nat}{z:Value}(ut:P.underlying t=some (.slice el))(hu:II P u=true)(hs:EM P el=some n)(hz:Is P el=some z)(mu:z.cells.size=n)(hn:0<n)(od:(P.info? el).map (·.bytes)=some bytes)(hb:bytes≤1024)
  {W:CW} (ht:Ai W) {v:Value} {cs news:List Value} {a:Option Addr} {m cap:Nat} (hv:Bu W el n v cs) (U9:0<m→∃p,a=some p∧Cells W p.block p.off news) (h1:news.all BJ=true) (LU:news.length=m*n) (N_:cs.length+m≤1000000) {K:Value→CW→Prop}
  (hk:∀v1 W1,MH v W W1→Ai W1→Bu W1 el n v1 (cs++news)→(∀A,A≤W.sz→Aw A v→Aw A v1)→K v1 W1):KE (app P (t::u::ts) v (.slice a m cap) W) K:=by
 rcases abK m with rfl|hm
 ·have GY:news=[]:=aaG.1 (by rw[LU,abe]);subst GY;have kR:Nat.ble ((P.info? el).map (·.bytes)|>.getD 2000) 1024=true:=by rw[od];exact aak hb
  have wg:HI (.slice a 0 cap) 0 n W=some []:=by
   show FV a (0*n) W=some [];rw[abe];unfold FV
   cases a<;>rfl
  have hc:app P (t::u::ts) v (.slice a 0 cap) W=some (v,W):=by
   unfold app;simp only[hu,cond_true]
   cases hv with
   |nil=>
    unfold Fy;simp only[ut,bL,DI,hs,hz,wg,acQ,abI,abe,abu,mu,kR,aa4,abC];rw[show Nat.blt 0 n=true from aak hn];rfl
   | @some b len cs hB hl=>
    have hlen:len≤cs.length:=by rw[hl];exact acH _ hn
    unfold Fy;simp only[ut,bL,DI,hs,hz,wg,acQ,abI,abe,abu,mu,kR,aa4,abC,abc];rw[show Nat.blt 0 n=true from aak hn,show Nat.ble len 1000000=true from aak (by omega),show Nat.ble len len=true from aak (aag _)];rfl
  refine F8 hc (hk v W ⟨aag _,λ_ _ _=>rfl⟩ ht (by rw[abl];exact hv) (λA _ h=>h))
 ·obtain⟨p,rfl,Hp⟩:=U9 hm
  refine r9 (m:=m) ut hu hs hz mu hn od hb ht hv rfl hm ?_ h1 LU N_ λW1 len hg hl hB=>?_
  ·show FV (some p) (m*n) W=some news;rw[←LU];exact K7 Hp
  ·exact hk _ W1 ⟨by rw[hg.sz];omega,hg.obj⟩ (hg.top ht) (.some hB hl) (λA hA _=>dQ hA)
end
end Go.Ce
namespace Go.Ce
open Go Go.Proofs Go.Proofs.Tryz
theorem Bu.kp{W W':CW}{el:TypeId}{n:Nat}{v:Value}{cs:List Value}(h:Bu W el n v cs)(ht:Ai W)(k:Kp W W'):Bu W' el n v cs:=by
 cases h with
 |nil=>exact Bu.nil
 |some hB hl=>exact Bu.some (hB.ext ht k) hl
theorem Ku(c:List Aq):∀(f i:Nat) (l:List Nat),Bx c f i=some l→l.length≤f+1∧∀j,j∈l→j<c.length
 | f,i,l,h=>by
  unfold Bx at h
  cases hx:c[i]? with
  |none=>rw[hx]at h;cases h
  | some x=>
   rw[hx]at h;have hi:i<c.length:=(dx.1 hx).1;simp only at h
   split at h
   ·cases h
    exact⟨by simp,λj hj=>by rw[dy.1 hj];exact hi⟩
   ·cases f with
    |zero=>cases h
    | succ f=>
     simp only at h
     split at h
     ·rename_i j hj
      cases hl:Bx c f j with
      |none=>rw[hl]at h;cases h
      | some m=>
       rw[hl]at h
       cases h
       obtain⟨h1,h2⟩:=Ku c f j m hl
       exact⟨by simp only[aaw];omega,λj hj=>by
        rcases aaJ.1 hj with rfl|hj
        ·exact hi
        ·exact h2 j hj⟩
     ·cases h
termination_by f=>f
def J'(c:List Aq)(j:Nat):List TB:=match c[j]? with
 |some x=>x.fields
 |none=>[]
def DM(c:List Aq)(i:Nat):List TB:=match Bx c c.length i with
 |some l=>l.reverse.flatMap (J' c)
 |none=>[]
def U_(f:TB):List Value:=[.string f.name,.int .u8 f.kind]
theorem LO(f:TB):(U_ f).length=2:=rfl
theorem z72:Is prog 72=some (.agg #[.string ⟨#[]⟩,.int .u8 0]):=by kernel_rfl
theorem AK':(prog.info? 72).map (·.bytes)=some 24:=by kernel_rfl
theorem ABb:II prog 45=true:=by kernel_rfl
theorem U8.cells{W:CW}{b o:Nat}{x:TB}(h:U8 W b o x):Cells W b o (U_ x):=by
 intro j v hj
 match j,hj with
 |0,hj=>cases hj;exact h.name
 |1,hj=>cases hj;exact h.kind
theorem yu{c:List Aq}{m:Nat}(hf:∀x,x∈c→x.fields.length≤m)(j:Nat):(J' c j).length≤m:=by
 unfold J'
 cases hx:c[j]? with
 |none=>simp
 |some x=>exact hf x (aan hx)
theorem ZW{c:List Aq}{m:Nat}(hf:∀x,x∈c→x.fields.length≤m):∀l:List Nat,((l.flatMap (J' c)).flatMap U_).length≤l.length*(2*m)
 |[]=>by simp
 | j::l=>by
  rw[aaO,abd,aas,aaw,ac5];have h1:=ZW hf l
  have h2:((J' c j).flatMap U_).length≤2*m:=by
   have h3:=yu hf j
   have:∀fs:List TB,(fs.flatMap U_).length=2*fs.length:=by
    intro fs
    induction fs with
    |nil=>rfl
    |cons f fs ih=>rw[aaO,aas,ih,aaw,LO];omega
   rw[this];omega
  omega
theorem yv{l:List Nat}{k j:Nat}(h:l[k]?=some j):(ints l)[k]?=some (.int .i64 (j:Int)):=by
 unfold ints;rw[aaz,h];rfl
def og(c:List Aq)(i:Nat)(W:CW):Ending→CW→Prop:=λe W'=>Kp W W'∧Ai W'∧∃vo,e=.returned vo∧Bu W' 72 2 vo ((DM c i).flatMap U_)∧Aw W.sz vo
theorem dR{v:Value}{c:List Aq}{i0:Nat}{W:CW}(ht:Ai W)(hc:Ab 5 (EI W) v c)(hlen:c.length<200)(hf:∀x,x∈c→x.fields.length≤100)(Fj:i0<c.length):Ac prog Bs 98 [v,.int .i64 i0] W (og c i0 W):=by
 refine AIP ?_;rw[AIO];refine(sA ht hc (by omega) Fj).mono λen W0 ⟨k0,t0,Mm⟩=>?_
 obtain⟨l,wx,ok,rfl,yw,hl,JJ,hfp⟩:∃(l:List Nat) (wx:Value) (ok:Bool),en=.returned (.tuple #[wx,.bool ok])∧Bu W0 3 1 wx (ints l)∧l.length≤c.length+1∧(∀j,j∈l→j<c.length)∧DM c i0=l.reverse.flatMap (J' c):=by
  cases hl:Bx c c.length i0 with
  |none=>
   rw[hl]at Mm;exact⟨[],_,_,Mm,Bu.nil,by simp,by simp,by unfold DM;rw[hl];rfl⟩
  |some l=>
   rw[hl]at Mm;obtain⟨vo,h1,h2,_⟩:=Mm;obtain⟨h3,h4⟩:=Ku c _ _ _ hl;exact⟨l,vo,true,h1,h2,h3,h4,by unfold DM;rw[hl]⟩
 have qz:Ab 5 (EI W0) v c:=hc.imp λ_ _ _ hr=>hr.kp ht k0;have e0:ext (.tuple #[wx,.bool ok]) 0=some wx:=rfl;have e1:ext (.tuple #[wx,.bool ok]) 1=some (.bool ok):=rfl;simp only[Di,e0,e1,AA];rw[TG J9 yw];simp only[AA,Am];have OU:(ints l).length=l.length:=by simp[ints]
 rw[OU,wrap64 (by omega) (by omega)];refine CX (λk e ds W'=>ds=[]∧∃vo:Value,e 0=v∧e 5=wx∧e 7=vo∧e 8=.int .i64 ((k:Int)-1)∧k≤l.length∧Kp W0 W'∧Ai W'∧Aw W0.sz vo∧Bu W' 72 2 vo (((l.drop k).reverse.flatMap (J' c)).flatMap U_)) l.length ⟨rfl,.slice none 0 0,rfl,rfl,rfl,rfl,aag _,.refl _,t0,Aw.nil _ _ _,by rw[List.drop_length];exact Bu.nil⟩ ?_;rintro k e ds W' ⟨rfl,vo,h0,h5,h7,h8,hk,bn,uU,SV,AC3⟩;rw[AEH,h0,h5,h7,h8];simp only[Bt,AA]
 refine AF (λh=>?_) (λh=>?_)
 ·have h:(k:Int)-1≥0:=of_decide_eq_true h;obtain⟨k,rfl⟩:∃k',k=k'+1:=⟨k-1,by omega⟩
  have nQ:((k+1:Nat):Int)-1=(k:Int):=by omega
  rw[nQ];have hlk:l[k]?=some l[k]:=ck _;have hj:l[k]<c.length:=JJ _ (aaY _);have kV:=yw.kp t0 bn;have kX:Ab 5 (EI W') v c:=qz.imp λ_ _ _ hr=>hr.kp t0 bn;obtain⟨a,cap,rfl,Ah⟩:=kX;have bo:=ck hj;obtain⟨p,rfl,hp⟩:=Ah _ _ bo;generalize hints:ints l=il at kV
  cases kV with
  |nil=>rw[hints]at OU;simp at OU;omega
  | @some b len _ hB kY=>
   have ANR:len=l.length:=by rw[←hints,OU]at kY;omega
   rw[AY J9 s3 (by omega:k<len)]
   have Hp:W'.cell b (0+k*1)=some (.int .i64 (l[k]:Int)):=by
    rw[aaL,abR];exact hB.cell (by rw[←hints];exact yv hlk)
   simp only[AA,AH a3 (a:=⟨b,0+k*1,none⟩) Hp];rw[AY UG WQ hj];obtain⟨vf,hvf,a2,Wx,rfl,Ny⟩:=hp.fields;simp only[AA,Nc,AH a45 (a:=⟨p.block,p.off+l[k]*5+2,none⟩) hvf];have hfj:J' c l[k]=c[l[k]].fields:=by unfold J';rw[bo]
   have ADn:=ZW hf (l.drop (k+1)).reverse;have hdl:(l.drop (k+1)).reverse.length≤201:=by simp;omega
   have ANa:c[l[k]].fields.length≤100:=hf _ (aaY _)
   refine AEd (news:=c[l[k]].fields.flatMap U_) bj ABb s72 z72 rfl (by omega) AK' (by omega) uU AC3 (λhm=>?_) ?_ ?_ ?_ λv1 W1 IF t1 o1 n1=>?_
   ·obtain⟨q,rfl,_⟩:=Ny 0 _ (ck hm)
    exact⟨q,rfl,RV LO _ _ λi x hx=>by
     obtain⟨q',dS,hr⟩:=Ny i x hx
     cases dS
     exact hr.cells⟩
   ·rw[aax];intro x hx;obtain⟨f,_,hx⟩:=List.mem_flatMap.1 hx;simp only[U_,aaJ,ach,or_false]at hx;rcases hx with rfl|rfl<;>rfl
   ·generalize c[l[k]].fields=fs
    induction fs with
    |nil=>rfl
    |cons f fs ih=>rw[aaO,aas,ih,aaw,LO];omega
   ·have:(l.drop (k+1)).reverse.length*(2*100)≤201*200:=acy hdl (by omega);omega
   ·simp only[yo,Aj,AG,AJ,Nat.reduceEqDiff,↓reduceIte,h8,Am,AA,Oo]
    refine⟨k,by omega,trivial,v1,h0,h5,rfl,?_,by omega,IF.kp bn SV,t1,n1 _ bn.sz SV,?_⟩
    ·rw[nQ,wrap64 (by omega) (by omega)]
    ·have:(l.drop k).reverse=(l.drop (k+1)).reverse++[l[k]]:=by
      rw[abX (by omega),List.reverse_cons]
     rw[this,abd,abd];simp only[aaO,acS,abl,hfj];exact o1
 ·have h:¬(k:Int)-1≥0:=of_decide_eq_false h;have nR:k=0:=by omega
  subst nR;simp only[M7,Er,ym,Aj,uR,AG,AJ,Nat.reduceEqDiff,↓reduceIte,h7];refine⟨k0.trans bn,uU,vo,rfl,?_,λb l c hh=>aa5 k0.sz (SV b l c hh)⟩;rw[hfp];exact AC3
def AX(c:List Aq)(i:Nat):List Int:=(DM c i).map (·.kind)
def De(l:List Int):List Value:=l.map λk=>Value.int .u8 k
theorem z5:Is prog 5=some (.int .u8 0):=by kernel_rfl
theorem by5:(prog.info? 5).map (·.bytes)=some 1:=by kernel_rfl
theorem AC4(n:Int)(W:CW):tk prog 29 1 [(0,.int .u8 n)] W=some (.slice (some ⟨W.sz,0,none⟩) 1 1,W.new (.cells (Tr.nil.AW 0 [.int .u8 n]) [Value.int .u8 n].length #[] 5)):=by kernel_rfl
theorem Q5(fs:List TB):(fs.flatMap U_).length=2*fs.length:=by
 induction fs with
 |nil=>rfl
 |cons f fs ih=>rw[aaO,aas,ih,aaw,LO];omega
theorem IA{c:List Aq}(hlen:c.length<200)(hf:∀x,x∈c→x.fields.length≤100)(i:Nat):(DM c i).length≤20100:=by
 unfold DM
 cases hl:Bx c c.length i with
 |none=>simp
 |some l=>
  have h1:=(Ku c _ _ _ hl).1;have h2:=ZW hf l.reverse;rw[Q5]at h2;have:l.reverse.length*(2*100)≤200*200:=acy (by simp;omega) (by omega);show(l.reverse.flatMap (J' c)).length≤20100;omega
def sB(c:List Aq)(i:Nat)(W:CW):Ending→CW→Prop:=λe W'=>Kp W W'∧Ai W'∧∃vo,e=.returned vo∧Bu W' 5 1 vo (De (AX c i))∧Aw W.sz vo
theorem VA{v:Value}{c:List Aq}{i0:Nat}{W:CW}(ht:Ai W)(hc:Ab 5 (EI W) v c)(hlen:c.length<200)(hf:∀x,x∈c→x.fields.length≤100)(Fj:i0<c.length):Ac prog Bs 88 [v,.int .i64 i0] W (sB c i0 W):=by
 refine AIR ?_;rw[AIQ];refine(dR ht hc hlen hf Fj).mono λen W0 ⟨k0,t0,v10,he,yw,ANb⟩=>?_;subst he;have Ny:=IA hlen hf i0;unfold sB AX;generalize DM c i0=fs at yw Ny ⊢;refine CX (λk e ds W'=>ds=[]∧∃(i:Nat) (vo:Value),e 5=v10∧e 6=vo∧e 7=.int .i64 i∧i≤fs.length∧k=fs.length-i∧Kp W0 W'∧Ai W'∧Aw W0.sz vo∧Bu W' 5 1 vo (De ((fs.take i).map (·.kind)))) fs.length ⟨rfl,0,.slice none 0 0,rfl,rfl,rfl,aa1 _,rfl,.refl _,t0,Aw.nil _ _ _,Bu.nil⟩ ?_;rintro k e ds W' ⟨rfl,i,vo,h5,h6,h7,hi,rfl,bn,uU,SV,ho⟩;have kV:=yw.kp t0 bn
 obtain⟨a,cap,ha,AK_⟩:∃a cap,v10=.slice a fs.length cap∧∀j f,fs[j]?=some f→∃b,a=some ⟨b,0,none⟩∧W'.cell b (j*2+1)=some (.int .u8 f.kind):=by
  generalize UZ:fs.flatMap U_=cs at kV;have Hp:=Q5 fs
  cases kV with
  |nil=>
   rw[UZ]at Hp;have:fs.length=0:=by simp at Hp;omega
   exact⟨none,0,by rw[this],λj f hj=>by have:=(dx.1 hj).1;omega⟩
  | @some b len _ hB kY=>
   have:len=fs.length:=by rw[←UZ]at kY;omega
   refine⟨_,len,by rw[this],λj f hj=>⟨b,rfl,?_⟩⟩;have h1:=hB.cells;rw[←UZ]at h1;have:=RW LO fs 0 h1 j f hj 1 (.int .u8 f.kind) rfl
   rwa[aaL]at this
 subst ha;rw[AEI,h5,h6,h7,AQ bj];simp only[AA,AP]
 refine AF (λh=>?_) (λh=>?_)
 ·have Ad:i<fs.length:=by simpa using h
  have hx:=ck Ad;obtain⟨b,rfl,Ah⟩:=AK_ i _ hx;rw[AY bj s72 Ad];simp only[AA,XX];rw[AH a5 (a:=⟨b,0+i*2+1,none⟩) (by rw[aaL];exact Ah)];simp only[AA];refine oe LS s5 z5 rfl (by omega) by5 (by omega) (AC4 _) rfl rfl uU ho (by simp[De];omega) λu v1 W1 IF t1 o1 n1=>?_;simp only[yr,Aj,AG,AJ,Nat.reduceEqDiff,↓reduceIte,h7,AK,AA,Oo]
  refine⟨fs.length-(i+1),by omega,trivial,i+1,v1,h5,rfl,?_,Ad,rfl,IF.kp bn SV,t1,n1 _ bn.sz,?_⟩
  ·rw[wrap64 (by omega) (by omega)];rfl
  ·have:De ((fs.take (i+1)).map (·.kind))=De ((fs.take i).map (·.kind))++[.int .u8 fs[i].kind]:=by
    rw[aaP,hx];simp only[De,aa9,aaI,abW,List.map_nil]
   rw[this];exact o1
 ·have GZ:i=fs.length:=by have:¬i<fs.length:=(by simpa using h);omega
  subst GZ;simp only[M7,Er,yp,Aj,uS,AG,AJ,Nat.reduceEqDiff,↓reduceIte,h6];refine⟨k0.trans bn,uU,vo,rfl,?_,λb l c hh=>aa5 k0.sz (SV b l c hh)⟩;rw[aa_]at ho;exact ho
def BR(c:List Aq)(i k:Nat):Int:=match c[i]? with
 |some x=>if x.elem≠0 then x.elem else((AX c i)[k]?).getD 0
 |none=>0
theorem gO{v:Value}{c:List Aq}{i k:Nat}{W:CW}(ht:Ai W)(hc:Ab 5 (EI W) v c)(hlen:c.length<200)(hf:∀x,x∈c→x.fields.length≤100)(hi:i<c.length)(hk:c[i].elem=0→k<(AX c i).length):Ac prog Bs 70 [v,.int .i64 i,.int .i64 k] W (ib (.int .u8 (BR c i k)) W):=by
 refine AIT ?_;rw[AIS];have Yo:=hc;obtain⟨a,cap,rfl,Ah⟩:=Yo;have hx:=ck hi;obtain⟨p,rfl,hp⟩:=Ah i _ hx;rw[AY UG WQ hi];simp only[AA,Ko,AH a5 (a:=⟨p.block,p.off+i*5+3,none⟩) hp.elem,BX]
 refine AF (λh=>?_) (λh=>?_)
 ·have h:c[i].elem≠0:=by simpa using h
  simp only[dI,AG,↓reduceIte];refine⟨?_,.refl _,ht⟩;unfold BR;rw[hx];simp only[aae h]
 ·have h:c[i].elem=0:=by simpa using h
  refine(VA ht hc hlen hf hi).mono λen W0 ⟨k0,t0,vo,he,ho,hn⟩=>?_;subst he;have hk:=hk h;have hrk:=ck hk;simp only[Di];generalize hl:De (AX c i)=l at ho;have OU:l.length=(AX c i).length:=by rw[←hl];simp[De]
  cases ho with
  |nil=>simp at OU;omega
  | @some b len _ hB kY=>
   rw[AY LS s5 (by omega:k<len)]
   have:W0.cell b (0+k*1)=some (.int .u8 ((AX c i)[k])):=by
    rw[aaL,abR];exact hB.cell (by rw[←hl];unfold De;rw[aaz,hrk];rfl)
   simp only[AA,AH a5 (a:=⟨b,0+k*1,none⟩) this,dI,AG,↓reduceIte];refine⟨?_,k0,t0⟩;unfold BR;rw[hx];simp only[h,ne_eq,not_true_eq_false,abf,hrk,aaX]
def kZ(W:CW)(b o:Nat)(x:ByteArray):Prop:=W.cell b o=some (.string x)
theorem yx{v:Value}{l:List ByteArray}{s:ByteArray}{W:CW}(hc:Ab 1 (kZ W) v l)(hlen:l.length<1000000):Ac prog Bs 66 [v,.string s] W (FY (.int .i64 (Kt l λx=>decide (x=s))) W):=by
 refine AIV ?_;rw[AIU];refine CX (λk e ds W'=>W'=W∧ds=[]∧∃i:Nat,e 0=v∧e 1=.string s∧e 5=.int .i64 i∧i≤l.length∧k=l.length-i∧∀j x,j<i→l[j]?=some x→decide (x=s)=false) l.length ⟨rfl,rfl,0,rfl,rfl,rfl,by omega,by omega,by omega⟩ ?_;rintro k e ds W' ⟨rfl,rfl,i,h0,h1,h5,hi,rfl,A5⟩;obtain⟨a,cap,rfl,Ah⟩:=hc;rw[AEJ,h0,h1,h5,AQ LW];simp only[AA,AP]
 refine AF (λh=>?_) (λh=>?_)
 ·have Ad:i<l.length:=by simpa using h
  have hx:=ck Ad;obtain⟨p,rfl,hp⟩:=Ah i _ hx;rw[AY LW s9 Ad];simp only[AA,AH a9 (a:=⟨p.block,p.off+i*1,none⟩) hp,H_,G1]
  refine AF (λhq=>?_) (λhq=>?_)
  ·simp only[kI,GL,kK,Ib,oR,dJ,AG,↓reduceIte];refine⟨?_,rfl⟩;rw[JQ Ad hq A5]
  ·simp only[kI,Aj,AG,AJ,Nat.reduceEqDiff,↓reduceIte,h0,h1,h5,AK,AA,Oo]
   refine⟨l.length-(i+1),by omega,trivial,trivial,i+1,trivial,trivial,?_,Ad,rfl,λj x hj Ht=>?_⟩
   ·rw[wrap64 (by omega) (by omega)];rfl
   ·rcases aap.1 hj with h2|rfl
    ·exact A5 j x h2 Ht
    ·rw[hx]at Ht;cases Ht;exact hq
 ·have GZ:i=l.length:=by have:¬i<l.length:=(by simpa using h);omega
  simp only[M7,Er,oR,Aj,dJ,AG,↓reduceIte];refine⟨?_,rfl⟩;rw[JR λj x hj hx=>A5 j x (by omega) hx]
def Jo(n:Nat):List Int:=if n<128 then[(n:Int)]else((n%128+128:Nat):Int)::Jo (n/128)
termination_by n
decreasing_by omega
theorem AIa{x:Int}(h1:0≤x)(h2:x<256):IntKind.u8.wrap x=x:=by
 unfold IntKind.wrap;simp[IntKind.bits,IntKind.signed];omega
def oh(s:ByteArray):List Int:=(sb s).map λb=>(b.toNat:Int)
def kb(s:ByteArray):List Int:=Jo s.size++oh s
def ZX(ro:Option Nat)(K:AD):AD:=AU (λe ds W=>K .ret (Env.of e [(2,(.int .i64 0))]) ds W) K
def om(ro:Option Nat)(K:AD):AD:=AU (λa b c=>GB ro 41 129 1 a (Ma 5 At) b c 2 (ZX ro K)) K
def kd:=by
 have h:=@om.eq_1;dsimp at h;exact h
def AIb(v0:Value)(K:AD)(W:CW):=by
 have h:GQ 41 129 v0 W K=D7 22 v0 W λa=>Eo a 100 λb=>let a:=BN 13 b 12 a 11 v0 2 At;HR b K (CQ v0) 2 (RM 210) a [] W (Fu 41 129 (CQ v0) (eC 3 At a) W (om none K)):=by kernel_rfl
 dsimp at h;exact h
def gP(ro:Option Nat)(K:AD):AD:=AU (λa b c=>BP a 3 λd=>Ay K a 3 d (Bo 19 d 18 a 3) b c) K
def ke:=by
 have h:=@gP.eq_1;dsimp at h;exact h
def Ie(ro:Option Nat)(K:AD):AD:=AU (λe ds W=>wI (e 70) ((gP ro K) .ret (Env.of e [(2,(.int .i64 210))]) ds W) ((gP ro K) .normal e ds W)) (CB 1 (gP ro K))
def AEe(ro:Option Nat)(e:Env)(ds:List Deferred)(K:AD)(W:CW):=by
 have h:CV ro 41 129 e ds W K=HN 22 e W λa=>C' e 3 a λb=>let a:=Ls 17 b 16 a 15 e 14 e 3;FQ b (IQ 22 e 0 3 λb=>BH 48 b W λc=>DB 48 W λd f=>CL 48 d c f λf=>C9 d 0 λg=>Ak g f λh=>DF 95 h f (λi j=>D2 i λk=>let a:=Dh 28 k 27 (BL 26 i 25 h 24 g 4 d (Bq 23 c 22 b 21 (BO e) 20 e a));Gr k ((IT 9 g f h)∧True) (Ie ro K) e 70 (A7 69 65 68 67 66 (Wv 65 true 64 63 undef 43 (Dh 62 undef 61 (Mb 60 59 58 57 (KJ 56 55 54 53 52 51 50 49 (Bc 48 undef 47 43 Bl 46 undef (ZE 43 45 44 (IS 43 Bl 43 (Lp 42 41 28 40 (KJ 39 38 37 36 35 34 33 32 (El 31 28 30 29 a))))))))))) ds j (KY .gtr 3 e 3 0 λb=>let a:=EA 31 b 28 30 b 29 (BO e) a;wI b (Em e 3 λb=>N0 22 e 0 b λc=>C9 c 0 λi=>Ak i j λk=>C9 d 0 λl=>Ak l j λm=>NQ .geq 9 k m λn=>let a:=Dh 43 n 42 (bh 41 n 28 false 40 n 31 true (BQ 39 m 31 38 l (BQ 37 k 31 36 i (BQ 35 c 31 34 b (Fp 33 (BO e) 31 32 e a)))));wI n (IW ((Fq 9 l j m)∧Sh (Fq 9 i j k) 9 g f h) (Ie ro K) e (Lp 70 69 65 68 (ZE 65 67 66 (IS 65 Bl 65 (LI 64 Bl 63 undef 43 Bl 62 61 60 (Mb 59 58 57 56 (KJ 55 54 53 52 51 50 49 48 (A7 47 43 46 45 44 a))))))) ds j) (C9 d 3 λb=>EG b j λc=>Mf 5 c 0 λn=>let a:=jv 47 n 43 false 46 (BB 45 c 43 44 b a);wI n (C9 d 3 λn=>EG n j λo=>DF 96 o j (λp q=>D2 p λr=>let a:=IX 52 r 47 51 r 47 50 p (BQ 49 o 47 48 n a);Gr r ((Fv 5 n j o)∧E8 (Fv 5 b j c) (Fv 9 l j m) (Sp (Fv 9 i j k) 9 g f h)) (Ie ro K) e 70 (A7 69 65 68 67 66 (bh 65 Bl 64 true 63 Bl 43 false (H8 62 true 47 61 undef 57 60 57 59 (I_ 58 57 47 (H8 56 true 47 55 undef 52 54 52 53 a))))) ds q (C9 d 1 λp=>Ak p q λr=>ZB .neq 9 true r (.string ⟨#[]⟩) λs=>let a:=IS 57 s 47 (bh 56 s 47 true 55 s 52 false (BB 54 r 52 53 p a));Gr s (E8 (Fq 9 p q r) (Fv 5 n j o) (E8 (Fv 5 b j c) (Fv 9 l j m) (Sp (Fv 9 i j k) 9 g f h))) (Ie ro K) e 70 (El 69 65 68 67 (I_ 66 65 64 (bh 63 Bl 43 false 62 Bl 47 true (A7 61 57 60 59 58 a)))) ds q (C9 d 2 λs=>BH 45 s q λt=>D7 45 t q λu=>Eo u 0 λv=>let a:=Dh 65 v 64 (bh 63 v 43 false 62 v 47 true (BB 61 v 57 60 u (BB 59 t 57 58 s a)));Gr v (Ol (IV 45 t q u True) 45 s q t (E8 (Fq 9 p q r) (Fv 5 n j o) (E8 (Fv 5 b j c) (Fv 9 l j m) (Sp (Fv 9 i j k) 9 g f h)))) (Ie ro K) e 70 (A7 69 65 68 67 66 a) ds q (C9 d 2 λd=>BH 45 d q λv=>D7 45 v q λw=>Eo w 20 λy=>HM (Ol (IV 45 v q w True) 45 d q v (Ol (IV 45 t q u True) 45 s q t (E8 (Fq 9 p q r) (Fv 5 n j o) (E8 (Fv 5 b j c) (Fv 9 l j m) (Sp (Fv 9 i j k) 9 g f h))))) (Ie ro K) e 70 y (BB 69 y 65 68 w (BB 67 v 65 66 d a)) ds q)))) λ_ _=>False) (C9 d 2 λd=>BH 45 d j λn=>D7 45 n j λo=>Eo o 20 λp=>IW (Ol (IV 45 n j o True) 45 d j n (Ol (Fq 5 b j c) 9 l j m (Sh (Fq 9 i j k) 9 g f h))) (Ie ro K) e (Bc 70 p 69 65 Az 68 o (BL 65 Az 67 n 65 Az 66 d (Wv 65 false 65 64 Az 63 (LI 43 Az 62 undef 47 Az 61 60 59 (Bc 58 undef 57 47 Az 56 undef (j4 47 Az 55 54 53 (Mi 52 undef 47 51 47 50 49 48 a))))))) ds j))) (C9 d 3 λb=>EG b j λc=>Mf 5 c 0 λi=>let a:=EA 47 i 43 46 i 45 c (j6 44 b 43 false Az 42 (BG 41 28 40 31 39 38 (J7 37 31 36 (DP 35 31 34 33 32 a))));wI i (C9 d 3 λi=>EG i j λk=>DF 96 k j (λl m=>D2 l λn=>let a:=IX 52 n 47 51 n 47 50 l (BQ 49 k 47 48 i a);Gr n ((Fv 5 i j k)∧Sp (Fv 5 b j c) 9 g f h) (Ie ro K) e 70 (A7 69 65 68 67 66 (bh 65 Bl 64 true 63 Bl 43 false (H8 62 true 47 61 undef 57 60 57 59 (I_ 58 57 47 (H8 56 true 47 55 undef 52 54 52 53 a))))) ds m (C9 d 1 λl=>Ak l m λn=>ZB .neq 9 true n (.string ⟨#[]⟩) λo=>let a:=IS 57 o 47 (bh 56 o 47 true 55 o 52 false (BB 54 n 52 53 l a));Gr o (E8 (Fq 9 l m n) (Fv 5 i j k) (Sp (Fv 5 b j c) 9 g f h)) (Ie ro K) e 70 (El 69 65 68 67 (I_ 66 65 64 (bh 63 Bl 43 false 62 Bl 47 true (A7 61 57 60 59 58 a)))) ds m (C9 d 2 λo=>BH 45 o m λp=>D7 45 p m λq=>Eo q 0 λr=>let a:=Dh 65 r 64 (bh 63 r 43 false 62 r 47 true (BB 61 r 57 60 q (BB 59 p 57 58 o a)));Gr r (Ol (IV 45 p m q True) 45 o m p (E8 (Fq 9 l m n) (Fv 5 i j k) (Sp (Fv 5 b j c) 9 g f h))) (Ie ro K) e 70 (A7 69 65 68 67 66 a) ds m (C9 d 2 λd=>BH 45 d m λr=>D7 45 r m λs=>Eo s 20 λt=>HM (Ol (IV 45 r m s True) 45 d m r (Ol (IV 45 p m q True) 45 o m p (E8 (Fq 9 l m n) (Fv 5 i j k) (Sp (Fv 5 b j c) 9 g f h)))) (Ie ro K) e 70 t (BB 69 t 65 68 s (BB 67 r 65 66 d a)) ds m)))) λ_ _=>False) (C9 d 2 λd=>BH 45 d j λi=>D7 45 i j λk=>Eo k 20 λl=>IW (Ol (IV 45 i j k True) 45 d j i (Sh (Fq 5 b j c) 9 g f h)) (Ie ro K) e (Bc 70 l 69 65 Az 68 k (BL 65 Az 67 i 65 Az 66 d (Wv 65 false 65 64 Az 63 (LI 43 Az 62 undef 47 Az 61 60 59 (Bc 58 undef 57 47 Az 56 undef (j4 47 Az 55 54 53 (Mi 52 undef 47 51 47 50 49 48 a))))))) ds j)))) λ_ _=>False) K 0 e a ds W:=by kernel_rfl
 dsimp at h;exact h
def PZ(ro:Option Nat)(K:AD):AD:=AU (λa b c=>BP a 5 λd=>Ay K a 5 d (Bo 76 d 75 a 5) b c) K
def P0:=by
 have h:=@PZ.eq_1;dsimp at h;exact h
def AEf(ro:Option Nat)(e:Env)(ds:List Deferred)(K:AD)(W:CW):=by
 have h:Ei ro 41 129 1 e ds W K=HN 22 e W λa=>C' e 5 a λb=>let a:=Ls 74 b 73 a 72 e 71 e 5;FQ b (KF 97 e (CM e) W (λb c=>Dn b λd=>Dp b λf=>D2 f λg=>let a:=F5 84 g 83 f (cZ 7 f 6 d 82 f 81 (Bq 77 b 80 b 79 (CM e) 78 e a));HR g (PZ ro K) e 2 (RM 210) a ds c (KF 98 e (CM e) c (λb c=>D7 45 b c λd=>Eo d 60 λf=>let a:=DT 90 f 89 d 88 b (Bq 8 b 87 b 86 (CM e) 85 e a);HR f (PZ ro K) e 2 (RM 210) a ds c (GB ro 41 129 2 e (eC 9 At a) ds c 4 (CB 3 (PZ ro K)))) λb c=>Bh (PZ ro K) b e (F5 86 (CM e) 85 (BA e) a) ds c)) λb c=>Bh (PZ ro K) b e (F5 79 (CM e) 78 (BA e) a) ds c) K 2 e a ds W:=by kernel_rfl
 dsimp at h;exact h
def gQ(ro:Option Nat)(K:AD):AD:=AU (λa b c=>BP a 9 λd=>Ay K a 9 d (Bo 96 d 95 a 9) b c) K
def VB:=by
 have h:=@gQ.eq_1;dsimp at h;exact h
def XZ(ro:Option Nat)(K:AD):AD:=jz (λa b c=>GB ro 41 129 3 a (Ma 10 At) b c 6 (CB 5 (gQ ro K))) 5 (gQ ro K)
def dT:=by
 have h:=@XZ.eq_1;dsimp at h;exact h
def P1(ro:Option Nat)(K:AD):AD:=AU (λe ds W=>wI (e 112) ((XZ ro K) .ret (Env.of e [(2,(.int .i64 210))]) ds W) ((XZ ro K) .normal e ds W)) (XZ ro K)
def AEg(ro:Option Nat)(e:Env)(ds:List Deferred)(K:AD)(W:CW):=by
 have h:Ei ro 41 129 2 e ds W K=D7 45 (A8 e) W λa=>C' e 9 a λb=>let a:=CC 94 b 93 a 92 (A8 e) 91 e 9;FQ b (IQ 45 e 8 9 λb=>HL 72 b 0 λc=>Ak c W λd=>let a:=eC 101 d (FL 100 c 99 b 98 (B5 e) 97 e 8 a);DF 95 d W (λb c=>D2 b λd=>let a:=EW 104 d 103 102 b a;Ds d (P1 ro K) e 112 (El 111 104 110 109 (A7 108 104 107 106 105 a)) ds c (IQ 45 e 8 9 λb=>HL 72 b 1 λd=>EG d c λf=>let a:=eC 104 Az (EA 109 f 104 108 d 107 b (BB 106 (B5 e) 104 105 (A8 e) a));DF 96 f c (λb c=>D2 b λd=>K4 (P1 ro K) e (Bc 112 d 111 104 Az 110 b a) ds c) λb c=>Bh (P1 ro K) b e a ds c)) λb c=>Bh (P1 ro K) b e a ds c) K 4 e a ds W:=by kernel_rfl
 dsimp at h;exact h
def gR(ro:Option Nat)(K:AD):AD:=AU (λa b c=>BP a 10 λd=>Ay K a 10 d (Bo 117 d 116 a 10) b c) K
def dU:=by
 have h:=@gR.eq_1;dsimp at h;exact h
def AEh(ro:Option Nat)(e:Env)(ds:List Deferred)(K:AD)(W:CW):=by
 have h:Ei ro 41 129 3 e ds W K=C' e 10 (B5 e) λa=>let b:=D4 115 a 114 (B5 e) 113 (BM e);FQ a (IQ 45 e 8 10 λa=>HL 72 a 0 λc=>Ak c W λd=>IQ 45 e 8 9 λf=>HL 72 f 0 λg=>Ak g W λh=>Oj 9 d h λi=>let a:=DT 128 i 127 h 126 g (BL 125 f 124 (B5 e) 123 (A8 e) 122 d (FL 121 c 120 a 119 (BM e) 118 e 8 b));F6 (H' 9 g W h c d) (HR i (gR ro K) e 2 (RM 210) a ds W (K4 (gR ro K) e a ds W))) K 6 e b ds W:=by kernel_rfl
 dsimp at h;exact h
theorem dV(Q:Ending→CW→Prop)(e:Env)(W:CW):AM prog Tryz.f41 Q .ret e [] W=Q (.returned (e 2)) W:=by kernel_rfl
def AIc{Q v0 W}:=FM 41 129 [v0] Tryz.f41 Q W Tryz.func41 (by kernel_rfl)
def ZY(ro:Option Nat)(K:AD):AD:=AU (λe ds W=>K .ret (Env.of e [(4,(e 5)),(16,(e 5))]) ds W) K
def ZZ(ro:Option Nat)(K:AD):AD:=AU (λe ds W=>wI (e 15) ((ZY ro K) .normal (Env.of e [(5,(.int .i64 212))]) ds W) ((ZY ro K) .normal e ds W)) (ZY ro K)
def AId(v0 v1:Value)(K:AD)(W:CW):=by
 have h:E9 43 17 v0 v1 W K=DF 41 v0 W (λa b=>yO .eql 30 a 0 λc=>let a:=EW 10 c 9 8 a (BN 5 a 7 a 6 v0 4 At);let d:=eC 10 Bl (BQ 12 v1 10 11 v0 a);wI c (F7 99 v0 v1 b (λa b=>D2 a λc=>K4 (ZZ none K) (JN v0 v1) (Bc 15 c 14 10 Bl 13 a d) [] b) λa b=>H6 (ZZ none K) a v0 v1 d b) (Ay (ZZ none K) (JN v0 v1) 15 Az (DP 14 10 13 12 11 a) [] b)) λa b=>H6 K a v0 v1 (KH 6 v0 4 At) b:=by kernel_rfl
 dsimp at h;exact h
theorem dW(Q:Ending→CW→Prop)(e:Env)(W:CW):AM prog Tryz.f43 Q .ret e [] W=Q (.returned (e 4)) W:=by kernel_rfl
def AIe{Q v0 v1 W}:=FM 43 17 [v0,v1] Tryz.f43 Q W Tryz.func43 (by kernel_rfl)
def gS(ro:Option Nat)(K:AD):AD:=AU (λe ds W=>K .ret (Env.of e [(8,(.int .i64 0))]) ds W) K
def oo(ro:Option Nat)(K:AD):AD:=AU (λe ds W=>wI (e 27) ((gS ro K) .ret (Env.of e [(8,(.int .i64 1))]) ds W) ((gS ro K) .normal e ds W)) (gS ro K)
def AIf(v0 v1 v2 v3:Value)(K:AD)(W:CW):=by
 have h:RN 63 28 (Gc v0 v1 v2 v3) W K=(let a:=D4 11 v1 10 v0 8 At;F7 43 v0 v1 W (λb c=>Q1 30 b 0 λd=>let a:=MZ 14 d 13 b 9 12 a;HV d K (Gc v0 v1 v2 v3) (Dh 8 b 15 a) c (F7 94 v0 v2 c (λb c=>Mc b 0 λd=>let a:=BL 19 d 18 b 17 v2 16 v0 a;HR d K (Gc v0 v1 v2 v3) 8 (RM 211) a [] c (Md v3 0 λb=>let a:=EW 22 b 21 20 v3 a;Ds b (oo none K) (Gc v0 v1 v2 v3) 27 (A7 26 22 25 24 23 a) [] c (GR v2 c λb=>Db .gtr v3 b λd=>Ay (oo none K) (Gc v0 v1 v2 v3) 27 d (BB 26 d 22 25 b (BB 24 v2 22 23 v3 a)) [] c))) λb c=>Mh K b v0 v1 v2 v3 (F5 17 v2 16 v0 a) c)) λb c=>Mh K b v0 v1 v2 v3 a c):=by kernel_rfl
 dsimp at h;exact h
theorem Mp(Q:Ending→CW→Prop)(e:Env)(W:CW):AM prog Tryz.f63 Q .ret e [] W=Q (.returned (e 8)) W:=by kernel_rfl
def AIg{Q v0 v1 v2 v3 W}:=FM 63 28 [v0,v1,v2,v3] Tryz.f63 Q W Tryz.func63 (by kernel_rfl)
def oq(ro:Option Nat)(K:AD):AD:=AU (λe ds W=>K .ret (Env.of e [(4,(.int .i64 (-1)))]) ds W) K
def AIh(v0 v1:Value)(K:AD)(W:CW):=by
 have h:E9 94 25 v0 v1 W K=GR v1 W λa=>Eo a 1000 λb=>let a:=BN 8 b 7 a 6 v1 4 At;HR b K (JN v0 v1) 4 (RM 1000) a [] W (Iz 94 25 v0 v1 (eC 5 At a) W (oq none K)):=by kernel_rfl
 dsimp at h;exact h
def gT(ro:Option Nat)(K:AD):AD:=AU (λa b c=>BP a 5 λd=>Ay K a 5 d (Bo 14 d 13 a 5) b c) K
def kf:=by
 have h:=@gT.eq_1;dsimp at h;exact h
def AEi(ro:Option Nat)(e:Env)(ds:List Deferred)(K:AD)(W:CW):=by
 have h:CV ro 94 25 e ds W K=GR (Ag e) W λa=>C' e 5 a λb=>let a:=CC 12 b 11 a 10 (Ag e) 9 e 5;FQ b (IY e 1 5 λb=>BH 56 b W λc=>GR (Ag e) W λd=>let a:=DT 21 d 20 (Ag e) 19 c (Bq 18 b 17 (CM e) 16 (Ag e) 15 e a);KG 122 e c d W (λb c=>D2 b λd=>Of d (gT ro K) e (BL 4 (CM e) 24 (CM e) 23 d 22 b a) ds c (K4 (gT ro K) e (F5 23 d 22 b a) ds c)) λb c=>Bh (gT ro K) b e a ds c) K 0 e a ds W:=by kernel_rfl
 dsimp at h;exact h
theorem VC(Q:Ending→CW→Prop)(e:Env)(W:CW):AM prog Tryz.f94 Q .ret e [] W=Q (.returned (e 4)) W:=by kernel_rfl
def AIi{Q v0 v1 W}:=FM 94 25 [v0,v1] Tryz.f94 Q W Tryz.func94 (by kernel_rfl)
def RX(ro:Option Nat)(K:AD):AD:=AU (λe ds W=>K .ret (Env.of e [(4,(.bool true))]) ds W) K
def AIj(v0 v1:Value)(K:AD)(W:CW):=by
 have h:E9 99 175 v0 v1 W K=D7 23 v1 W λa=>Eo a 20 λb=>let a:=F5 16 b 15 a (G7 14 v1 4);HR b K (JN v0 v1) 4 Az a [] W (Iz 99 175 v0 v1 (eC 5 At a) W (RX none K)):=by kernel_rfl
 dsimp at h;exact h
def Nf(ro:Option Nat)(K:AD):AD:=AU (λa b c=>BP a 5 λd=>Ay K a 5 d (Bo 22 d 21 a 5) b c) K
def Oy:=by
 have h:=@Nf.eq_1;dsimp at h;exact h
def sC(ro:Option Nat)(K:AD):AD:=Ek (λa b c=>KF 88 a (DG a) c (λc d=>let c:=F5 116 (BW a) 115 (BA a) (CC 9 c 114 c 113 (DG a) 112 a 0);KF 88 a (BW a) d (λd f=>H9 a 1 5 λg=>EV g 2 λh=>C4 h f λi=>Ft i f λj=>Fs d f λk=>Oh j k λl=>let c:=DT 126 l 125 k 124 d (BL 123 j 122 i 121 h 120 g (D0 119 (CM a) 118 (Ag a) 10 d 117 c));HR l (Nf ro K) a 4 Az c b f (GB ro 99 175 2 a (eC 11 At c) b f 4 (CB 1 (Nf ro K)))) λd f=>Bh (Nf ro K) d a c b f) λc d=>Bh (Nf ro K) c a (KH 113 (DG a) 112 (BA a)) b d) (Nf ro K)
def dX:=by
 have h:=@sC.eq_1;dsimp at h;exact h
def Xo(ro:Option Nat)(K:AD):AD:=Ek (λa b c=>GB ro 99 175 1 a (Ma 8 At) b c 2 (sC ro K)) (Nf ro K)
def dY:=by
 have h:=@Xo.eq_1;dsimp at h;exact h
def Ly(ro:Option Nat)(K:AD):AD:=AU (λe ds W=>wI (e 76) ((Xo ro K) .ret (Env.of e [(4,(.bool false))]) ds W) ((Xo ro K) .normal e ds W)) (Xo ro K)
def AEj(ro:Option Nat)(e:Env)(ds:List Deferred)(K:AD)(W:CW):=by
 have h:CV ro 99 175 e ds W K=D7 23 (Ag e) W λa=>C' e 5 a λb=>let a:=CC 20 b 19 a 18 (Ag e) 17 e 5;FQ b (H9 e 1 5 λb=>EV b 0 λc=>Ak c W λd=>let a:=F5 28 d 27 c (Bq 26 b 25 (CM e) 24 (Ag e) 23 e a);KF 69 e d W (λb c=>H9 e 1 5 λd=>EV d 1 λf=>Ak f c λg=>let a:=FL 35 g 34 f 33 d 32 e 5 (D0 31 (Ag e) 30 (BA e) 6 b 29 a);KF 69 e g c (λc d=>Md b 0 λf=>let a:=eC 39 f (D0 38 f 37 b 7 c 36 a);Gr f True (Ly ro K) e 76 (IS 75 undef 59 (Mb 74 73 72 71 (KJ 70 69 68 67 66 65 64 63 (Iv 62 59 61 (I_ 60 59 58 (Iv 57 51 56 (A7 55 51 54 53 52 (Wv 51 true 50 49 undef 43 (A7 48 43 47 46 45 (I_ 44 43 42 (Iv 41 39 40 a))))))))))) ds d (Md c 0 λf=>let a:=Dh 43 f 42 (BB 41 f 39 40 c a);Gr f True (Ly ro K) e 76 (IS 75 undef 59 (Mb 74 73 72 71 (KJ 70 69 68 67 66 65 64 63 (El 62 59 61 60 (Wv 59 true 58 57 undef 51 (A7 56 51 55 54 53 (I_ 52 51 50 (Iv 49 43 48 (A7 47 43 46 45 44 a))))))))) ds d (N0 22 e 0 b λf=>C9 f 3 λg=>EG g d λh=>Mf 5 h 0 λi=>let a:=Dh 51 i 50 (BB 49 i 43 48 h (BB 47 g 43 46 f (Lr 45 b 43 44 e a)));Gr i (Fq 5 g d h) (Ly ro K) e 76 (IS 75 undef 59 (Mb 74 73 72 71 (KJ 70 69 68 67 66 65 64 63 (Iv 62 59 61 (I_ 60 59 58 (Iv 57 51 56 (A7 55 51 54 53 52 a))))))) ds d (N0 22 e 0 c λb=>C9 b 3 λf=>EG f d λi=>Mf 5 i 0 λj=>let a:=Dh 59 j 58 (BB 57 j 51 56 i (BB 55 f 51 54 b (Lr 53 c 51 52 e a)));Gr j (H' 5 f d i g h) (Ly ro K) e 76 (IS 75 undef 59 (Mb 74 73 72 71 (KJ 70 69 68 67 66 65 64 63 (El 62 59 61 60 a)))) ds d (KY .gtr 3 e 5 0 λb=>let a:=EA 62 b 59 61 b 60 (CM e) a;LJ b (Em e 5 λb=>N0 23 e 1 b λc=>EV c 0 λj=>Ak j d λk=>H9 e 1 5 λl=>EV l 0 λm=>Ak m d λn=>NQ .geq 9 k n λo=>HM (QZ 9 m d n 9 j k (H' 5 f d i g h)) (Ly ro K) e 76 o (HA 75 o 59 (BQ 74 o 62 73 n (BQ 72 m 62 71 l (BQ 70 (CM e) 62 69 (Ag e) (BQ 68 k 62 67 j (BQ 66 c 62 65 b (BQ 64 (CM e) 62 63 (Ag e) a))))))) ds d) (H' 5 f d i g h) (Ly ro K) e 76 Az (Mi 75 Az 59 74 62 73 72 71 (DP 70 62 69 68 67 (DP 66 62 65 64 63 a))) ds d))))) λb c=>Bh (Nf ro K) b e a ds c) λb c=>Bh (Nf ro K) b e a ds c) K 0 e a ds W:=by kernel_rfl
 dsimp at h;exact h
def Xp(ro:Option Nat)(K:AD):AD:=AU (λa b c=>BP a 8 λd=>Ay K a 8 d (Bo 82 d 81 a 8) b c) K
def dZ:=by
 have h:=@Xp.eq_1;dsimp at h;exact h
def TH(ro:Option Nat)(K:AD):AD:=AU (λe ds W=>wI (e 111) ((Xp ro K) .ret (Env.of e [(4,(.bool false))]) ds W) ((Xp ro K) .normal e ds W)) (CB 3 (Xp ro K))
def AEk(ro:Option Nat)(e:Env)(ds:List Deferred)(K:AD)(W:CW):=by
 have h:Ei ro 99 175 1 e ds W K=D7 23 (Ag e) W λa=>C' e 8 a λb=>let a:=CC 80 b 79 a 78 (Ag e) 77 e 8;FQ b (H9 e 1 8 λb=>EV b 0 λc=>Ak c W λd=>H9 e 1 5 λf=>EV f 1 λg=>Ak g W λh=>Oj 9 d h λi=>let a:=Bc 94 i 93 92 h 91 g (BL 90 f 89 (CM e) 88 (Ag e) 87 d (FL 86 c 85 b 84 (A8 e) 83 e 1 a));wI i (IW (H' 9 g W h c d) (TH ro K) e (LI 111 Bl 110 undef 94 Bl 109 108 107 (KJ 106 105 104 103 102 101 100 99 (A7 98 94 97 96 95 a))) ds W) (C' e 8 (CM e) λb=>let a:=jv 98 b 94 false 97 (BB 96 (CM e) 94 95 (A8 e) a);LJ b (H9 e 1 8 λb=>EV b 1 λf=>Ak f W λi=>H9 e 1 5 λj=>EV j 1 λk=>Ak k W λl=>Oj 9 i l λm=>HM (QZ 9 k W l 9 f i (H' 9 g W h c d)) (TH ro K) e 111 m (bh 110 m 94 false 109 m 98 true (BQ 108 l 98 107 k (BQ 106 j 98 105 (CM e) (BQ 104 (Ag e) 98 103 i (BQ 102 f 98 101 b (BQ 100 (A8 e) 98 99 (Ag e) a)))))) ds W) (H' 9 g W h c d) (TH ro K) e 111 Az (BG 110 94 109 98 108 107 (DP 106 98 105 104 103 (DP 102 98 101 100 99 a))) ds W)) K 2 e a ds W:=by kernel_rfl
 dsimp at h;exact h
def gU(ro:Option Nat)(K:AD):AD:=AU (λa b c=>BP a 11 λd=>Ay K a 11 d (Bo 132 d 131 a 11) b c) K
def db:=by
 have h:=@gU.eq_1;dsimp at h;exact h
def Xq(ro:Option Nat)(K:AD):AD:=jz (λa b c=>GB ro 99 175 3 a (Ma 13 At) b c 6 (CB 5 (gU ro K))) 5 (gU ro K)
def dc:=by
 have h:=@Xq.eq_1;dsimp at h;exact h
def TI(ro:Option Nat)(K:AD):AD:=AU (λe ds W=>wI (e 159) ((Xq ro K) .ret (Env.of e [(4,(.bool false))]) ds W) ((Xq ro K) .normal e ds W)) (Xq ro K)
def AEl(ro:Option Nat)(e:Env)(ds:List Deferred)(K:AD)(W:CW):=by
 have h:Ei ro 99 175 2 e ds W K=Fs (BM e) W λa=>C' e 11 a λb=>let a:=CC 130 b 129 a 128 (BM e) 127 e 11;FQ b (H9 e 1 5 λb=>EV b 2 λc=>C4 c W λd=>ET 40 d (B0 e) λf=>DQ f W λg=>Md g 0 λh=>let a:=D0 143 h 142 h 141 g 12 (BL 140 g 139 f 138 (B0 e) 137 d (FL 136 c 135 b 134 (CM e) 133 e 1 a));Gr h True (TI ro K) e 159 (A7 158 149 157 156 155 (A7 154 149 153 152 151 (I_ 150 149 148 (A7 147 143 146 145 144 a)))) ds W (Fs (B5 e) W λb=>Db .geq g b λc=>let a:=Dh 149 c 148 (BB 147 c 143 146 b (BB 145 (B5 e) 143 144 g a));Gr c (IV 29 (B5 e) W b True) (TI ro K) e 159 (IS 158 undef 149 (A7 157 149 156 155 154 (A7 153 149 152 151 150 a))) ds W (N0 29 e 9 g λc=>EG c W λd=>IQ 29 e 10 11 λf=>EG f W λh=>NQ .neq 5 d h λi=>HM (j3 5 f W h (Jj (KX 5 c W d) (FN 29 (B5 e) W b))) (TI ro K) e 159 i (EA 158 i 149 157 h 156 f (BB 155 (B0 e) 149 154 (BM e) (BB 153 d 149 152 c (BB 151 g 149 150 (B5 e) a)))) ds W))) K 4 e a ds W:=by kernel_rfl
 dsimp at h;exact h
def gV(ro:Option Nat)(K:AD):AD:=AU (λa b c=>BP a 13 λd=>Ay K a 13 d (Bo 164 d 163 a 13) b c) K
def dd:=by
 have h:=@gV.eq_1;dsimp at h;exact h
def AEm(ro:Option Nat)(e:Env)(ds:List Deferred)(K:AD)(W:CW):=by
 have h:Ei ro 99 175 3 e ds W K=C' e 13 (B0 e) λa=>let b:=D4 162 a 161 (B0 e) 160 (e 13);FQ a (H9 e 1 5 λa=>EV a 2 λc=>C4 c W λd=>Mg 40 d e 13 λf=>DQ f W λg=>Db .eql g (HS e) λh=>let a:=Wu 174 h 173 e 12 (BL 172 g 171 f 170 (e 13) 169 d (FL 168 c 167 a 166 (CM e) 165 e 1 b));HR h (gV ro K) e 4 Az a ds W (K4 (gV ro K) e a ds W)) K 6 e b ds W:=by kernel_rfl
 dsimp at h;exact h
theorem uV(Q:Ending→CW→Prop)(e:Env)(W:CW):AM prog Tryz.f99 Q .ret e [] W=Q (.returned (e 4)) W:=by kernel_rfl
def AIk{Q v0 v1 W}:=FM 99 175 [v0,v1] Tryz.f99 Q W Tryz.func99 (by kernel_rfl)
def Xr(ro:Option Nat)(K:AD):AD:=AU (λe ds W=>K .ret (Env.of e [(6,(.bool true))]) ds W) K
def Xs(ro:Option Nat)(K:AD):AD:=AU (λa b c=>j5 ro 122 89 0 a (Ma 8 At) b c (Xr ro K)) K
def de:=by
 have h:=@Xs.eq_1;dsimp at h;exact h
def Kv(ro:Option Nat)(K:AD):AD:=AU (λe ds W=>wI (e 47) ((Xs ro K) .ret (Env.of e [(6,(.bool false))]) ds W) ((Xs ro K) .normal e ds W)) (Xs ro K)
def AEn(v0 v1 v2:Value)(K:AD)(W:CW):=by
 have h:HQ 122 89 v0 v1 v2 W K=HU 56 v1 W λa b=>Ej a 0 λc=>Ak c b λd=>let c:=eC 12 d (BN 11 c 10 v0 6 Az 4 a);F7 69 v0 d b (λb d=>Md b 0 λf=>let c:=eC 16 f (MZ 15 f 14 b 7 13 c);Gr f True (Kv none K) (Eg v0 v1 v2) 47 (IS 46 undef 30 (KJ 45 44 43 42 41 40 39 38 (El 37 30 36 35 (A7 34 30 33 32 31 (Wv 30 true 29 28 undef 16 (Mb 27 26 25 24 (El 23 16 22 21 (A7 20 16 19 18 17 c)))))))) [] d (ET 22 v0 b λf=>C9 f 3 λg=>EG g d λh=>Mf 5 h 0 λi=>let c:=EA 23 i 16 22 i 21 h (BB 20 g 16 19 f (BB 18 b 16 17 v0 c));wI i (Ej a 1 λf=>C4 f d λi=>Ft i d λj=>Eo j 200 λk=>let c:=Dh 30 k 29 (HA 28 k 16 (BQ 27 k 23 26 j (BQ 25 i 23 24 f c)));Gr k (IV 40 i d j (Ss 40 f d i 5 g h)) (Kv none K) (Eg v0 v1 v2) 47 (IS 46 undef 30 (KJ 45 44 43 42 41 40 39 38 (El 37 30 36 35 (A7 34 30 33 32 31 c)))) [] d (ET 22 v0 b λk=>C9 k 3 λl=>EG l d λm=>IU 5 m 0 λn=>let c:=EA 37 n 30 36 n 35 m (BB 34 l 30 33 k (BB 32 b 30 31 v0 c));LJ n (Ej a 1 λa=>C4 a d λk=>Ft k d λn=>F7 88 v0 b d (λo p=>Fs o p λq=>Oh n q λr=>HM ((IV 29 o p q True)∧E8 (IV 40 k p n (FN 40 k d n)) (tx (KX 40 a p k) 40 a d k) (E8 (IT 5 l d m) (I1 (FN 40 i d j)) (yS 40 f d i 5 g h))) (Kv none K) (Eg v0 v1 v2) 47 r (HA 46 r 30 (BQ 45 r 37 44 q (BQ 43 o 37 42 b (BQ 41 v0 37 40 n (BQ 39 k 37 38 a c))))) [] p) λ_ _=>False) (E8 (KX 5 l d m) (FN 40 i d j) (Ss 40 f d i 5 g h)) (Kv none K) (Eg v0 v1 v2) 47 Az (Mi 46 Az 30 45 37 44 43 42 (DP 41 37 40 39 38 c)) [] d)) (ET 22 v0 b λf=>C9 f 3 λi=>EG i d λj=>IU 5 j 0 λk=>let c:=EA 37 k 30 36 k 35 j (BB 34 i 30 33 f (BB 32 b 30 31 v0 (rM 30 29 28 Az 16 27 23 26 (J7 25 23 24 c))));LJ k (Ej a 1 λa=>C4 a d λf=>Ft f d λk=>F7 88 v0 b d (λl m=>Fs l m λn=>Oh k n λo=>HM ((IV 29 l m n True)∧E8 (IV 40 f m k (FN 40 f d k)) (tx (KX 40 a m f) 40 a d f) (Gq 5 i d j g h)) (Kv none K) (Eg v0 v1 v2) 47 o (HA 46 o 30 (BQ 45 o 37 44 n (BQ 43 l 37 42 b (BQ 41 v0 37 40 k (BQ 39 f 37 38 a c))))) [] m) λ_ _=>False) (H' 5 i d j g h) (Kv none K) (Eg v0 v1 v2) 47 Az (Mi 46 Az 30 45 37 44 43 42 (DP 41 37 40 39 38 c)) [] d))) λa b=>H7 K a v0 v1 v2 c b:=by kernel_rfl
 dsimp at h;exact h
def Oz(ro:Option Nat)(K:AD):AD:=AU (λe ds W=>wV (DL prog .add 3 true (e 8) (.int .i64 1)) λv54=>K .normal (Env.of e [(8,v54),(54,v54),(53,(e 8))]) ds W) K
def FZ(ro:Option Nat)(K:AD):AD:=AU (λe ds W=>wI (e 88) ((Oz ro K) .ret (Env.of e [(6,(.bool false))]) ds W) ((Oz ro K) .normal e ds W)) (CB 1 (Oz ro K))
def ABc(ro:Option Nat)(e:Env)(ds:List Deferred)(K:AD)(W:CW):=by
 have h:CV ro 122 89 e ds W K=HT e 4 λa=>C4 a W λb=>Ft b W λc=>C' e 8 c λd=>let a:=eC 52 d (CC 51 c 50 b 49 a 48 e 8);FQ d (HT e 4 λb=>C4 b W λc=>ET 40 c (A8 e) λd=>DQ d W λf=>let a:=eC 62 (A8 e) (D0 61 (BW e) 60 (BA e) 9 f 59 (BL 58 d 57 (A8 e) 56 c 55 b a));KG 70 e (BW e) (A8 e) W (λb c=>IU 5 b 1 λd=>let a:=EW 65 d 64 63 b a;let b:=eC 73 Az (EA 76 (A8 e) 73 75 (BW e) 74 (BA e) (Wv 73 false 72 71 undef 65 (Dh 70 undef 69 (HA 68 undef 65 (J7 67 65 66 a)))));wI d (Md f (-1000000000) λb=>let a:=IX 68 b 65 67 b 65 66 f a;wI b (K4 (FZ ro K) e (LI 88 Bl 87 undef 73 Bl 86 85 84 (Mb 83 82 81 80 (Iv 79 73 78 (A7 77 73 76 75 74 (H8 73 true 72 71 Bl 65 70 68 69 a))))) ds c) (Eo f 1000000000 λb=>let a:=Dh 73 b 72 (IS 71 b 65 (BB 70 b 68 69 f a));let d:=eC 73 Az (EA 76 (A8 e) 73 75 (BW e) 74 (BA e) a);wI b (K4 (FZ ro K) e (LI 88 Bl 87 undef 73 Bl 86 85 84 (Mb 83 82 81 80 (Iv 79 73 78 (A7 77 73 76 75 74 a)))) ds c) (KG 70 e (BW e) (A8 e) c (λa b=>IU 5 a 2 λc=>let a:=eC 79 c (BL 73 Az 78 c 73 Az 77 a d);C1 c (Md f 0 λc=>let a:=IX 82 c 79 81 c 79 80 f a;Ds c (FZ ro K) e 88 (HA 87 Bl 73 (H8 86 true 79 85 undef 82 84 82 83 a)) ds b (Db .gtr f (B7 e) λc=>Ay (FZ ro K) e 88 c (HA 87 c 73 (bh 86 c 79 true 85 c 82 false (BB 84 (B7 e) 82 83 f a))) ds b)) (FZ ro K) e (HA 88 Az 87 (LI 73 Az 86 undef 79 Az 85 84 83 (HA 82 undef 79 (J7 81 79 80 a)))) ds b) λa b=>Bh (FZ ro K) a e d ds b))) (KG 70 e (BW e) (A8 e) c (λa c=>IU 5 a 2 λd=>let a:=eC 79 d (BL 73 Az 78 d 73 Az 77 a b);C1 d (Md f 0 λb=>let a:=IX 82 b 79 81 b 79 80 f a;Ds b (FZ ro K) e 88 (HA 87 Bl 73 (H8 86 true 79 85 undef 82 84 82 83 a)) ds c (Db .gtr f (B7 e) λb=>Ay (FZ ro K) e 88 b (HA 87 b 73 (bh 86 b 79 true 85 b 82 false (BB 84 (B7 e) 82 83 f a))) ds c)) (FZ ro K) e (HA 88 Az 87 (LI 73 Az 86 undef 79 Az 85 84 83 (HA 82 undef 79 (J7 81 79 80 a)))) ds c) λa c=>Bh (FZ ro K) a e b ds c)) λb c=>Bh (FZ ro K) b e a ds c) K 0 e a ds W:=by kernel_rfl
 dsimp at h;exact h
theorem ot(Q:Ending→CW→Prop)(e:Env)(W:CW):AM prog Tryz.f122 Q .ret e [] W=Q (.returned (e 6)) W:=by kernel_rfl
def AEo{Q v0 v1 v2 W}:=FM 122 89 [v0,v1,v2] Tryz.f122 Q W Tryz.func122 (by kernel_rfl)
end Go.Ce
namespace Go.Ce
section
variable {α:Type}{W:CW}{el n:Nat}{v:Value}
theorem O0{enc:α→List Value}(hn:∀x,(enc x).length=n)(l:List α):(l.flatMap enc).length=l.length*n:=by
 induction l with
 |nil=>simp
 |cons x l ih=>rw[aaO,aas,ih,hn,aaw,ac5,ac3]
theorem AC5{enc:α→List Value}(hn:∀x,(enc x).length=n)(h0:0<n){l:List α}(h:Bu W el n v (l.flatMap enc)):Ab n (λb o x=>Cells W b o (enc x)) v l:=by
 generalize hc:l.flatMap enc=cs at h;have hl:=O0 hn l;rw[hc]at hl
 cases h with
 | nil=>
  have:l.length=0:=by
   rcases abK l.length with h|h
   ·exact h
   ·have:=Nat.mul_pos h h0;rw[←hl]at this;simp at this
  exact⟨none,0,by rw[this],λi x hx=>by have:=(dx.1 hx).1;omega⟩
 | @some b len _ hB kY=>
  have:len=l.length:=acv h0 (by rw[←kY,hl]);refine⟨some ⟨b,0,none⟩,len,by rw[this],λi x hx=>⟨_,rfl,?_⟩⟩;have h1:=hB.cells;rw[←hc]at h1;exact RW hn l 0 h1 i x hx
theorem yy(f:α→Value)(l:List α):l.map f=l.flatMap λx=>[f x]:=by
 induction l with
 |nil=>rfl
 |cons x l ih=>rw[abW,aaO,ih];rfl
theorem O1{f:α→Value}{l:List α}(h:Bu W el 1 v (l.map f)):Ab 1 (λb o x=>W.cell b o=some (f x)) v l:=by
 rw[yy]at h;obtain⟨a,cap,h1,h2⟩:=AC5 (n:=1) (λ_=>rfl) (by omega) h;refine⟨a,cap,h1,λi x hx=>?_⟩;obtain⟨p,hp,hr⟩:=h2 i x hx;exact⟨p,hp,by have:=hr 0 (f x) rfl;rwa[abc]at this⟩
end
theorem Hu{P:Program}{t el':TypeId}(u:P.underlying t=some (.slice el')){W W':CW}{el n:Nat}{v:Value}{cs:List Value}(h:Bu W el n v cs)(hn:0<n){m:Nat}(hm:cs.length=m*n):It P t v W'=some (.int .i64 m):=by
 cases h with
 | nil=>
  have:m=0:=by
   rcases abK m with h|h
   ·exact h
   ·have:=Nat.mul_pos h hn;rw[←hm]at this;simp at this
  rw[AQ u,this]
 | @some b len _ hB hl=>
  have:len=m:=acv hn (by rw[←hl,hm]);rw[AQ u,this]
def A9(ts:List Nat)(e e':Env):Prop:=∀t,t∈ts→e' t=e t
theorem A9.refl(ts:List Nat)(e:Env):A9 ts e e:=λ_ _=>rfl
theorem A9.trans{ts:List Nat}{a b c:Env}(h:A9 ts a b)(k:A9 ts b c):A9 ts a c:=λt ht=>(k t ht).trans (h t ht)
theorem A9.put{ts:List Nat}{e:Env}{l:List (Nat×Value)}(h:(ts.all λt=>l.all λp=>!Nat.beq t p.1)=true):A9 ts e (Env.of e l):=by
 intro t ht;have h1:=aax.1 h t ht;clear h ht
 induction l with
 |nil=>rfl
 |cons p l ih=>
  simp only[abv,aab,aaK]at h1;simp only[Env.of,h1.1,cond_false];exact ih h1.2
def G4(J:Nat→Env→List Deferred→CW→Prop)(i n:Nat)(K:AD):AD:=λx e ds W=>match x with
 | .normal=>i<n∧J (i+1) e ds W
 |x=>K x e ds W
section
variable (J:Nat→Env→List Deferred→CW→Prop)(i n:Nat)(K:AD)(e:Env)(ds:List Deferred)(W:CW)
theorem FH:G4 J i n K .normal e ds W=(i<n∧J (i+1) e ds W):=rfl
theorem Ng:G4 J i n K .ret e ds W=K .ret e ds W:=rfl
theorem Jp(j:Nat):G4 J i n K (.exit j) e ds W=K (.exit j) e ds W:=rfl
theorem yz(ch:List PanicEntry):G4 J i n K (.panic ch) e ds W=K (.panic ch) e ds W:=rfl
end
theorem C2{P:Program}{L:List FuncId}{ro:Option Nat}{fn:FuncId}{nt:Nat}{b:Code}{K:AD}(J:Nat→Env→List Deferred→CW→Prop)(n:Nat){e:Env}{ds:List Deferred}{W:CW}(h0:J 0 e ds W)
  (LC:∀i e ds W,i≤n→J i e ds W→E6 P L ro fn nt b e ds W (G4 J i n K)):FX P L ro fn nt (.loop b) e ds W K:=by
 suffices key:∀k i e ds W,n-i=k→i≤n→J i e ds W→FX P L ro fn nt (.loop b) e ds W K from key n 0 e ds W rfl (aa1 _) h0
 intro k
 induction k using Nat.strongRecOn with
 | ind k ih=>
  intro i e ds W hk OT hi a ha hn;obtain⟨m,⟨x1,a1,W1⟩,h1,e1,h2,h3,h4⟩:=Gm (LC i e ds W OT hi) a ha hn
  cases x1 with
  |normal=>
   obtain⟨h5,h6⟩:=h4;obtain⟨m',o,h7,h8⟩:=ih (n-(i+1)) (by omega) (i+1) e1 a1.defers W1 rfl h5 h6 a1 h2 h3;refine⟨max m m'+1,o,?_,h8⟩;show SB ((EL P L (max m m')).code ro fn b a W) ((EL P L (max m m')).code ro fn (.loop b))=some [o];rw[KU (abh m m') h1];exact F4 (KU (aa2 m m') h7)
  |_=>
   refine⟨m+1,_,?_,e1,h2,h3,h4⟩;show SB ((EL P L m).code ro fn b a W) ((EL P L m).code ro fn (.loop b))=_;rw[h1];exact F4 rfl
theorem E_{bad:Nat→Bool}{i:Nat}(h:∀m,m<i→bad m=false)(hi:bad i=false):∀m,m<i+1→bad m=false:=λm hm=>by
 rcases aap.1 hm with h2|rfl
 ·exact h m h2
 ·exact hi
theorem CE{i:Nat}(h:i<1000000000000):IntKind.i64.wrap ((i:Int)+1)=((i+1:Nat):Int):=by rw[wrap64 (by omega) (by omega)];rfl
theorem Eh{i n:Nat}{X Y:Prop}(h1:i<n→X)(h2:n≤i→Y):wI (.bool (decide ((i:Int)<(n:Int)))) X Y :=
 AF (λh=>h1 (by have:=of_decide_eq_true h;omega)) (λh=>h2 (by have:=of_decide_eq_false h;omega))
theorem VD{vs ws:List Value}(h:ws.length=vs.length):putAt vs 0 ws=ws:=by
 unfold putAt;rw[acM,abi,acJ (by omega),abl]
section
variable {P:Program}
theorem EH{t:TypeId}{m:Nat}{z:Value}(hz:Is P t=some z)(hs:EM P t=some m)(hzl:z.cells.size=m){ws:List Value}(h1:ws.all BJ=true)(hm:ws.length=m){W:CW}{K:Value→CW→Prop}(ht:Ai W)
  (hk:∀W2,Kp W W2→Ai W2→W2.sz=W.sz+1→A0 W2 W.sz t ws→K (.pointer (some ⟨W.sz,0,none⟩)) W2):KE (rG P t W) λv W1=>wV (M6 P t v (.agg ws.toArray) W1) λW2=>K v W2:=by
 refine LL hz hs ht λW1 k1 t1 z1 hB=>?_;refine G0 hs (a:=⟨W.sz,0,none⟩) h1 hm hB (by simp[hzl]) λW2 hu HD=>?_;rw[VD (by simp[hzl,hm])]at HD;exact hk W2 (k1.Ba (aag _) hu) (t1.Ba (by rw[z1];exact Nat.lt_succ_self _) hu) (by rw[hu.sz,z1]) HD
end
section
variable {P:Program}
theorem Ig{t el:TypeId}{ts:List TypeId}{n bytes:Nat}{z x:Value}{xs:List Value}(ut:P.underlying t=some (.slice el))(hs:EM P el=some n)(hz:Is P el=some z)(mu:z.cells.size=n)(hn:0<n)(od:(P.info? el).map (·.bytes)=some bytes)(hb:bytes≤1024)
  (AEc:∀W,tk P t 1 [(0,x)] W=some (.slice (some ⟨W.sz,0,none⟩) 1 1,W.new (.cells (Tr.nil.AW 0 xs) xs.length #[] el))) (ml:xs.length=n) (NK:xs.all BJ=true)
  {W:CW} (ht:Ai W) {v:Value} {cs:List Value} (hv:Bu W el n v cs) (N_:cs.length<900000) {K:Value→CW→Value→CW→Prop}
  (hk:∀u Wa v1 W1,Kp W Wa→Ai Wa→MH v W W1→Ai W1→Bu W1 el n v1 (cs++xs)→(∀A,A≤W.sz→Aw A v1)→K u Wa v1 W1):KE (tk P t 1 [(0,x)] W) λu W1=>KE (app P (t::t::ts) v u W1) λv1 W2=>K u W1 v1 W2:=by
 refine F8 (AEc W) ?_;have bn:Kp W (W.new (.cells (Tr.nil.AW 0 xs) xs.length #[] el)):=.new _
 have hB:A0 (W.new (.cells (Tr.nil.AW 0 xs) xs.length #[] el)) W.sz el xs:=⟨_,_,_,by rw[Bd,aae rfl],rfl,λk w hw=>by
  rw[C6 _ _ _ (dx.1 hw).1,aah,hw];rfl⟩
 have ID:Bu (W.new (.cells (Tr.nil.AW 0 xs) xs.length #[] el)) el n v cs:=by
  cases hv with
  |nil=>exact .nil
  |some h hl=>exact .some (h.ext ht bn) hl
 have N1:∀b l c,v=.slice (some b) l c→b.block<W.sz:=by
  intro b l c e
  cases hv with
  |nil=>cases e
  |some h hl=>cases e;exact h.lt ht
 have hu:II P t=true:=by unfold II;rw[ut]
 refine r9 (x:=.slice (some ⟨W.sz,0,none⟩) 1 1) (m:=1) (news:=xs) ut hu hs hz mu hn od hb (ht.new _) ID rfl (by omega) ?_ NK (by omega) (by omega) λW1 len hg hl Rz=>?_
 ·show FV (some ⟨W.sz,0,none⟩) (1*n) _=some xs;rw[acD,←ml];exact K7 hB.cells
 ·refine hk _ _ _ W1 bn (ht.new _) ⟨by rw[hg.sz,HC];omega,λi hi D3=>?_⟩ (hg.top (ht.new _)) (.some Rz hl) (λA hA b l c e=>by cases e;rw[HC];show A≤W.sz+1;omega);rw[hg.obj i (by rw[HC];omega) D3,Bd,aad (by omega)]
end
theorem AEp{W W':CW}{el n i:Nat}{v:Value}{cs:List Value}(h:Bu W el n v cs)(hu:Ep i W W')(hi:∀b l c,v=.slice (some b) l c→b.block≠i):Bu W' el n v cs:=by
 cases h with
 |nil=>exact Bu.nil
 |some hB hl=>exact Bu.some (hB.congr (hu.obj _ (hi _ _ _ rfl))) hl
theorem Za{W:CW}{el n:Nat}{v:Value}{cs:List Value}(h:Bu W el n v cs):BJ v=true:=by cases h<;>rfl
theorem Zb{W:CW}{el el' n i:Nat}{v:Value}{cs ws:List Value}(h:Bu W el n v cs)(hB:A0 W i el' ws)(he:el≠el'):∀b l c,v=.slice (some b) l c→b.block≠i:=by
 intro b l c hv hb
 cases h with
 |nil=>cases hv
 |some h1 hl=>
  cases hv
  simp only at hb;subst hb;obtain⟨c1,n1,z1,h2,_⟩:=h1;obtain⟨c2,n2,z2,h3,_⟩:=hB;rw[h2]at h3
  cases h3
  exact he rfl
theorem MH.Fk{v:Value}{W W':CW}(h:MH v W W')(ht:Ai W){i:Nat}{el:TypeId}{ws:List Value}(hB:A0 W i el ws)(hi:∀b l c,v=.slice (some b) l c→b.block≠i):A0 W' i el ws :=
 hB.congr (h.obj i (hB.lt ht) λb l c e=>(hi b l c e).symm)
theorem Nh{P:Program}{fn:Func}{Q:Ending→CW→Prop}{e:Env}{W:CW}{s:Tmp}{ty:TypeId}{p:Addr}{v:Value}(hr:fn.results.toList=[.cell s ty])(he:e s=.pointer (some p))(hv:ld P ty (.pointer (some p)) W=some v)(hq:Q (.returned v) W):AM P fn Q .ret e [] W:=by
 have hv:MO P ty p W=some v:=hv;simp only[AM,Da,hr,Lo,tu,he,hv];exact hq
structure Bw(S:Nat→Prop)(W W':CW):Prop where
 sz:W.sz≤W'.sz
 obj:∀i,i<W.sz→¬S i→W'.obj i=W.obj i
theorem Bw.refl(S:Nat→Prop)(W:CW):Bw S W W:=⟨aag _,λ_ _ _=>rfl⟩
theorem Bw.HY{S:Nat→Prop}{W W':CW}(h:Kp W W'):Bw S W W':=⟨h.sz,λi hi _=>h.obj i hi⟩
theorem Bw.then{S T:Nat→Prop}{A B C:CW}(h:Bw S A B)(k:Bw T B C)(hT:∀i,i<A.sz→T i→S i):Bw S A C :=
 ⟨aa5 h.sz k.sz,λi hi hs=>(k.obj i (abz hi h.sz) λht=>hs (hT i hi ht)).trans (h.obj i hi hs)⟩
theorem Bw.kp{S:Nat→Prop}{A B C:CW}(h:Kp A B)(k:Bw S B C)(hS:∀i,S i→A.sz≤i):Kp A C :=
 ⟨aa5 h.sz k.sz,λi hi=>(k.obj i (abz hi h.sz) λhs=>by have:=hS i hs;omega).trans (h.obj i hi)⟩
theorem Bw.cell{S:Nat→Prop}{W W':CW}(h:Bw S W W')(ht:Ai W){b k:Nat}(hb:¬S b){v:Value}(hc:W.cell b k=some v):W'.cell b k=some v:=by
 rw[RQ (h.obj b (ri ht hc) hb)];exact hc
theorem Bw.Fk{S:Nat→Prop}{W W':CW}(h:Bw S W W')(ht:Ai W){b:Nat}(hb:¬S b){el:TypeId}{ws:List Value}(hB:A0 W b el ws):A0 W' b el ws :=
 hB.congr (h.obj b (hB.lt ht) hb)
def FA(v:Value)(i:Nat):Prop:=∃b l c,v=.slice (some b) l c∧b.block=i
theorem MH.Dk{v:Value}{W W':CW}(h:MH v W W'):Bw (FA v) W W':=⟨h.sz,λi hi hs=>h.obj i hi λb l c e hb=>hs ⟨b,l,c,e,hb.symm⟩⟩
theorem Ep.Dk{i:Nat}{W W':CW}(h:Ep i W W'):Bw (·=i) W W':=⟨by rw[h.sz];exact aag _,λj _ hj=>h.obj j hj⟩
theorem Bw.own{S:Nat→Prop}{W W':CW}(h:Bw S W W')(ht:Ai W){el n:Nat}{v:Value}{cs:List Value}(ho:Bu W el n v cs)(hv:∀i,FA v i→¬S i):Bu W' el n v cs:=by
 cases ho with
 |nil=>exact Bu.nil
 |some hB hl=>exact Bu.some (h.Fk ht (hv _ ⟨_,_,_,rfl,rfl⟩) hB) hl
theorem Aw.in{A:Nat}{v:Value}(h:Aw A v){i:Nat}(hi:FA v i):A≤i:=by
 obtain⟨b,l,c,e,rfl⟩:=hi;exact h b l c e
theorem Zc{W:CW}(ht:Ai W){el n:Nat}{v:Value}{cs:List Value}(h:Bu W el n v cs){i:Nat}(hi:FA v i):i<W.sz:=by
 obtain⟨b,l,c,e,rfl⟩:=hi
 cases h with
 |nil=>cases e
 |some hB hl=>cases e;exact hB.lt ht
section
variable {P:Program}
theorem sD{t el:TypeId}{z:Value}{bytes:Nat}(ut:P.underlying t=some (.slice el))(hs:EM P el=some 1)(hz:Is P el=some z)(hzc:z.cells=#[z])(od:(P.info? el).map (·.bytes)=some bytes)(hb:bytes≤1024){n:Nat}(hn:n≤2000000){k1 k2:IntKind}{W:CW}(ht:Ai W){K:Value→CW→Prop}
  (hk:∀W1,Kp W W1→Ai W1→W1.sz=W.sz+1→A0 W1 W.sz el (List.replicate n z)→K (.slice (some ⟨W.sz,0,none⟩) n n) W1):KE (mks P t (.int k1 n) (.int k2 n) W) K:=by
 have hc:mks P t (.int k1 n) (.int k2 n) W=some (.slice (some ⟨W.sz,0,none⟩) n n,W.new (.cells .nil (n*1) z.cells el)):=by
  unfold mks;simp only[ut,hs,hz,DI,od,aaX,hzc];rw[show Nat.ble bytes 1024=true from aak hb];simp only[cond_eq_ite];rw[aae (by simp;omega)];simp
 refine F8 hc (hk _ (.new _) (ht.new _) rfl ⟨.nil,_,_,by rw[Bd,aae rfl],by simp,λk v hv=>?_⟩);have h1:v=z:=acF (aan hv);subst h1;unfold cellAt;simp only[Tr.get_nil,hzc];simp[Nat.mod_one]
end
section
variable {P:Program}
theorem Xt{t u el:TypeId}{ts:List TypeId}{n bytes:Nat}{z:Value}(ut:P.underlying t=some (.slice el))(hu:II P u=true)(hs:EM P el=some n)(hz:Is P el=some z)(mu:z.cells.size=n)(hn:0<n)(od:(P.info? el).map (·.bytes)=some bytes)(hb:bytes≤1024)
  {W:CW} (ht:Ai W) {v:Value} {cs news:List Value} {a:Option Addr} {m cap:Nat} (hv:Bu W el n v cs) (U9:0<m→∃p,a=some p∧Cells W p.block p.off news) (h1:news.all BJ=true) (LU:news.length=m*n) (N_:cs.length+m≤1000000) {K:Value→CW→Prop}
  (hk:∀v1 W1,MH v W W1→Ai W1→Bu W1 el n v1 (cs++news)→(∀j,FA v1 j→FA v j∨W.sz≤j)→K v1 W1):KE (app P (t::u::ts) v (.slice a m cap) W) K:=by
 rcases abK m with rfl|hm
 ·have GY:news=[]:=aaG.1 (by rw[LU,abe]);subst GY;have kR:Nat.ble ((P.info? el).map (·.bytes)|>.getD 2000) 1024=true:=by rw[od];exact aak hb
  have wg:HI (.slice a 0 cap) 0 n W=some []:=by
   show FV a (0*n) W=some [];rw[abe];unfold FV
   cases a<;>rfl
  have hc:app P (t::u::ts) v (.slice a 0 cap) W=some (v,W):=by
   unfold app;simp only[hu,cond_true]
   cases hv with
   |nil=>
    unfold Fy;simp only[ut,bL,DI,hs,hz,wg,acQ,abI,abe,abu,mu,kR,aa4,abC];rw[show Nat.blt 0 n=true from aak hn];rfl
   | @some b len cs hB hl=>
    have hlen:len≤cs.length:=by rw[hl];exact acH _ hn
    unfold Fy;simp only[ut,bL,DI,hs,hz,wg,acQ,abI,abe,abu,mu,kR,aa4,abC,abc];rw[show Nat.blt 0 n=true from aak hn,show Nat.ble len 1000000=true from aak (by omega),show Nat.ble len len=true from aak (aag _)];rfl
  refine F8 hc (hk v W ⟨aag _,λ_ _ _=>rfl⟩ ht (by rw[abl];exact hv) (λj h=>.inl h))
 ·obtain⟨p,rfl,Hp⟩:=U9 hm
  refine r9 (m:=m) ut hu hs hz mu hn od hb ht hv rfl hm ?_ h1 LU N_ λW1 len hg hl hB=>?_
  ·show FV (some p) (m*n) W=some news;rw[←LU];exact K7 Hp
  ·exact hk _ W1 ⟨by rw[hg.sz];omega,hg.obj⟩ (hg.top ht) (.some hB hl) (λj h=>.inr (by obtain⟨b,l,c,e,rfl⟩:=h;cases e;exact aag _))
end
end Go.Ce
namespace Go.Ce
open Go Go.Proofs Go.Proofs.Tryz
def CY(n:Nat)(p:Nat→Bool):Bool:=(List.range n).any p
theorem Bi{n j:Nat}{p:Nat→Bool}(hj:j<n)(h:p j=true):CY n p=true:=aaQ.2 ⟨j,aaT.2 hj,h⟩
theorem CG{n:Nat}{p:Nat→Bool}(h:∀j,j<n→p j=false):CY n p=false:=by
 unfold CY;rw[abS];intro j hj;rw[h j (aaT.1 hj)];simp
theorem GH{n:Nat}{p:Nat→Bool}(h:CY n p=false){j:Nat}(hj:j<n):p j=false:=by
 cases hp:p j with
 |false=>rfl
 |true=>rw[Bi hj hp]at h;cases h
def Gs(k:Int):Bool:=k==1||k==2
def DN(kind n:Int)(size:Nat):Bool:=!((kind==1&&(decide (n< -1000000000)||decide (n>1000000000)))||(kind==2&&(decide (n<0)||decide (n>size))))
def A3(c:List Aq)(s:ByteArray):Option Nat:=c.findIdx? λx=>decide (x.name=s)
def Et(c:List Aq)(i:Nat)(x:Aq)(many:Nat):Bool:=if x.elem≠0 then decide (many≤200)else decide (many=(AX c i).length)
def BC(c:List Aq)(x:CD)(size:Nat):Bool:=match A3 c x.type with
 |none=>false
 | some i=>match c[i]? with
  |none=>false
  |some s=>Et c i s x.AO.length&& !CY x.AO.length λk=>match x.AO[k]? with
   |some n=>!DN (BR c i k) n size
   |none=>false
def FB(c:List Aq)(h:List CD):Int:=if 1000<h.length then 1000 else Kt h λx=>!BC c x h.length
theorem F9.kp{W W':CW}{b o:Nat}{x:Int}(h:F9 W b o x)(ht:Ai W)(k:Kp W W'):F9 W' b o x:=⟨k.cell ht h.1,h.2⟩
theorem G2.kp{W W':CW}{b o:Nat}{x:CD}(h:G2 W b o x)(ht:Ai W)(k:Kp W W'):G2 W' b o x :=
 ⟨k.cell ht h.type,by obtain⟨v,h1,h2⟩:=h.AO;exact⟨v,k.cell ht h1,h2.imp λ_ _ _ hr=>hr.kp ht k⟩⟩
theorem Hs.kp{W W':CW}{b o:Nat}{x:DD}(h:Hs W b o x)(ht:Ai W)(k:Kp W W'):Hs W' b o x :=
 ⟨k.cell ht h.type,k.cell ht h.to,by obtain⟨v,h1,h2,h3⟩:=h.map;exact⟨v,k.cell ht h1,h2.imp λ_ _ _ hr=>hr.kp ht k,h3.kp ht k⟩⟩
def AIl(W:CW)(u:Value)(x:CD):Prop:=∃v,u=.agg #[.string x.type,v]∧Ab 1 (F9 W) v x.AO
theorem G2.ld{W:CW}{b o:Nat}{x:CD}(h:G2 W b o x):∃u,ld prog 56 (.pointer (some ⟨b,o,none⟩)) W=some u∧AIl W u x:=by
 obtain⟨v,h1,h2⟩:=h.AO;refine⟨_,DC (vs:=[.string x.type,v]) bG IH rfl (by omega) ?_,v,rfl,h2⟩;intro j w hj
 match j,hj with
 |0,hj=>cases hj;exact h.type
 |1,hj=>cases hj;exact h1
theorem Ni{c:List Aq}{s:ByteArray}{i:Nat}(h:A3 c s=some i):HW c s=i:=by unfold HW;unfold A3 at h;rw[h]
theorem RY{c:List Aq}{s:ByteArray}(h:A3 c s=none):HW c s=-1:=by unfold HW;unfold A3 at h;rw[h]
theorem FT{c:List Aq}{s:ByteArray}{i:Nat}(h:A3 c s=some i):i<c.length:=(aaA.1 h).1
theorem y8{v0 v1:Value}{c:List Aq}{x:CD}{size:Nat}{W:CW}(ht:Ai W)(hc:Ab 5 (EI W) v0 c)(hlen:c.length<200)(hf:∀x,x∈c→x.fields.length≤100)(hx:AIl W v1 x)(hv:x.AO.length<1000000)(KB:size<1000000) :
  Ac prog Bs 122 [v0,v1,.int .i64 size] W (ib (.bool (BC c x size)) W):=by
 refine AEo ?_;rw[AEn];obtain⟨vv,rfl,AC6⟩:=hx;refine G8 IH ht λW0 k0 t0 z0 hB=>?_;have Zd:W0.cell W.sz 0=some (.string x.type):=hB.cell rfl;have Rz:W0.cell W.sz 1=some vv:=hB.cell rfl;have qz:Ab 5 (EI W0) v0 c:=hc.imp λ_ _ _ hr=>hr.kp ht k0;simp only[G3,AA];rw[AH a9 (a:=⟨W.sz,0,none⟩) Zd];simp only[AA];refine As (Ks qz (by omega)) ?_;generalize FI:AM prog Tryz.f122 (ib (.bool (BC c x size)) W)=K
 have Gd:∀(b:Bool) (e:Env) W',Kp W W'→Ai W'→e 6=.bool b→b=BC c x size→K .ret e [] W':=by
  intro b e W' k t h6 hb;rw[←FI,ot,h6,hb];exact⟨rfl,k,t⟩
 have Ef:∀(b:Bool) (e:Env) W',Kp W0 W'→Ai W'→e 47=.bool b→e 0=v0→e 2=.int .i64 size→e 4=.pointer (some ⟨W.sz,0,none⟩)→
   (b=true→BC c x size=false)→(b=false→∃i,e 7=.int .i64 (i:Nat)∧A3 c x.type=some i∧∃s,c[i]?=some s∧Et c i s x.AO.length=true)→(Kv none K) .normal e [] W':=by
  intro b e W' k t h47 h0 h2 h4 TK my;simp only[Kv,Aj];rw[h47]
  refine AF (λh=>?_) (λh=>?_)
  ·simp only[de,GL];exact Gd false _ _ (k0.trans k) t (by simp only[AG,↓reduceIte]) (TK h).symm
  ·obtain⟨i,h7,hi,s,hs,hm⟩:=my h;have hic:=FT hi;have hse:s=c[i]:=by rw[ck hic]at hs;cases hs;rfl
   have RZ:BC c x size=!CY x.AO.length λk=>match x.AO[k]? with
     |some n=>!DN (BR c i k) n size
     |none=>false:=by
    unfold BC;rw[hi];simp only[hs,hm,aa4]
   simp only[de,Aj];refine CX (λk e ds W'=>ds=[]∧∃j:Nat,Kp W0 W'∧Ai W'∧e 0=v0∧e 2=.int .i64 size∧e 4=.pointer (some ⟨W.sz,0,none⟩)∧e 7=.int .i64 i∧e 8=.int .i64 j∧j≤x.AO.length∧k=x.AO.length-j∧∀m n,m<j→x.AO[m]?=some n→DN (BR c i m) n size=true) x.AO.length ⟨rfl,0,k,t,h0,h2,h4,h7,rfl,by omega,by omega,by omega⟩ ?_;rintro k e ds W' ⟨rfl,j,k',t',h0,h2,h4,h7,h8,hj,rfl,A5⟩;rw[ABc,h0,h2,h4,h7,h8];have QW:Ab 5 (EI W') v0 c:=qz.imp λ_ _ _ hr=>hr.kp t0 k';have XE:W'.cell W.sz 1=some vv:=k'.cell t0 Rz;have ID:Ab 1 (F9 W') vv x.AO:=AC6.imp λ_ _ _ hr=>hr.kp ht (k0.trans k');obtain⟨a,cap,rfl,Ah⟩:=ID;simp only[EF,AA];rw[AH Ww (a:=⟨W.sz,0+1,none⟩) XE];simp only[AA,AQ J9,AP]
   refine AF (λh=>?_) (λh=>?_)
   ·have Ad:j<x.AO.length:=by simpa using h
    have bo:=ck Ad;obtain⟨p,rfl,hp,hb1,UY⟩:=Ah j _ bo;rw[AY J9 s3 Ad];simp only[AA];rw[AH a3 (a:=⟨p.block,p.off+j*1,none⟩) hp];simp only[AA]
    have hkj:c[i].elem=0→j<(AX c i).length:=by
     intro he;subst hse;unfold Et at hm;rw[aad (by simp[he])]at hm;have:=of_decide_eq_true hm;omega
    have DU:∀(b:Bool) (e:Env) W',Kp W0 W'→Ai W'→e 0=v0→e 2=.int .i64 size→e 4=.pointer (some ⟨W.sz,0,none⟩)→e 7=.int .i64 i→e 8=.int .i64 j→e 88=.bool b→b=!DN (BR c i j) x.AO[j] size→
      (FZ none (EB (λk e ds W'=>ds=[]∧∃j:Nat,Kp W0 W'∧Ai W'∧e 0=v0∧e 2=.int .i64 size∧e 4=.pointer (some ⟨W.sz,0,none⟩)∧e 7=.int .i64 i∧e 8=.int .i64 j∧j≤x.AO.length∧k=x.AO.length-j∧∀m n,m<j→x.AO[m]?=some n→DN (BR c i m) n size=true) (x.AO.length-j) (CB 0 (Xr none K)))) .normal e [] W':=by
     intro b e W1 k1 t1 g0 g2 g4 g7 g8 g88 hb;simp only[FZ,Aj];rw[g88]
     refine AF (λMI=>?_) (λMI=>?_)
     ·simp only[Oz,GL,kK,Ib,Xr];refine Gd false _ _ (k0.trans k1) t1 (by simp only[AG,↓reduceIte]) ?_;rw[RZ]
      symm
      rw[abB];exact Bi Ad (by rw[bo];simp only;rw[←hb,MI])
     ·simp only[Oz,Aj,g8,AK,AA,Oo]
      refine⟨x.AO.length-(j+1),by omega,trivial,j+1,k1,t1,?_,?_,?_,?_,?_,Ad,rfl,λm n hmn Ht=>?_⟩
      ·simp only[AG,AJ,Nat.reduceEqDiff,↓reduceIte,g0]
      ·simp only[AG,AJ,Nat.reduceEqDiff,↓reduceIte,g2]
      ·simp only[AG,AJ,Nat.reduceEqDiff,↓reduceIte,g4]
      ·simp only[AG,AJ,Nat.reduceEqDiff,↓reduceIte,g7]
      ·simp only[AG,↓reduceIte];rw[wrap64 (by omega) (by omega)];rfl
      ·rcases aap.1 hmn with h2|rfl
       ·exact A5 m n h2 Ht
       ·rw[bo]at Ht;cases Ht;rw[MI]at hb
        simpa using hb
    have leaf:∀(b:Bool) (e1:Env) W1,Kp W0 W1→Ai W1→e1 0=v0∧e1 2=.int .i64 size∧e1 4=.pointer (some ⟨W.sz,0,none⟩)∧e1 7=.int .i64 i∧e1 8=.int .i64 j∧e1 88=.bool b→b=!DN (BR c i j) x.AO[j] size→_:=λb e1 W1 k1 t1 ⟨g0,g2,g4,g7,g8,g88⟩ hb=>DU b e1 W1 k1 t1 g0 g2 g4 g7 g8 g88 hb
    have second:∀W1,Kp W' W1→Ai W1→Ac prog Bs 70 [v0,.int .i64 i,.int .i64 j] W1 (ib (.int .u8 (BR c i j)) W1):=λW1 k1 t1=>
     gO t1 (QW.imp λ_ _ _ hr=>hr.kp t' k1) hlen hf hic hkj
    refine JA (second W' (.refl _) t') λW1 k1 t1=>?_;simp only[BD,AA]
    refine AF (λh1=>?_) (λh1=>?_)
    ·simp only[AP,Ae,AA]
     refine AF (λh3=>?_) (λh3=>?_)
     ·refine leaf true _ W1 (k'.trans k1) t1 ?_ (by simp[DN,h1,h3]);simp only[AG,AJ,Nat.reduceEqDiff,↓reduceIte,h0,h2,h4,h7,h8,and_self]
     ·refine AF (λh5=>?_) (λh5=>?_)
      ·refine leaf true _ W1 (k'.trans k1) t1 ?_ (by simp[DN,h1,h3,h5]);simp only[AG,AJ,Nat.reduceEqDiff,↓reduceIte,h0,h2,h4,h7,h8,and_self]
      ·refine JA (second W1 k1 t1) λW2 k2 t2=>?_;have k3:=(k'.trans k1).trans k2;have bD:BR c i j=1:=by simpa using h1
       simp only[BD,AA,bD,Int.reduceBEq,AT];refine leaf false _ W2 k3 t2 ?_ (by simp[DN,bD,h3,h5]);simp only[AG,AJ,Nat.reduceEqDiff,↓reduceIte,h0,h2,h4,h7,h8,and_self]
    ·refine JA (second W1 k1 t1) λW2 k2 t2=>?_;have k3:=(k'.trans k1).trans k2;simp only[BD,AA]
     refine AF (λh3=>?_) (λh3=>?_)
     ·simp only[AP,Ae,AA]
      refine AF (λh5=>?_) (λh5=>?_)
      ·refine leaf true _ W2 k3 t2 ?_ (by simp[DN,h1,h3,h5]);simp only[AG,AJ,Nat.reduceEqDiff,↓reduceIte,h0,h2,h4,h7,h8,and_self]
      ·refine leaf (decide (x.AO[j]>size)) _ W2 k3 t2 ?_ (by simp[DN,h1,h3,h5]);simp only[AG,AJ,Nat.reduceEqDiff,↓reduceIte,h0,h2,h4,h7,h8,and_self]
     ·refine leaf false _ W2 k3 t2 ?_ (by simp[DN,h1,h3]);simp only[AG,AJ,Nat.reduceEqDiff,↓reduceIte,h0,h2,h4,h7,h8,and_self]
   ·have GZ:j=x.AO.length:=by have:¬j<x.AO.length:=(by simpa using h);omega
    subst GZ;simp only[M7,Er,aar,Xr,Aj];refine Gd true _ _ (k0.trans k') t' (by simp only[AG,↓reduceIte]) ?_
    rw[RZ,CG λm hm=>?_]
    ·rfl
    ·have:=ck hm;rw[this];simp only;rw[A5 m _ hm this];rfl
 have leaf:∀(b:Bool) (e:Env) W',Kp W0 W'→Ai W'→e 47=.bool b∧e 0=v0∧e 2=.int .i64 size∧e 4=.pointer (some ⟨W.sz,0,none⟩)→
   (b=true→BC c x size=false)→(b=false→∃i,e 7=.int .i64 (i:Nat)∧A3 c x.type=some i∧∃s,c[i]?=some s∧Et c i s x.AO.length=true)→(Kv none K) .normal e [] W':=λb e W' k t ⟨g47,g0,g2,g4⟩=>Ef b e W' k t g47 g0 g2 g4
 simp only[AP,AA]
 cases hi:A3 c x.type with
 |none=>
  rw[RY hi];refine AF (λh=>?_) (λh=>by simp at h);refine⟨trivial,trivial,leaf true _ W0 (.refl _) t0 ?_ (λ_=>by unfold BC;rw[hi]) (λh=>by cases h)⟩;simp only[AG,AJ,Lc,Nat.reduceEqDiff,↓reduceIte,abk,aa3,aaX,and_self]
 | some i=>
  rw[Ni hi];have hic:=FT hi;have hs:=ck hic;refine AF (λh=>by have:=of_decide_eq_true h;omega) (λh=>?_)
  have D8:Et c i c[i] x.AO.length=false→BC c x size=false:=λh=>by
   unfold BC;rw[hi];simp only[hs,h,abH]
  obtain⟨a,cap,rfl,Ah⟩:=qz;obtain⟨p,rfl,hp⟩:=Ah i _ hs;obtain⟨a2,Wx,rfl,hvc⟩:=AC6;rw[AY UG WQ hic];simp only[AA,Ko,EF];have sE:ld prog 5 (.pointer (some ⟨p.block,p.off+i*5+3,none⟩)) W0=some (.int .u8 c[i].elem):=AH a5 (a:=⟨p.block,p.off+i*5+3,none⟩) hp.elem;have XE:∀W1,Kp W0 W1→ld prog 40 (.pointer (some ⟨W.sz,0+1,none⟩)) W1=some (.slice a2 x.AO.length Wx):=λW1 k1=>AH Ww (a:=⟨W.sz,0+1,none⟩) (k1.cell t0 Rz);rw[sE,XE W0 (.refl _)];simp only[AA,AQ J9,BX,Ae,BD]
  refine AF (λhe=>?_) (λhe=>?_)
  ·have he':c[i].elem≠0:=by simpa using he
   refine AF (λhg=>?_) (λhg=>?_)
   ·refine⟨by simp only[and_self],trivial,leaf true _ W0 (.refl _) t0 ?_ (λ_=>D8 ?_) (λh=>by cases h)⟩
    ·simp only[AG,AJ,Lc,Nat.reduceEqDiff,↓reduceIte,abk,aa3,aaX,and_self]
    ·unfold Et;rw[aae he'];have:=of_decide_eq_true hg;exact decide_eq_false (by omega)
   ·have he0:(c[i].elem==0)=false:=by simpa using he'
    rw[he0];simp only[AT]
    refine⟨by simp only[and_self],trivial,leaf false _ W0 (.refl _) t0 ?_ (λh=>by cases h) (λ_=>⟨i,?_,hi,_,hs,?_⟩)⟩
    ·simp only[AG,AJ,Lc,Nat.reduceEqDiff,↓reduceIte,abk,aa3,aaX,and_self]
    ·simp only[AG,Nat.reduceEqDiff,↓reduceIte]
    ·unfold Et;rw[aae he'];have:=of_decide_eq_false hg;exact decide_eq_true (by omega)
  ·have he':c[i].elem=0:=by simpa using he
   have he0:(c[i].elem==0)=true:=by simp[he']
   rw[he0];simp only[Af];have ALA:Ab 5 (EI W0) (.slice (some p) c.length cap) c:=⟨_,_,rfl,Ah⟩
   refine(VA t0 ALA hlen hf hic).mono λen W1 ⟨k1,t1,vo,Hx,ho,hn⟩=>?_;subst Hx;have O2:(De (AX c i)).length=(AX c i).length*1:=by simp[De]
   simp only[Di,Hu LS ho (by omega) O2,AA,BX]
   refine⟨by simp only[XE _ k1,and_self],trivial,leaf (((x.AO.length:Int) !=((AX c i).length:Nat))) _ W1 k1 t1 ?_ (λh=>D8 ?_) (λh=>⟨i,?_,hi,_,hs,?_⟩)⟩
   ·simp only[AG,AJ,Lc,Nat.reduceEqDiff,↓reduceIte,abk,aa3,aaX,and_self]
   ·unfold Et;rw[aad (by simp[he'])];have:(x.AO.length:Int)≠(AX c i).length:=by simpa using h
    exact decide_eq_false (by omega)
   ·simp only[AG,Nat.reduceEqDiff,↓reduceIte]
   ·unfold Et;rw[aad (by simp[he'])];have:(x.AO.length:Int)=(AX c i).length:=by simpa using h
    exact decide_eq_true (by omega)
theorem uW{v0 v1:Value}{c:List Aq}{h:List CD}{W:CW}(ht:Ai W)(hc:Ab 5 (EI W) v0 c)(hlen:c.length<200)(hf:∀x,x∈c→x.fields.length≤100)(hh:Ab 2 (G2 W) v1 h)(hhl:h.length<100000)(hv:∀x,x∈h→x.AO.length<1000000) :
  Ac prog Bs 94 [v0,v1] W (ib (.int .i64 (FB c h)) W):=by
 refine AIi ?_;rw[AIh];obtain⟨a,cap,rfl,Ah⟩:=hh;simp only[AQ M',AA,Ae];unfold FB
 refine AF (λhg=>?_) (λhg=>?_)
 ·rw[VC];rw[aae (by have:=of_decide_eq_true hg;omega)];exact⟨by simp only[AG,↓reduceIte],.refl _,ht⟩
 ·rw [aad (by have:=of_decide_eq_false hg;omega)];refine CX (λk e ds W'=>ds=[]∧∃j:Nat,Kp W W'∧Ai W'∧e 0=v0∧e 1=.slice a h.length cap∧e 5=.int .i64 j∧j≤h.length∧k=h.length-j∧∀m x,m<j→h[m]?=some x→(!BC c x h.length)=false) h.length ⟨rfl,0,.refl _,ht,rfl,rfl,rfl,by omega,by omega,by omega⟩ ?_;rintro k e ds W' ⟨rfl,j,k',t',h0,h1,h5,hj,rfl,A5⟩;rw[AEi,h0,h1,h5];simp only[AQ M',AA,AP]
  refine AF (λAd=>?_) (λAd=>?_)
  ·have Ad:j<h.length:=by simpa using Ad
   have hx:=ck Ad;obtain⟨p,rfl,hr⟩:=Ah j _ hx;obtain⟨u,hu,ha⟩:=(hr.kp ht k').ld;rw[AY M' IH Ad];simp only[AA,hu];refine JA (y8 t' (hc.imp λ_ _ _ hr=>hr.kp ht k') hlen hf ha (hv _ (aaY _)) (by omega)) λW1 k1 t1=>?_;simp only[AZ,AA]
   refine AF (λhb=>?_) (λhb=>?_)
   ·simp only[kf,GL,Ib,Oo,kK,oq,VC];refine⟨?_,k'.trans k1,t1⟩;simp only[AG,↓reduceIte,JQ Ad hb A5]
   ·simp only[kf,Aj,Oo];simp only[AG,AJ,Nat.reduceEqDiff,↓reduceIte,h0,h1,h5,AK,AA]
    refine⟨h.length-(j+1),by omega,trivial,j+1,k'.trans k1,t1,trivial,trivial,?_,Ad,rfl,λm x hm Ht=>?_⟩
    ·rw[wrap64 (by omega) (by omega)];rfl
    ·rcases aap.1 hm with h2|rfl
     ·exact A5 m x h2 Ht
     ·rw[hx]at Ht;cases Ht;exact hb
  ·have GZ:j=h.length:=by have:¬j<h.length:=(by simpa using Ad);omega
   subst GZ;simp only[Aj,LM,Er,M7,aar,oq,VC];refine⟨?_,k',t'⟩;simp only[AG,↓reduceIte,JR λj x hj hx=>A5 j x (by omega) hx]
def MJ(mp:List Int)(k:Nat)(n:Int):Bool:=CY k λm=>decide (mp[m]?=some n)
def Fg(fr to:List Int)(mp:List Int)(k:Nat):Bool:=match mp[k]? with
 |none=>true
 |some n=>decide (n<0)||decide (n≥fr.length)||decide (fr[n.toNat]?≠to[k]?)||MJ mp k n
def FC(l:List DD)(s:DD)(i k:Nat):Bool:=match l[k]? with
 |none=>false
 |some x=>decide (x.type=s.to)||(decide (k<i)&&decide (x.to=s.to))
def elemAt(c:List Aq)(t:Nat):Int:=match c[t]? with
 |some x=>x.elem
 |none=>0
def GW(l:List DD)(s:DD):Nat→Bool
 |0=>false
 |i+1=>match l[i]? with
  |some x=>!HH (sb x.type) (sb s.type)
  |none=>false
def HE(c:List Aq)(l:List DD)(i:Nat):Bool:=match l[i]? with
 |none=>true
 |some s=>match A3 c s.type,A3 c s.to with
  |some t,some a=>(decide (elemAt c t≠0)||decide (elemAt c a≠0)||GW l s i)||(CY l.length (FC l s i)||(decide (s.map.length≠(AX c a).length)||CY (AX c a).length (Fg (AX c t) (AX c a) s.map)))
  |_,_=>true
def Be(c:List Aq)(l:List DD):Bool:=decide (l.length≤20)&& !CY l.length (HE c l)
theorem Nj(W:CW){b o:Nat}{x:DD}(h:Hs W b o x):ld prog 9 (.pointer (some ⟨b,o,none⟩)) W=some (.string x.type)∧ld prog 9 (.pointer (some ⟨b,o+1,none⟩)) W=some (.string x.to) :=
 ⟨AH a9 (a:=⟨b,o,none⟩) h.type,AH a9 (a:=⟨b,o+1,none⟩) h.to⟩
theorem O3{W:CW}{b o:Nat}{x:DD}(h:Hs W b o x):∃v,ld prog 40 (.pointer (some ⟨b,o+2,none⟩)) W=some v∧Ab 1 (F9 W) v x.map:=by
 obtain⟨v,h1,h2,_⟩:=h.map;exact⟨v,AH Ww (a:=⟨b,o+2,none⟩) h1,h2⟩
theorem ABd{ro:Option Nat}{e:Env}{ds:List Deferred}{W:CW}{K:AD}{v1:Value}{l:List DD}{i k:Nat}{s:DD}{n:Int}(hl:Ab 3 (Hs W) v1 l)(hs:l[i]?=some s)(h1:e 1=v1)(h5:e 5=.int .i64 i)(Xu:e 11=.int .i64 k)(df:e 12=.int .i64 n)(hk:k≤s.map.length)(hkb:k<100000)
  (MK:MJ s.map k n=true→∀e',e' 4=.bool false→K .ret e' ds W) (G_:MJ s.map k n=false→∀e',A9 [0,1,5,6,7,8,9,10,11] e e'→K (.exit 6) e' ds W) :
  FX prog Bs ro 99 175 (.loop (D6 prog 99 3)) (Env.of e [(13,.int .i64 0)]) ds W K:=by
 refine C2 (λm e' EK W'=>EK=ds∧W'=W∧A9 [0,1,5,6,7,8,9,10,11,12] e e'∧e' 13=.int .i64 m∧∀j,j<m→decide (s.map[j]?=some n)=false) k ⟨rfl,rfl,.put rfl,rfl,by omega⟩ ?_;rintro m e' EK W' hm ⟨rfl,rfl,hA,y9,A5⟩;rw[AEm,y9,(hA 11 (by decide)).trans Xu,(hA 1 (by decide)).trans h1,(hA 5 (by decide)).trans h5,(hA 12 (by decide)).trans df];simp only[AP,AA]
 refine Eh (λAd=>?_) (λGZ=>?_)
 ·obtain⟨a,cap,rfl,Ah⟩:=hl;obtain⟨p,rfl,hr⟩:=Ah i _ hs;obtain⟨vm,bB,a2,Wx,rfl,Ze⟩:=O3 hr;have wc:m<s.map.length:=by omega
  have hx:=ck wc;obtain⟨q,rfl,hq⟩:=Ze m _ hx;rw[AY Vt ZR (dx.1 hs).1];simp only[AA,Kr,bB];rw[AY J9 s3 wc];simp only[AA];rw[AH a3 (a:=⟨q.block,q.off+m*1,none⟩) hq.1];simp only[AA,BD]
  refine AF (λhb=>?_) (λhb=>?_)
  ·simp only[dd,GL,FH,Ng];exact MK (Bi Ad (by rw[hx];simpa using hb)) _ (by simp only[AG,↓reduceIte])
  ·simp only[dd,Aj,FH];simp only[AG,AJ,Nat.reduceEqDiff,↓reduceIte,y9,AK,AA];refine⟨Ad,trivial,trivial,(hA.trans (.put rfl)).trans (.put rfl),by rw[CE (by omega)],E_ A5 ?_⟩;rw[hx];simpa using hb
 ·simp only[Jp];exact G_ (CG λj hj=>A5 j (by omega)) _ λt ht=>(A9.put rfl t (by exact ht)).trans (hA t (by revert t;decide))
theorem uX{ro:Option Nat}{e:Env}{ds:List Deferred}{W:CW}{K:AD}{v1:Value}{l:List DD}{i:Nat}{s:DD}(hl:Ab 3 (Hs W) v1 l)(hs:l[i]?=some s)(h1:e 1=v1)(h5:e 5=.int .i64 i)(hlb:l.length<100000)
  (MK:CY l.length (FC l s i)=true→∀e',e' 4=.bool false→K .ret e' ds W) (G_:CY l.length (FC l s i)=false→∀e',A9 [0,1,5,6,7] e e'→K (.exit 2) e' ds W) :
  FX prog Bs ro 99 175 (.loop (D6 prog 99 1)) (Env.of e [(8,.int .i64 0)]) ds W K:=by
 refine C2 (λm e' EK W'=>EK=ds∧W'=W∧A9 [0,1,5,6,7] e e'∧e' 8=.int .i64 m∧∀j,j<m→FC l s i j=false) l.length ⟨rfl,rfl,.put rfl,rfl,by omega⟩ ?_;rintro m e' EK W' hm ⟨rfl,rfl,hA,h8,A5⟩;obtain⟨a,cap,rfl,Ah⟩:=hl;rw[AEk,h8,(hA 1 (by decide)).trans h1,(hA 5 (by decide)).trans h5];simp only[AQ Vt,AP,AA];have La:=(dx.1 hs).1
 refine Eh (λAd=>?_) (λGZ=>?_)
 ·obtain⟨p,rfl,hr⟩:=Ah i _ hs;have hx:=ck Ad;obtain⟨p',ic,hrm⟩:=Ah m _ hx
  cases ic
  have hnb:FC l s i m=(decide (l[m].type=s.to)||(decide (m<i)&&decide (l[m].to=s.to))):=by unfold FC;rw[hx]
  rw[AY Vt ZR La,AY Vt ZR Ad];obtain⟨r1,r2⟩:=Nj _ hr;obtain⟨r3,r4⟩:=Nj _ hrm;simp only[AA,Ic,Kq,r2,r3,r4,H_,G1]
  have leaf:∀(b:Bool) (e1:Env),A9 [0,1,5,6,7,8] e' e1→e1 111=.bool b→b=FC l s i m→(TH ro (G4 (λm e' ou ov=>ou=EK∧ov=W'∧A9 [0,1,5,6,7] e e'∧e' 8=.int .i64 m∧∀j,j<m→FC l s i j=false) m l.length K)) .normal e1 EK W':=by
   intro b e1 SX ALB hb;simp only[TH,Aj,ALB]
   refine AF (λMI=>?_) (λMI=>?_)
   ·simp only[dZ,GL,FH,Ng];exact MK (Bi Ad (by rw[←hb,MI])) _ (by simp only[AG,↓reduceIte])
   ·simp only[dZ,Aj,FH,(SX 8 (by decide)).trans h8,AK,AA];refine⟨Ad,trivial,trivial,(hA.trans λt ht=>SX t (by revert t;decide)).trans (.put rfl),?_,E_ A5 (by rw[←hb,MI])⟩;simp only[AG,↓reduceIte];rw[CE (by omega)]
  refine AF (λhb=>?_) (λhb=>?_)
  ·exact⟨by simp only[and_self],trivial,leaf true _ (.put rfl) (by simp only[AG,↓reduceIte]) (by rw[hnb,hb];rfl)⟩
  ·refine Eh (λYu=>?_) (λABe=>?_)
   ·exact⟨by simp only[and_self],trivial,leaf (decide (l[m].to=s.to)) _ (.put rfl) (by simp only[AG,↓reduceIte]) (by rw[hnb,hb,decide_eq_true Yu];rfl)⟩
   ·exact⟨by simp only[and_self],trivial,leaf false _ (.put rfl) (by simp only[AG,↓reduceIte]) (by rw[hnb,hb,decide_eq_false (by omega)];rfl)⟩
 ·simp only[Jp];exact G_ (CG λj hj=>A5 j (by omega)) _ (hA.trans (.put rfl))
def RKd(W:CW)(b o:Nat)(x:Int):Prop:=W.cell b o=some (.int .u8 x)
theorem ABf{ro:Option Nat}{e:Env}{ds:List Deferred}{W:CW}{K:AD}{v1 vf vt:Value}{l:List DD}{i:Nat}{s:DD}{fr to:List Int}(hl:Ab 3 (Hs W) v1 l)(hs:l[i]?=some s)(h1:e 1=v1)(h5:e 5=.int .i64 i)(h9:e 9=vf)(OI:e 10=vt)(hf:Ab 1 (RKd W) vf fr)(ht:Ab 1 (RKd W) vt to)(hmt:s.map.length=to.length)(hlb:to.length<100000)
  (MK:CY to.length (Fg fr to s.map)=true→∀e',e' 4=.bool false→K .ret e' ds W) (G_:CY to.length (Fg fr to s.map)=false→∀e',A9 [0,1,5] e e'→K (.exit 4) e' ds W) :
  FX prog Bs ro 99 175 (.loop (D6 prog 99 2)) (Env.of e [(11,.int .i64 0)]) ds W K:=by
 refine C2 (λm e' EK W'=>EK=ds∧W'=W∧A9 [0,1,5,9,10] e e'∧e' 11=.int .i64 m∧∀j,j<m→Fg fr to s.map j=false) to.length ⟨rfl,rfl,.put rfl,rfl,by omega⟩ ?_;rintro m e' EK W' hm ⟨rfl,rfl,hA,Xu,A5⟩;have MV:=hl;obtain⟨a,cap,rfl,Ah⟩:=MV;obtain⟨af,ow,rfl,hfc⟩:=hf;obtain⟨BY,ANc,rfl,y_⟩:=ht;have g1:=(hA 1 (by decide)).trans h1;have g5:=(hA 5 (by decide)).trans h5;rw[AEl,Xu,g1,g5,(hA 9 (by decide)).trans h9,(hA 10 (by decide)).trans OI];simp only[AQ LS,AP,AA];have La:=(dx.1 hs).1
 refine Eh (λAd=>?_) (λGZ=>?_)
 ·obtain⟨p,rfl,hr⟩:=Ah i _ hs;obtain⟨vm,bB,a2,Wx,rfl,Ze⟩:=O3 hr;have wc:m<s.map.length:=by omega
  have hx:=ck wc;have hxt:=ck Ad;obtain⟨q,rfl,hq⟩:=Ze m _ hx;obtain⟨qt,rfl,hqt⟩:=y_ m _ hxt;rw[AY Vt ZR La];simp only[AA,Kr,bB];rw[AY J9 s3 wc];simp only[AA];rw[AH a3 (a:=⟨q.block,q.off+m*1,none⟩) hq.1];simp only[AA,AP,Bt];have hmb:Fg fr to s.map m=(decide (s.map[m]<0)||decide (s.map[m]≥fr.length)||decide (fr[s.map[m].toNat]?≠to[m]?)||MJ s.map m s.map[m]):=by unfold Fg;rw[hx]
  have leaf:∀(b:Bool) (e1:Env),A9 [0,1,5,9,10,11] e' e1→e1 159=.bool b→e1 12=.int .i64 s.map[m]→(b=true→Fg fr to s.map m=true)→(b=false→Fg fr to s.map m=MJ s.map m s.map[m])→(TI ro (G4 (λm e' ou ov=>ou=EK∧ov=W'∧A9 [0,1,5,9,10] e e'∧e' 11=.int .i64 m∧∀j,j<m→Fg fr to s.map j=false) m to.length K)) .normal e1 EK W':=by
   intro b e1 SX ALC df TK my;simp only[TI,Aj,ALC]
   refine AF (λMI=>?_) (λMI=>?_)
   ·simp only[dc,GL,Ib];exact MK (Bi Ad (TK MI)) _ (by simp only[AG,↓reduceIte])
   ·simp only[dc,Aj];have zB:=my MI
    refine ABd hl hs ((SX 1 (by decide)).trans g1) ((SX 5 (by decide)).trans g5) ((SX 11 (by decide)).trans Xu) df (by omega) (by omega) (λhd e2 h4=>?_) (λhd e2 M8=>?_)
    ·simp only[GL,Ib,FH,Ng,db];exact MK (Bi Ad (by rw[zB,hd])) _ h4
    ·simp only[Aj,LM,wy,Er,FH,Jp,aar,db,(M8 11 (by decide)).trans ((SX 11 (by decide)).trans Xu),AK,AA];refine⟨Ad,trivial,trivial,((hA.trans λt ht=>SX t (by revert t;decide)).trans λt ht=>M8 t (by revert t;decide)).trans (.put rfl),?_,E_ A5 (by rw[zB,hd])⟩;simp only[AG,↓reduceIte];rw[CE (by omega)]
  refine AF (λhb=>?_) (λhb=>?_)
  ·exact⟨by trivial,trivial,leaf true _ (.put rfl) (by simp only[AG,↓reduceIte]) (by simp only[AG,Nat.reduceEqDiff,↓reduceIte]) (λ_=>by rw[hmb,hb];rfl) (λh=>by cases h)⟩
  ·have hb':=of_decide_eq_false hb
   refine AF (λUY=>?_) (λUY=>?_)
   ·exact⟨by simp only[and_self],trivial,leaf true _ (.put rfl) (by simp only[AG,↓reduceIte]) (by simp only[AG,Nat.reduceEqDiff,↓reduceIte]) (λ_=>by rw[hmb,hb,UY];rfl) (λh=>by cases h)⟩
   ·have ALD:=of_decide_eq_false UY;have hn:s.map[m].toNat<fr.length:=by omega
    have hxf:=ck hn;obtain⟨qf,rfl,hqf⟩:=hfc _ _ hxf;have e1:(Value.int IntKind.i64 s.map[m])=.int .i64 ((s.map[m].toNat:Nat):Int):=by rw[Int.toNat_of_nonneg (by omega)]
    have bD:UK prog 29 (.slice (some qf) fr.length ow) (.int .i64 s.map[m])=some (.pointer (some ⟨qf.block,qf.off+s.map[m].toNat*1,none⟩)):=by rw[e1];exact AY LS s5 hn
    rw[bD];simp only[AA];rw[AH a5 (a:=⟨qf.block,qf.off+s.map[m].toNat*1,none⟩) hqf,AY LS s5 Ad];simp only[AA];rw[AH a5 (a:=⟨qt.block,qt.off+m*1,none⟩) hqt];simp only[AA,BX]
    refine⟨by simp only[and_self],trivial,leaf (fr[s.map[m].toNat] !=to[m]) _ (.put rfl) (by simp only[AG,↓reduceIte]) (by simp only[AG,Nat.reduceEqDiff,↓reduceIte]) (λh=>?_) (λh=>?_)⟩
    ·have h:fr[s.map[m].toNat]≠to[m]:=by simpa using h
     rw[hmb,hxf,hxt,decide_eq_true (show some fr[s.map[m].toNat]≠some to[m] by simpa using h)];simp
    ·have h:fr[s.map[m].toNat]=to[m]:=by simpa using h
     rw[hmb,hb,UY,hxf,hxt,decide_eq_false (show¬some fr[s.map[m].toNat]≠some to[m] by simp[h])];rfl
 ·simp only[Jp];exact G_ (CG λj hj=>A5 j (by omega)) _ (λt ht=>(A9.put rfl t (by exact ht)).trans (hA t (by revert t;decide)))
theorem kg{v0 v1:Value}{c:List Aq}{l:List DD}{W:CW}(ht:Ai W)(hc:Ab 5 (EI W) v0 c)(hlen:c.length<200)(hf:∀x,x∈c→x.fields.length≤100)(hl:Ab 3 (Hs W) v1 l)(OU:l.length<100000) :
  Ac prog Bs 99 [v0,v1] W (ib (.bool (Be c l)) W):=by
 refine AIk ?_;rw[AIj];have hl0:=hl;obtain⟨a,cap,rfl,_⟩:=hl0;simp only[AQ Vt,AA,Ae];generalize FI:AM prog Tryz.f99 (ib (.bool (Be c l)) W)=K
 have Gd:∀(b:Bool) (e:Env) W',Kp W W'→Ai W'→e 4=.bool b→b=Be c l→K .ret e [] W':=by
  intro b e W' k t h6 hb;rw[←FI,uV,h6,hb];exact⟨rfl,k,t⟩
 refine AF (λhg=>?_) (λhg=>?_)
 ·refine Gd false _ _ (.refl _) ht (by simp only[AG,↓reduceIte]) ?_;have:=of_decide_eq_true hg;unfold Be;rw[decide_eq_false (by omega)];rfl
 ·have hg:=of_decide_eq_false hg
  have Js:Be c l=!CY l.length (HE c l):=by
   unfold Be;rw[decide_eq_true (by omega)];rfl
  refine C2 (λi e ds W'=>ds=[]∧Kp W W'∧Ai W'∧e 0=v0∧e 1=.slice a l.length cap∧e 5=.int .i64 i∧∀j,j<i→HE c l j=false) l.length ⟨rfl,.refl _,ht,rfl,rfl,rfl,by omega⟩ ?_;rintro i e ds W' hi ⟨rfl,k',t',h0,h1,h5,A5⟩;have V6:Ab 3 (Hs W') (.slice a l.length cap) l:=hl.imp λ_ _ _ hr=>hr.kp ht k';have QW:Ab 5 (EI W') v0 c:=hc.imp λ_ _ _ hr=>hr.kp ht k';rw[AEj,h0,h1,h5];simp only[AQ Vt,AA,AP]
  refine Eh (λAd=>?_) (λGZ=>?_)
  ·have hx:=ck Ad;have MV:=V6;obtain⟨a',cap',ha,Ah⟩:=MV
   cases ha
   obtain⟨p,rfl,hr⟩:=Ah i _ hx;obtain⟨r1,r2⟩:=Nj _ hr;obtain⟨vm,bB,Ze⟩:=O3 hr;rw[AY Vt ZR Ad];simp only[AA,Ic,Kq,r1];refine As (Ks QW (by omega)) ?_;simp only[AA,r2];refine As (Ks QW (by omega)) ?_
   have sF:HE c l i=true→∀e1 W1,Kp W W1→Ai W1→e1 4=.bool false→K .ret e1 [] W1:=λhb e1 W1 k1 t1 h4=>
    Gd false e1 W1 k1 t1 h4 (by rw[Js,Bi Ad hb];rfl)
   have leaf:∀(b:Bool) (e1:Env),A9 [0,1,5] e e1→e1 76=.bool b→(b=true→HE c l i=true)→
     (b=false→∃t a,e1 6=.int .i64 (t:Nat)∧e1 7=.int .i64 (a:Nat)∧t<c.length∧a<c.length∧HE c l i=(CY l.length (FC l l[i] i)||(decide (l[i].map.length≠(AX c a).length)||CY (AX c a).length (Fg (AX c t) (AX c a) l[i].map))))→
     (Ly none (G4 (λi e ds W'=>ds=[]∧Kp W W'∧Ai W'∧e 0=v0∧e 1=.slice (some p) l.length cap∧e 5=.int .i64 i∧∀j,j<i→HE c l j=false) i l.length (CB 0 (RX none K)))) .normal e1 [] W':=by
    intro b e1 hA h76 TK my;simp only[Ly,Aj,h76]
    refine AF (λhb=>?_) (λhb=>?_)
    ·simp only[dY,GL,Ib,FH,Ng,Oy,RX];exact sF (TK hb) _ W' k' t' (by simp only[AG,↓reduceIte])
    ·obtain⟨t,aa,h6,h7,ie,wv,D8⟩:=my hb;have g0:=(hA 0 (by decide)).trans h0;have g1:=(hA 1 (by decide)).trans h1;have g5:=(hA 5 (by decide)).trans h5;simp only[dY,Aj]
     refine uX V6 hx g1 g5 (by omega) (λhn e2 h4=>?_) (λhn e2 M8=>?_)
     ·simp only[GL,ZQ,Ib,mq,FH,Ng,yz,dX,Oy,RX];exact sF (by rw[D8,hn];rfl) _ W' k' t' h4
     ·have g0:=(M8 0 (by decide)).trans g0;have g1:=(M8 1 (by decide)).trans g1;have g5:=(M8 5 (by decide)).trans g5;simp only[Aj,LM,Er,aar,dX,g0,g1,g5,(M8 6 (by decide)).trans h6,(M8 7 (by decide)).trans h7];refine(VA t' QW hlen hf ie).mono λen W6 ⟨k6,t6,vf,Hx,hof,me⟩=>?_;subst Hx;simp only[Di];refine(VA t6 (QW.imp λ_ _ _ hr=>hr.kp t' k6) hlen hf wv).mono λen W8 ⟨k8,t8,vt,Hx,hot,Nv⟩=>?_;subst Hx;simp only[Di];have k68:=k6.trans k8;have hl8:Ab 3 (Hs W8) (.slice (some p) l.length cap) l:=V6.imp λ_ _ _ hr=>hr.kp t' k68;have ALE:Ab 1 (RKd W8) vf (AX c t):=O1 (hof.kp t6 k8);have ALF:Ab 1 (RKd W8) vt (AX c aa):=O1 hot;have zC:=hr.kp t' k68;obtain⟨vm8,ALG,AIm⟩:=O3 zC;obtain⟨am,ANd,rfl,_⟩:=AIm;rw[AY Vt ZR Ad];simp only[AA,Kr,ALG,AQ J9];have O2:(De (AX c aa)).length=(AX c aa).length*1:=by simp[De]
      simp only[Hu LS hot (by omega) O2,AA,BX]
      refine AF (λhd=>?_) (λhd=>?_)
      ·simp only[GL,Ib,FH,Ng,Oy,RX];refine sF ?_ _ W8 (k'.trans k68) t8 (by simp only[AG,↓reduceIte]);have:(l[i].map.length:Int)≠(AX c aa).length:=by simpa using hd
       rw[D8,hn,decide_eq_true (by omega)];rfl
      ·have hd:(l[i].map.length:Int)=(AX c aa).length:=by simpa using hd
       have hd:l[i].map.length=(AX c aa).length:=by omega
       have WK:(AX c aa).length≤20100:=by unfold AX;rw[aaq];exact IA hlen hf aa
       refine ABf hl8 hx g1 g5 rfl rfl ALE ALF hd (by omega) (λhm e3 h4=>?_) (λhm e3 hA3=>?_)
       ·simp only[GL,Ib,FH,Ng,Oy,RX];exact sF (by rw[D8,hn,hd,hm];simp) _ W8 (k'.trans k68) t8 h4
       ·have q0:e3 0=v0:=(hA3 0 (by decide)).trans g0;have q1:e3 1=.slice (some p) l.length cap:=(hA3 1 (by decide)).trans g1;have q5:e3 5=.int .i64 i:=(hA3 5 (by decide)).trans g5;simp only[Aj,LM,wy,Er,FH,Jp,aar,Oy,q5,AK,AA]
        refine⟨Ad,trivial,k'.trans k68,t8,?_,?_,?_,E_ A5 (by rw[D8,hn,hm,hd];simp)⟩
        ·simp only[AG,AJ,Nat.reduceEqDiff,↓reduceIte,q0]
        ·simp only[AG,AJ,Nat.reduceEqDiff,↓reduceIte,q1]
        ·simp only[AG,↓reduceIte];rw[CE (by omega)]
   have gW:HE c l i=match A3 c l[i].type,A3 c l[i].to with
     |some t,some a=>(decide (elemAt c t≠0)||decide (elemAt c a≠0)||GW l l[i] i)||(CY l.length (FC l l[i] i)||(decide (l[i].map.length≠(AX c a).length)||CY (AX c a).length (Fg (AX c t) (AX c a) l[i].map)))
     |_,_=>true:=by first|(unfold HE;rw[hx];rfl)|(unfold HE;rw[hx])
   cases VE:A3 c l[i].type with
   |none=>
    rw[RY VE];simp only[AP,AA];refine AF (λh=>?_) (λh=>by simp at h);exact⟨trivial,trivial,leaf true _ (.put rfl) (by simp only[AG,↓reduceIte]) (λ_=>by rw[gW,VE]) (λh=>by cases h)⟩
   | some t=>
    have ie:=FT VE;rw[Ni VE];simp only[AP,AA];refine AF (λh=>by have:=of_decide_eq_true h;omega) (λh=>?_)
    cases bH:A3 c l[i].to with
    |none=>
     rw[RY bH];refine AF (λh=>?_) (λh=>by simp at h);exact⟨trivial,trivial,leaf true _ (.put rfl) (by simp only[AG,↓reduceIte]) (λ_=>by rw[gW,VE,bH]) (λh=>by cases h)⟩
    | some aa=>
     have wv:=FT bH;rw[Ni bH];rw[VE,bH]at gW;simp only at gW;refine AF (λh=>by have:=of_decide_eq_true h;omega) (λh=>?_);obtain⟨ac,ANe,rfl,Fh⟩:=QW;have hxt:=ck ie;have sG:=ck wv;obtain⟨pc,rfl,hpt⟩:=Fh t _ hxt;obtain⟨pc',ALH,hpa⟩:=Fh aa _ sG
     cases ALH
     have et:elemAt c t=c[t].elem:=by unfold elemAt;rw[hxt]
     have ea:elemAt c aa=c[aa].elem:=by unfold elemAt;rw[sG]
     rw[et,ea]at gW;rw[AY UG WQ ie,AY UG WQ wv];simp only[AA,Ko];rw[AH a5 (a:=⟨pc.block,pc.off+t*5+3,none⟩) hpt.elem,AH a5 (a:=⟨pc.block,pc.off+aa*5+3,none⟩) hpa.elem];simp only[AA,BX,Ae]
     refine AF (λhe=>?_) (λhe=>?_)
     ·have he:c[t].elem≠0:=by simpa using he
      exact⟨by simp only[and_self],trivial,leaf true _ (.put rfl) (by simp only[AG,↓reduceIte]) (λ_=>by rw[gW,decide_eq_true he];rfl) (λh=>by cases h)⟩
     ·have he:c[t].elem=0:=by simpa using he
      refine AF (λRD=>?_) (λRD=>?_)
      ·have RD:c[aa].elem≠0:=by simpa using RD
       exact⟨by simp only[and_self],trivial,leaf true _ (.put rfl) (by simp only[AG,↓reduceIte]) (λ_=>by rw[gW,decide_eq_true RD];simp) (λh=>by cases h)⟩
      ·have RD:c[aa].elem=0:=by simpa using RD
       have Y1:∀b,GW l l[i] i=b→b=false→HE c l i=(CY l.length (FC l l[i] i)||(decide (l[i].map.length≠(AX c aa).length)||CY (AX c aa).length (Fg (AX c t) (AX c aa) l[i].map))):=by
        intro b h1 h2;rw[gW,h1,h2,decide_eq_false (by simpa using he),decide_eq_false (by simpa using RD)];rfl
       cases i with
       |zero=>
        refine AF (λh=>by simp at h) (λ_=>?_);exact⟨by simp only[and_self],trivial,leaf false _ (.put rfl) (by simp only[AG,↓reduceIte]) (λh=>by cases h) (λ_=>⟨t,aa,by simp only[AG,Nat.reduceEqDiff,↓reduceIte],by simp only[AG,Nat.reduceEqDiff,↓reduceIte],ie,wv,Y1 _ rfl rfl⟩)⟩
       |succ i=>
        refine AF (λ_=>?_) (λh=>by have:=of_decide_eq_false h;omega);have bt:i<l.length:=by omega
        have sH:=ck bt;obtain⟨p',ic,hrp⟩:=Ah i _ sH
        cases ic
        obtain⟨r3,r4⟩:=Nj _ hrp;have es:((i+1:Nat):Int)-1=(i:Nat):=by omega
        simp only[Am,AA,es];rw[wrap64 (by omega) (by omega),AY Vt ZR bt];simp only[AA,Ic,r1,r3,PY];have zD:GW l l[i+1] (i+1)=!HH (sb l[i].type) (sb l[i+1].type):=by unfold GW;simp only[sH]
        exact⟨by simp only[and_self],trivial,leaf (!HH (sb l[i].type) (sb l[i+1].type)) _ (.put rfl) (by simp only[AG,↓reduceIte]) (λh=>by rw[gW,zD,h];simp) (λh=>⟨t,aa,by simp only[AG,Nat.reduceEqDiff,↓reduceIte],by simp only[AG,Nat.reduceEqDiff,↓reduceIte],ie,wv,Y1 _ zD h⟩)⟩
  ·simp only[Aj,LM,Er,Jp,aar,RX];exact Gd true _ W' k' t' (by simp only[AG,↓reduceIte]) (by rw[Js,CG λj hj=>A5 j (by omega)];rfl)
def GD(c:List Aq)(x:Aq):Nat→Bool
 |0=>false
 |i+1=>match c[i]? with
  |some y=>!HH (sb y.name) (sb x.name)
  |none=>false
def BS(c:List Aq)(i:Nat):Bool:=match c[i]? with
 |none=>true
 |some x=>(!Dt x.name||GD c x i)||((decide (x.elem≠0)&&(!Gs x.elem||decide (x.Bg≠Dd)||decide (0<x.fields.length)))||decide (20<x.fields.length))
def Mq(fs:List TB)(k:Nat)(s:ByteArray):Bool:=CY k λn=>decide ((fs[n]?).map (·.name)=some s)
def FD(fs:List TB)(k:Nat):Bool:=match fs[k]? with
 |none=>true
 |some f=>(!Dt f.name|| !Gs f.kind)||Mq fs k f.name
def Ih(c:List Aq)(i:Nat):Bool:=match Bx c c.length i with
 |none=>true
 |some _=>decide (60<(DM c i).length)||CY (DM c i).length (FD (DM c i))
def Bk(c:List Aq):Bool:=decide (c.length≤100)&&(!CY c.length (BS c)&& !CY c.length (Ih c))
def AEq(W:CW)(b o:Nat)(x:TB):Prop:=Cells W b o (U_ x)
theorem gX{W:CW}{b o:Nat}{x:TB}(h:AEq W b o x):ld prog 9 (.pointer (some ⟨b,o,none⟩)) W=some (.string x.name)∧ld prog 5 (.pointer (some ⟨b,o+1,none⟩)) W=some (.int .u8 x.kind) :=
 ⟨AH a9 (a:=⟨b,o,none⟩) (h 0 _ rfl),AH a5 (a:=⟨b,o+1,none⟩) (h 1 _ rfl)⟩
theorem ABg{ro:Option Nat}{e:Env}{ds:List Deferred}{W:CW}{K:AD}{v8:Value}{fs:List TB}{k:Nat}{f:TB}(hl:Ab 2 (AEq W) v8 fs)(hs:fs[k]?=some f)(h8:e 8=v8)(h9:e 9=.int .i64 k)(hkb:fs.length<100000)
  (MK:Mq fs k f.name=true→∀e',e' 2=.int .i64 210→K .ret e' ds W) (G_:Mq fs k f.name=false→∀e',A9 [0,5,8,9] e e'→K (.exit 6) e' ds W) :
  FX prog Bs ro 41 129 (.loop (D6 prog 41 3)) (Env.of e [(10,.int .i64 0)]) ds W K:=by
 have O2:=(dx.1 hs).1;refine C2 (λm e' EK W'=>EK=ds∧W'=W∧A9 [0,5,8,9] e e'∧e' 10=.int .i64 m∧∀j,j<m→decide ((fs[j]?).map (·.name)=some f.name)=false) k ⟨rfl,rfl,.put rfl,rfl,by omega⟩ ?_;rintro m e' EK W' hm ⟨rfl,rfl,hA,OI,A5⟩;rw[AEh,OI,(hA 9 (by decide)).trans h9,(hA 8 (by decide)).trans h8];simp only[AP,AA]
 refine Eh (λAd=>?_) (λGZ=>?_)
 ·obtain⟨a,cap,rfl,Ah⟩:=hl;obtain⟨p,rfl,hr⟩:=Ah k _ hs;have wc:m<fs.length:=by omega
  have hx:=ck wc;obtain⟨p',ic,hq⟩:=Ah m _ hx
  cases ic
  rw[AY bj s72 wc,AY bj s72 O2];simp only[AA,TD,(gX hr).1,(gX hq).1,H_,G1]
  refine⟨by simp only[and_self],trivial,AF (λhb=>?_) (λhb=>?_)⟩
  ·simp only[dU,GL,FH,Ng];refine MK (Bi Ad ?_) _ rfl;rw[hx];simpa using hb
  ·simp only[dU,Aj,FH];simp only[AG,AJ,Nat.reduceEqDiff,↓reduceIte,OI,AK,AA];refine⟨Ad,trivial,trivial,(hA.trans (.put rfl)).trans (.put rfl),by rw[CE (by omega)],E_ A5 ?_⟩;rw[hx];simpa using hb
 ·simp only[Jp];exact G_ (CG λj hj=>A5 j (by omega)) _ (hA.trans (.put rfl))
theorem zE{ro:Option Nat}{e:Env}{ds:List Deferred}{W:CW}{K:AD}{v8:Value}{fs:List TB}(hl:Ab 2 (AEq W) v8 fs)(h8:e 8=v8)(hkb:fs.length<100000)(hnm:∀f,f∈fs→f.name.size<1000)
  (MK:CY fs.length (FD fs)=true→∀e',e' 2=.int .i64 210→K .ret e' ds W) (G_:CY fs.length (FD fs)=false→∀e',A9 [0,5] e e'→K (.exit 4) e' ds W) :
  FX prog Bs ro 41 129 (.loop (D6 prog 41 2)) (Env.of e [(9,.int .i64 0)]) ds W K:=by
 refine C2 (λm e' EK W'=>EK=ds∧W'=W∧A9 [0,5,8] e e'∧e' 9=.int .i64 m∧∀j,j<m→FD fs j=false) fs.length ⟨rfl,rfl,.put rfl,rfl,by omega⟩ ?_;rintro m e' EK W' hm ⟨rfl,rfl,hA,h9,A5⟩;have MV:=hl;obtain⟨a,cap,rfl,Ah⟩:=MV;rw[AEg,h9,(hA 8 (by decide)).trans h8];simp only[AQ bj,AP,AA]
 refine Eh (λAd=>?_) (λGZ=>?_)
 ·have hx:=ck Ad;obtain⟨p,rfl,hr⟩:=Ah m _ hx;have hfb:FD fs m=((!Dt fs[m].name|| !Gs fs[m].kind)||Mq fs m fs[m].name):=by unfold FD;rw[hx]
  rw[AY bj s72 Ad];simp only[AA,TD,XX,(gX hr).1]
  have leaf:∀(b:Bool) (e1:Env),A9 [0,5,8,9] e' e1→e1 112=.bool b→b=(!Dt fs[m].name|| !Gs fs[m].kind)→(P1 ro (G4 (λm e' ou ov=>ou=EK∧ov=W'∧A9 [0,5,8] e e'∧e' 9=.int .i64 m∧∀j,j<m→FD fs j=false) m fs.length K)) .normal e1 EK W':=by
   intro b e1 SX ALI hb;simp only[P1,Aj,ALI]
   refine AF (λMI=>?_) (λMI=>?_)
   ·simp only[dT,GL,Ib,FH,Ng,VB];exact MK (Bi Ad (by rw[hfb,←hb,MI];rfl)) _ rfl
   ·simp only[dT,Aj]
    refine ABg hl hx ((SX 8 (by decide)).trans ((hA 8 (by decide)).trans h8)) ((SX 9 (by decide)).trans h9) (by omega) (λhd e2 h4=>?_) (λhd e2 M8=>?_)
    ·simp only[GL,Ib,FH,Ng,VB];exact MK (Bi Ad (by rw[hfb,hd];simp)) _ h4
    ·simp only[Aj,LM,wy,Er,FH,Jp,aar,VB,(M8 9 (by decide)).trans ((SX 9 (by decide)).trans h9),AK,AA];refine⟨Ad,trivial,trivial,((hA.trans λt ht=>SX t (by revert t;decide)).trans λt ht=>M8 t (by revert t;decide)).trans (.put rfl),?_,E_ A5 (by rw[hfb,←hb,MI,hd];rfl)⟩;simp only[AG,↓reduceIte];rw[CE (by omega)]
  refine As (Nd (by have:=hnm _ (aaY Ad);omega)) ?_;simp only[AZ,AA]
  refine AF (λhb=>?_) (λhb=>?_)
  ·exact leaf true _ (.put rfl) rfl (by rw[hb];rfl)
  ·simp only[(gX hr).2,AA];refine As (ZU _ _) ?_;simp only[AZ,AA];exact leaf (!Gs fs[m].kind) _ (.put rfl) rfl (by rw[hb];rfl)
 ·simp only[Jp];exact G_ (CG λj hj=>A5 j (by omega)) _ (λt ht=>(A9.put rfl t (by exact ht)).trans (hA t (by revert t;decide)))
theorem wz:Is prog 48=some (.agg #[.string ⟨#[]⟩,.string ⟨#[]⟩,.slice none 0 0,.int .u8 0,.slice none 0 0]):=by kernel_rfl
theorem uY{c:List Aq}(hnm:∀x,x∈c→∀f,f∈x.fields→f.name.size<1000)(i:Nat):∀f,f∈DM c i→f.name.size<1000:=by
 intro f hf;unfold DM at hf
 split at hf
 ·obtain⟨j,_,hj⟩:=List.mem_flatMap.1 hf;unfold J' at hj
  split at hj
  ·rename_i x hx;exact hnm x (aan hx) f hj
  ·cases hj
 ·cases hf
structure QD(c:List Aq):Prop where
 len:c.length<200
 fields:∀x,x∈c→x.fields.length≤100
 name:∀x,x∈c→x.name.size<1000
 sup:∀x,x∈c→x.Bg.size<1000
 AC7:∀x,x∈c→∀f,f∈x.fields→f.name.size<1000
theorem EI.ld{W:CW}{b o:Nat}{x:Aq}(h:EI W b o x):∃vf ab lb cb,ld prog 48 (.pointer (some ⟨b,o,none⟩)) W=some (.agg [.string x.name,.string x.Bg,vf,.int .u8 x.elem,.slice ab lb cb].toArray)∧Ab 2 (U8 W) vf x.fields:=by
 obtain⟨vf,h1,h2⟩:=h.fields;obtain⟨ab,lb,cb,h3⟩:=h.binds;refine⟨vf,ab,lb,cb,DC (vs:=[.string x.name,.string x.Bg,vf,.int .u8 x.elem,.slice ab lb cb]) a48 WQ rfl (by omega) ?_,h2⟩;intro j w hj
 match j,hj with
 |0,hj=>cases hj;exact h.name
 |1,hj=>cases hj;exact h.Bg
 |2,hj=>cases hj;exact h1
 |3,hj=>cases hj;exact h.elem
 |4,hj=>cases hj;exact h3
theorem Zf(fs:List TB):(fs.flatMap U_).length=fs.length*2:=O0 LO fs
theorem kh{v0:Value}{c:List Aq}{W:CW}(ht:Ai W)(hc:Ab 5 (EI W) v0 c)(hC:QD c) :
  Ac prog Bs 41 [v0] W (ib (.int .i64 (if Bk c then 0 else 210)) W):=by
 refine AIc ?_;rw[AIb];have qz:=hc;obtain⟨a,cap,rfl,_⟩:=qz;simp only[AQ UG,AA,Ae];generalize FI:AM prog Tryz.f41 (ib (.int .i64 (if Bk c then 0 else 210)) W)=K
 have G_:∀(e:Env) W',Kp W W'→Ai W'→e 2=.int .i64 210→Bk c=false→K .ret e [] W':=by
  intro e W' k t h6 hb;rw[←FI,dV,h6,hb];exact⟨rfl,k,t⟩
 have MK:∀(e:Env) W',Kp W W'→Ai W'→e 2=.int .i64 0→Bk c=true→K .ret e [] W':=by
  intro e W' k t h6 hb;rw[←FI,dV,h6,hb];exact⟨rfl,k,t⟩
 have hlen:=hC.len
 refine AF (λhg=>?_) (λhg=>?_)
 ·refine G_ _ _ (.refl _) ht rfl ?_;have:=of_decide_eq_true hg;unfold Bk;rw[decide_eq_false (by omega)];rfl
 ·have hg:=of_decide_eq_false hg
  have Js:Bk c=(!CY c.length (BS c)&& !CY c.length (Ih c)):=by
   unfold Bk;rw[decide_eq_true (by omega)];rfl
  refine C2 (λi e ds W'=>ds=[]∧Kp W W'∧Ai W'∧e 0=.slice a c.length cap∧e 3=.int .i64 i∧∀j,j<i→BS c j=false) c.length ⟨rfl,.refl _,ht,rfl,rfl,by omega⟩ ?_;rintro i e ds W' hi ⟨rfl,k',t',h0,h3,A5⟩;have QW:Ab 5 (EI W') (.slice a c.length cap) c:=hc.imp λ_ _ _ hr=>hr.kp ht k';rw[AEe,h0,h3];simp only[AQ UG,AA,AP]
  refine Eh (λAd=>?_) (λGZ=>?_)
  ·obtain⟨x,hx⟩:∃x,c[i]?=some x:=⟨_,ck Ad⟩
   obtain⟨a',cap',ha,Ah⟩:=QW
   cases ha
   obtain⟨p,rfl,hr⟩:=Ah i _ hx;obtain⟨vf,ab,lb,cb,Q6,w4⟩:=hr.ld;have JJ:=aan hx;have zF:BS c i=((!Dt x.name||GD c x i)||((decide (x.elem≠0)&&(!Gs x.elem||decide (x.Bg≠Dd)||decide (0<x.fields.length)))||decide (20<x.fields.length))):=by unfold BS;rw[hx]
   rw[AY UG WQ Ad];simp only[AA,Q6];obtain⟨af,ow,rfl,_⟩:=w4;refine EH wz WQ rfl rfl rfl t' λW2 k2 t2 z2 hB=>?_;have q0:ld prog 9 (.pointer (some ⟨W'.sz,0,none⟩)) W2=some (.string x.name):=AH a9 (a:=⟨W'.sz,0,none⟩) (hB.cell rfl);have q1:ld prog 9 (.pointer (some ⟨W'.sz,0+1,none⟩)) W2=some (.string x.Bg):=AH a9 (a:=⟨W'.sz,1,none⟩) (hB.cell rfl);have q2:ld prog 45 (.pointer (some ⟨W'.sz,0+2,none⟩)) W2=some (.slice af x.fields.length ow):=AH a45 (a:=⟨W'.sz,2,none⟩) (hB.cell rfl);have q3:ld prog 5 (.pointer (some ⟨W'.sz,0+3,none⟩)) W2=some (.int .u8 x.elem):=AH a5 (a:=⟨W'.sz,3,none⟩) (hB.cell rfl);simp only[AA,Lw,q0]
   have leaf:∀(b:Bool) (e1:Env),A9 [0,3] e e1→e1 70=.bool b→b=BS c i→
     (Ie none (G4 (λi e ds W'=>ds=[]∧Kp W W'∧Ai W'∧e 0=.slice (some p) c.length cap∧e 3=.int .i64 i∧∀j,j<i→BS c j=false) i c.length (CB 0 (om none K)))) .normal e1 [] W2:=by
    intro b e1 hA h70 hb;simp only[Ie,Aj,h70]
    refine AF (λMI=>?_) (λMI=>?_)
    ·simp only[ke,GL,Ib,FH,Ng,kd];exact G_ _ W2 (k'.trans k2) t2 rfl (by rw[Js,Bi Ad (by rw[←hb,MI])];rfl)
    ·simp only[ke,Aj,FH,(hA 3 (by decide)).trans h3,AK,AA];refine⟨Ad,trivial,k'.trans k2,t2,(hA 0 (by decide)).trans h0,?_,E_ A5 (by rw[←hb,MI])⟩;simp only[AG,↓reduceIte];rw[CE (by omega)]
   refine As (Nd (by have:=hC.name _ JJ;omega)) ?_;simp only[AZ,AA]
   refine AF (λhb=>?_) (λhb=>?_)
   ·exact⟨by simp only[and_self],trivial,leaf true _ (.put rfl) rfl (by rw[zF,hb];rfl)⟩
   ·simp only[Ae,AA,TC,Nc,Ko,q2,q3,AQ bj,BX];have fin:GD c x i=false→BS c i=((decide (x.elem≠0)&&(!Gs x.elem||decide (x.Bg≠Dd)||decide (0<x.fields.length)))||decide (20<x.fields.length)):=λhp=>by rw[zF,hb,hp];rfl
    refine AF (λh=>?g1) (λh=>?g2)
    case' g1=>
     obtain⟨j,rfl⟩:∃j,i=j+1:=⟨i-1,by have:=of_decide_eq_true h;omega⟩
     have UL:j<c.length:=by omega
     have sH:=ck UL;obtain⟨p',ic,hrp⟩:=Ah j _ sH
     cases ic
     have es:((j+1:Nat):Int)-1=(j:Nat):=by omega
     have zD:GD c x (j+1)=!HH (sb c[j].name) (sb x.name):=by unfold GD;simp only[sH]
     have q4:ld prog 9 (.pointer (some ⟨p.block,p.off+j*5,none⟩)) W2=some (.string c[j].name):=AH a9 (a:=⟨p.block,p.off+j*5,none⟩) (k2.cell t' hrp.name);simp only[Am,AA,es];rw[wrap64 (by omega) (by omega),AY UG WQ UL];simp only[AA,Lw,q0,q4,PY];refine AF (λhq=>?h1) (λhq=>?h2)
     case h1=>exact⟨by simp only[and_self],trivial,leaf true _ (.put rfl) rfl (by rw[zF,zD,hq];simp)⟩
     have hpf:=zD.trans hq
    case' g2=>
     have hpf:GD c x i=false:=by
      cases i with
      |zero=>rfl
      |succ i=>have:=of_decide_eq_false h;omega
    all_goals
     have fin:=fin hpf
     refine AF (λhe=>?_) (λhe=>?_)
     ·have he:decide (x.elem≠0)=true:=by simpa using he
      rw[he,aa4]at fin;refine As (ZU _ _) ?_;simp only[AZ,AA,q1,q2,K6,G1]
      refine AF (λh1=>?_) (λh1=>?_)
      ·exact⟨by simp only[and_self],trivial,leaf true _ (.put rfl) rfl (by rw[fin];unfold Gs;rw[h1];rfl)⟩
      ·refine AF (λh2=>?_) (λh2=>?_)
       ·have h2:decide (x.Bg≠Dd)=true:=decide_eq_true (by simpa[Dd]using h2);exact⟨by simp only[and_self],trivial,leaf true _ (.put rfl) rfl (by rw[fin,h2];simp)⟩
       ·have h2:decide (x.Bg≠Dd)=false:=decide_eq_false (by simpa[Dd]using h2);simp only[AQ bj,AA,Ae]
        refine AF (λh3=>?_) (λh3=>?_)
        ·have h3:decide (0<x.fields.length)=true:=decide_eq_true (by have:=of_decide_eq_true h3;omega);exact⟨by simp only[AQ bj,and_self],trivial,leaf true _ (.put rfl) rfl (by rw[fin,h3];simp)⟩
        ·have h3:decide (0<x.fields.length)=false:=decide_eq_false (by have:=of_decide_eq_false h3;omega);refine⟨by simp only[AQ bj,and_self],trivial,leaf _ _ (.put rfl) rfl ?_⟩;rw[fin,h2,h3];unfold Gs;rw[h1];simp only[acR,abJ];exact decide_eq_decide.2 (by omega)
     ·have he:decide (x.elem≠0)=false:=by simpa using he
      rw[he,abH,abJ]at fin;refine⟨by simp only[AQ bj,and_self],trivial,leaf _ _ (.put rfl) rfl ?_⟩;rw[fin];exact decide_eq_decide.2 (by omega)
  ·have hS:CY c.length (BS c)=false:=CG λj hj=>A5 j (by omega);rw[hS]at Js;simp only[Aj,LM,Er,Jp,aar,kd];refine C2 (λi e ds W'=>ds=[]∧Kp W W'∧Ai W'∧e 0=.slice a c.length cap∧e 5=.int .i64 i∧∀j,j<i→Ih c j=false) c.length ⟨rfl,k',t',h0,rfl,by omega⟩ ?_;rintro i2 e2 ds2 W2 hi2 ⟨rfl,k2,t2,g0,g5,O4⟩;rw[AEf,g0,g5];simp only[AQ UG,AA,AP]
   refine Eh (λAd=>?_) (λABe=>?_)
   ·have Yo:Ab 5 (EI W2) (.slice a c.length cap) c:=hc.imp λ_ _ _ hr=>hr.kp ht k2
    have D8:Ih c i2=true→∀(e:Env) W',Kp W W'→Ai W'→e 2=.int .i64 210→K .ret e [] W':=λhb e W' k t h2=>
     G_ e W' k t h2 (by rw[Js,Bi Ad hb];rfl)
    refine(sA t2 Yo (by omega) Ad).mono λen W3 ⟨k3,t3,Mm⟩=>?_
    cases hli:Bx c c.length i2 with
    |none=>
     rw[hli]at Mm;subst Mm;have e0:ext (.tuple #[.slice none 0 0,.bool false]) 0=some (.slice none 0 0):=rfl;have e1:ext (.tuple #[.slice none 0 0,.bool false]) 1=some (.bool false):=rfl;simp only[Di,e0,e1,AA,AZ];rw[show(!false)=true from rfl];simp only[Af,P0,GL,ZQ,Ib,mq,FH,Ng,yz,ZX];exact D8 (by unfold Ih;rw[hli]) _ W3 (k2.trans k3) t3 rfl
    | some li=>
     rw[hli]at Mm;obtain⟨vo,rfl,ho,SV⟩:=Mm;have e0:ext (.tuple #[vo,.bool true]) 0=some vo:=rfl;have e1:ext (.tuple #[vo,.bool true]) 1=some (.bool true):=rfl;have mz:Ih c i2=(decide (60<(DM c i2).length)||CY (DM c i2).length (FD (DM c i2))):=by unfold Ih;rw[hli]
     simp only[Di,e0,e1,AA,AZ];rw[show(!true)=false from rfl];simp only[AT];have k23:=k2.trans k3;refine(dR t3 (hc.imp λ_ _ _ hr=>hr.kp ht k23) hlen hC.fields Ad).mono λen W4 ⟨k4,t4,v8,Hx,ho8,hn8⟩=>?_;subst Hx;have Ny:=IA hlen hC.fields i2;simp only[Di];rw[Hu bj ho8 (by omega) (Zf _)];simp only[AA,Ae];have k24:=k23.trans k4
     refine AF (λOa=>?_) (λOa=>?_)
     ·simp only[P0,GL,Ib,FH,Ng,ZX];exact D8 (by rw[mz,decide_eq_true (by have:=of_decide_eq_true Oa;omega)];rfl) _ W4 k24 t4 rfl
     ·have hle:decide (60<(DM c i2).length)=false:=decide_eq_false (by have:=of_decide_eq_false Oa;omega)
      refine zE (AC5 LO (by omega) ho8) rfl (by omega) (uY hC.AC7 i2) (λhb e3 h2=>?_) (λhb e3 hA=>?_)
      ·simp only[P0,GL,Ib,FH,Ng,ZX];exact D8 (by rw[mz,hb];simp) _ W4 k24 t4 h2
      ·have q0:e3 0=.slice a c.length cap:=(hA 0 (by decide)).trans g0;have q5:e3 5=.int .i64 i2:=(hA 5 (by decide)).trans g5;simp only[P0,Aj,LM,wy,Er,FH,Jp,aar,q5,AK,AA];refine⟨Ad,trivial,k24,t4,q0,?_,E_ O4 (by rw[mz,hle,hb];rfl)⟩;simp only[AG,↓reduceIte];rw[CE (by omega)]
   ·simp only[Aj,LM,Er,Jp,aar,ZX];exact MK _ W2 k2 t2 rfl (by rw[Js,CG λj hj=>O4 j (by omega)];rfl)
def JB(c:List Aq)(l:List DD):Int:=if Bk c then(if Be c l then 0 else 212)else 210
def bu(c:List Aq)(l:List DD)(h:List CD)(root:Int):Int:=if JB c l≠0 then JB c l else if FB c h≥0 then 211 else if root<0∨root>h.length then 1 else 0
theorem km{v0 v1:Value}{c:List Aq}{l:List DD}{W:CW}(ht:Ai W)(hc:Ab 5 (EI W) v0 c)(hC:QD c)(hl:Ab 3 (Hs W) v1 l)(OU:l.length<100000) :
  Ac prog Bs 43 [v0,v1] W (ib (.int .i64 (JB c l)) W):=by
 refine AIe ?_;rw[AId];refine JA (kh ht hc hC) λW1 k1 t1=>?_;simp only[BD,AA];unfold JB
 cases hk:Bk c with
 |false=>
  simp only[aaD,↓reduceIte,Int.reduceBEq,AT,ZZ,ZY,Aj,ZQ];rw[show∀l,(Env.of (Env.args [v0,v1]) ((15,.bool false)::l)) 15=.bool false fromλ_=>rfl];simp only[AT,dW];exact⟨rfl,k1,t1⟩
 |true=>
  simp only[↓reduceIte,Int.reduceBEq,Af];refine JA (kg t1 (hc.imp λ_ _ _ hr=>hr.kp ht k1) hC.len hC.fields (hl.imp λ_ _ _ hr=>hr.kp ht k1) OU) λW2 k2 t2=>?_;simp only[AZ,AA,ZZ,ZY,Aj];rw[show∀b l,(Env.of (Env.args [v0,v1]) ((15,b)::l)) 15=b fromλ_ _=>rfl]
  cases hs:Be c l<;>simp only[aav,aa6,Af,AT,dW]<;>exact⟨rfl,k1.trans k2,t2⟩
theorem zG{v0 v1 v2:Value}{c:List Aq}{l:List DD}{h:List CD}{root:Int}{W:CW}(ht:Ai W)(hc:Ab 5 (EI W) v0 c)(hC:QD c)(hl:Ab 3 (Hs W) v1 l)(OU:l.length<100000)(hh:Ab 2 (G2 W) v2 h)(hhl:h.length<100000)(hv:∀x,x∈h→x.AO.length<1000000) :
  Ac prog Bs 63 [v0,v1,v2,.int .i64 root] W (ib (.int .i64 (bu c l h root)) W):=by
 refine AIg ?_;rw[AIf];refine JA (km ht hc hC hl OU) λW1 k1 t1=>?_;simp only[BX,AA];unfold bu
 by_cases he:JB c l=0
 ·rw[aad (by simp[he])];simp only[he,bne_self_eq_false,AT];refine JA (uW t1 (hc.imp λ_ _ _ hr=>hr.kp ht k1) hC.len hC.fields (hh.imp λ_ _ _ hr=>hr.kp ht k1) hhl hv) λW2 k2 t2=>?_;simp only[Bt,AA]
  refine AF (λhb=>?_) (λhb=>?_)
  ·rw[aae (of_decide_eq_true hb),Mp];exact⟨rfl,k1.trans k2,t2⟩
  ·rw[aad (of_decide_eq_false hb)];obtain⟨a,cap,rfl,_⟩:=hh;simp only[AP,Ae,AQ M',AA,oo,gS,Aj,GL]
   refine AF (λhr=>?_) (λhr=>?_)
   ·rw[show∀b l,(Env.of (Env.args [v0,v1,.slice a h.length cap,.int .i64 root]) ((27,b)::l)) 27=b fromλ_ _=>rfl];simp only[Af,Mp];rw[aae (.inl (of_decide_eq_true hr))];exact⟨rfl,k1.trans k2,t2⟩
   ·rw[show∀b l,(Env.of (Env.args [v0,v1,.slice a h.length cap,.int .i64 root]) ((27,b)::l)) 27=b fromλ_ _=>rfl]
    refine AF (λP2=>?_) (λP2=>?_)
    ·rw[Mp,aae (.inr (of_decide_eq_true P2))];exact⟨rfl,k1.trans k2,t2⟩
    ·rw[Mp,aad (by have:=of_decide_eq_false hr;have:=of_decide_eq_false P2;omega)];exact⟨rfl,k1.trans k2,t2⟩
 ·rw[aae he];simp only[show(JB c l !=0)=true from by simpa using he,Af,Mp];exact⟨rfl,k1,t1⟩
def dg(l:List DD)(s:ByteArray):Option DD:=l.find? λx=>decide (x.type=s)
def zH(x:CD)(m:Int):Int:=(x.AO[m.toNat]?).getD 0
def Ii(l:List DD)(x:CD):CD:=match dg l x.type with
 |some s=>⟨s.to,s.map.map (zH x)⟩
 |none=>x
def DA(l:List Int):List Value:=l.map λk=>Value.int .i64 k
theorem s40:EM prog 40=some 1:=by kernel_rfl
theorem s51:EM prog 51=some 1:=by kernel_rfl
theorem m0:Is prog 56=some (.agg #[.string ⟨#[]⟩,.slice none 0 0]):=by kernel_rfl
theorem F9.of{W:CW}{v:Value}{l:List Int}(h:Ab 1 (λb o x=>W.cell b o=some (Value.int .i64 x)) v l)(hb:∀x,x∈l→-9223372036854775808≤x∧x≤9223372036854775807):Ab 1 (F9 W) v l:=by
 obtain⟨a,cap,h1,h2⟩:=h;exact⟨a,cap,h1,λi x hx=>by obtain⟨p,hp,hr⟩:=h2 i x hx;exact⟨p,hp,hr,hb x (aan hx)⟩⟩
theorem zI{l:List DD}{s:ByteArray}{i:Nat}(hi:i<l.length)(h:decide (l[i].type=s)=true)(A5:∀j,j<i→decide ((l[j]?).map (·.type)=some s)=false):dg l s=some l[i]:=by
 unfold dg;rw[List.find?_eq_some_iff_getElem];refine⟨h,i,hi,rfl,λj hj=>?_⟩;have:=A5 j hj;rw[ck (by omega)]at this
 simpa using this
theorem AIn(s:ByteArray):wu prog 56 [(0,.string s)]=some (.agg [.string s,.slice none 0 0].toArray):=by kernel_rfl
structure AC8(c:List Aq)(s:DD)(t a:Nat):Prop where
 ti:A3 c s.type=some t
 ai:A3 c s.to=some a
 et:elemAt c t=0
 ea:elemAt c a=0
 len:s.map.length=(AX c a).length
 map:∀k,k<(AX c a).length→∃n:Int,s.map[k]?=some n∧0≤n∧n<(AX c t).length∧(AX c t)[n.toNat]?=(AX c a)[k]?∧MJ s.map k n=false
theorem ox{c:List Aq}{l:List DD}(h:Be c l=true){i:Nat}{s:DD}(hs:l[i]?=some s):∃t a,AC8 c s t a:=by
 unfold Be at h;simp only[aab,aaK]at h;have hb:=GH h.2 (dx.1 hs).1;unfold HE at hb;rw[hs]at hb;simp only at hb
 cases VE:A3 c s.type with
 |none=>rw[VE]at hb;cases hb
 | some t=>
  rw[VE]at hb
  cases bH:A3 c s.to with
  |none=>rw[bH]at hb;cases hb
  | some a=>
   rw[bH]at hb;simp only[aaF,decide_eq_false_iff_not,acs]at hb;obtain⟨⟨⟨h1,h2⟩,h3⟩,h4,h5,h6⟩:=hb;refine⟨t,a,VE,bH,h1,h2,h5,λk hk=>?_⟩;have hm:=GH h6 hk;unfold Fg at hm
   cases hx:s.map[k]? with
   |none=>rw[hx]at hm;cases hm
   |some n=>
    rw[hx]at hm;simp only[aaF,decide_eq_false_iff_not,acs]at hm;obtain⟨⟨⟨m1,m2⟩,m3⟩,m4⟩:=hm;exact⟨n,rfl,by omega,by omega,m3,m4⟩
structure dh(c:List Aq)(x:CD)(size i:Nat)(s:Aq):Prop where
 ti:A3 c x.type=some i
 si:c[i]?=some s
 many:Et c i s x.AO.length=true
 val:∀(k:Nat) n,x.AO[k]?=some n→DN (BR c i k) n size=true
theorem LP{c:List Aq}{x:CD}{size:Nat}(h:BC c x size=true):∃i s,dh c x size i s:=by
 unfold BC at h
 cases VE:A3 c x.type with
 |none=>rw[VE]at h;cases h
 |some i=>
  rw[VE]at h;have hs:=ck (FT VE);simp only[hs,aab,aaK]at h;refine⟨i,_,VE,hs,h.1,λk n hk=>?_⟩;have:=GH h.2 (dx.1 hk).1;rw[hk]at this
  simpa using this
theorem TL{c:List Aq}{x:CD}{size i:Nat}{s:Aq}(h:dh c x size i s):BC c x size=true:=by
 unfold BC;rw[h.ti];simp only[h.si,h.many,aa4]
 rw[CG λj hj=>?_]
 ·rfl
 ·have:=ck hj;rw[this];simp only[h.val j _ this,aav]
theorem Nk{c:List Aq}{h:List CD}(ht:¬FB c h≥0):h.length≤1000∧∀x,x∈h→BC c x h.length=true:=by
 unfold FB at ht
 by_cases hl:1000<h.length
 ·rw[aae hl]at ht;omega
 ·rw[aad hl]at ht;refine⟨by omega,λx hx=>?_⟩;unfold Kt at ht
  cases hf:h.findIdx? λx=>!BC c x h.length with
  |some i=>rw[hf]at ht;simp only at ht;omega
  |none=>
   rw[aaR]at hf
   simpa using hf x hx
theorem TM{c:List Aq}{i many:Nat}{s:Aq}(hs:c[i]?=some s)(he:elemAt c i=0)(hm:Et c i s many=true):many=(AX c i).length:=by
 unfold Et at hm;unfold elemAt at he;rw[hs]at he;rw[aad (by simpa using he)]at hm;exact of_decide_eq_true hm
theorem O5{c:List Aq}{i:Nat}(he:elemAt c i=0)(hi:i<c.length)(k:Nat):BR c i k=((AX c i)[k]?).getD 0:=by
 unfold BR;unfold elemAt at he;rw[ck hi]at he ⊢;simp only at he ⊢;rw[aad (by simpa using he)]
def Zg(c:List Aq)(i:Nat)(vs:List Int):Nat→List Int
 |0=>[]
 |k+1=>Zg c i vs k++(if BR c i k=2 then(vs[k]?).toList else[])
def refsOf(c:List Aq)(y:CD):List Int:=match A3 c y.type with
 |some i=>Zg c i y.AO y.AO.length
 |none=>[]
def visit(o:List Int)(v:Int):List Int:=if 0<v∧v∉o then o++[v]else o
def Xv(refs:Int→List Int):Nat→List Int→Nat→List Int
 |0,o,_=>o
 |f+1,o,n=>match o[n]? with
  |none=>o
  |some v=>Xv refs f ((refs v).foldl visit o) (n+1)
def placeOf(o:List Int)(v:Int):Int:=match o.findIdx? (λx=>decide (x=v))with
 |some i=>(i:Int)+1
 |none=>0
def HF(o:List Int)(n:Nat):List Value:=(List.range n).map λv=>Value.int .i64 (placeOf o (v:Nat))
theorem TN{o:List Int}{v:Int}(h:v∉o):placeOf o v=0:=by
 unfold placeOf
 have:o.findIdx? (λx=>decide (x=v))=none:=by
  rw[aaR];intro x hx;exact decide_eq_false (λe=>h (e▸hx))
 rw[this]
theorem WR{o:List Int}{u v:Int}(h:v∉o):placeOf (o++[v]) u=if u=v then(o.length:Int)+1 else placeOf o u:=by
 unfold placeOf;rw[List.findIdx?_append]
 by_cases e:u=v
 ·subst e
  have:o.findIdx? (λx=>decide (x=u))=none:=by
   rw[aaR];intro x hx;exact decide_eq_false (λe=>h (e▸hx))
  rw[this,aae rfl];simp
 ·rw[aad e]
  cases hf:o.findIdx? (λx=>decide (x=u))with
  |some i=>simp
  | none=>
   have:([v].findIdx? λx=>decide (x=u))=none:=by
    simp[ab8 e,ac6]
   rw[this];simp
theorem Zh(o:List Int){n v:Nat}(h:v<n):(HF o n)[v]?=some (.int .i64 (placeOf o v)):=by
 unfold HF;rw[aaz,ac1 h];rfl
theorem Ja(o:List Int)(n:Nat):(HF o n).length=n:=by simp[HF]
theorem oy{o:List Int}{n v:Nat}(h:v<n)(hv:(v:Int)∉o):putAt (HF o n) v [.int .i64 ((o.length:Int)+1)]=HF (o++[(v:Int)]) n:=by
 apply aaN;intro j;rw[JP (by rw[Ja];simp only[aaH];omega)]
 by_cases hj:j<n
 ·rw[Zh _ hj,Zh _ hj,WR hv]
  by_cases e:j=v
  ·subst e;rw[aae (by simp),aae rfl];simp
  ·rw[aad (by simp only[aaH];omega),aad (by omega)]
 ·rw[aad (by simp only[aaH];omega),aa0 (by rw[Ja];omega),aa0 (by rw[Ja];omega)]
theorem oz:∀(n:Nat) (o:List Int),o.Nodup→(∀v,v∈o→0<v∧v≤n)→o.length≤n
 |0,o,_,h=>by
  cases o with
  |nil=>exact aag _
  |cons a o=>have:=h a (ac4 ..);omega
 | n+1,o,hd,h=>by
  by_cases hm:((n+1:Nat):Int)∈o
  ·have h1:=oz n (o.erase ((n+1:Nat):Int)) (hd.erase _) λv hv=>by
    obtain⟨h2,h3⟩:=(List.Nodup.mem_erase_iff hd).1 hv;have:=h v h3;omega
   rw[List.length_erase_of_mem hm]at h1;omega
  ·have:=oz n o hd λv hv=>by
    have h1:=h v hv;have:v≠((n+1:Nat):Int):=λe=>hm (e▸hv);omega
   omega
theorem ko(o:List Int)(v:Int):DA (o++[v])=DA o++[.int .i64 v]:=by simp[DA]
theorem Ij(o:List Int):(DA o).length=o.length:=by simp[DA]
def AC9(c:List Aq)(l:List DD)(h:List CD)(v:Int):List Int:=match h[(v-1).toNat]? with
 |some x=>refsOf c (Ii l x)
 |none=>[]
def start(root:Int):List Int:=if root>0 then[root]else[]
def zJ(c:List Aq)(l:List DD)(h:List CD)(root:Int):List Int:=Xv (AC9 c l h) h.length (start root) 0
theorem Xw{c:List Aq}{i m:Nat}{s:Aq}(hC:QD c)(h:Et c i s m=true):m≤20100:=by
 unfold Et at h
 split at h
 ·have:=of_decide_eq_true h;omega
 ·have:=of_decide_eq_true h;have h2:=IA hC.len hC.fields i;unfold AX at this;rw[aaq]at this;omega
def sI(n:Int):Int:=if n<0 then -2*n-1 else 2*n
def P3(t:List ByteArray)(s:ByteArray):List ByteArray:=if t.any (λx=>decide (x=s))then t else t++[s]
def VF(l:List DD)(xs:List CD):List ByteArray:=xs.foldl (λt x=>P3 t (Ii l x).type) []
def uZ(o:List Int)(kind n:Int):List Int:=if kind=2 then Jo (placeOf o n).toNat else Jo (sI n).toNat
def Zi(c:List Aq)(o:List Int)(i:Nat)(vs:List Int):Nat→List Int
 |0=>[]
 |k+1=>Zi c o i vs k++(match vs[k]? with
  |some n=>uZ o (BR c i k) n
  |none=>[])
def gY(c:List Aq)(t:List ByteArray)(o:List Int)(y:CD):List Int:=match A3 c y.type with
 |some i=>Jo (Kt t λx=>decide (x=y.type)).toNat++(if elemAt c i≠0 then Jo y.AO.length else[])++Zi c o i y.AO y.AO.length
 |none=>[]
def FE(h:List CD)(o:List Int):List CD:=o.flatMap λv=>(h[(v-1).toNat]?).toList
def zK(c:List Aq)(l:List DD)(h:List CD)(o:List Int):List Int :=
 [1]++Jo (VF l (FE h o)).length++(VF l (FE h o)).flatMap kb++Jo o.length++(FE h o).flatMap λx=>gY c (VF l (FE h o)) o (Ii l x)
def AC'(l:List DD)(h:List CD)(o:List Int):Bool:=(FE h o).any λx=>l.any λs=>decide (s.to=x.type)
theorem sJ{c:List Aq}(h:Bk c=true){i:Nat}(hi:i<c.length):(AX c i).length≤60∧∀(k:Nat) n,(AX c i)[k]?=some n→n=1∨n=2:=by
 unfold Bk at h;simp only[aab,aaK]at h;have hb:=GH h.2.2 hi;unfold Ih at hb
 cases hl:Bx c c.length i with
 |none=>rw[hl]at hb;cases hb
 | some l=>
  rw[hl]at hb;simp only[aaF,decide_eq_false_iff_not]at hb;refine⟨by unfold AX;rw[aaq];omega,λk n hk=>?_⟩;unfold AX at hk;rw[aaz]at hk
  cases hf:(DM c i)[k]? with
  |none=>rw[hf]at hk;cases hk
  |some f=>
   rw[hf]at hk
   cases hk
   have:=GH hb.2 (dx.1 hf).1;unfold FD at this;rw[hf]at this;simp only[aaF,abB]at this;have hk:=this.1.2;unfold Gs at hk
   simpa using hk
theorem zM{c:List Aq}(h:Bk c=true){i:Nat}(hi:i<c.length):elemAt c i=0∨elemAt c i=1∨elemAt c i=2:=by
 unfold Bk at h;simp only[aab,aaK]at h;have hb:=GH h.2.1 hi;unfold BS at hb;unfold elemAt;rw[ck hi]at hb ⊢;simp only[aaF]at hb ⊢;have h1:=hb.2.1
 by_cases he:c[i].elem=0
 ·exact .inl he
 ·rw[decide_eq_true he,aa4]at h1;simp only[aaF,abB]at h1;have:=h1.1.1;unfold Gs at this;right
  simpa using this
theorem ABh{c:List Aq}(h:Bk c=true){i k:Nat}(hi:i<c.length)(hk:elemAt c i=0→k<(AX c i).length):BR c i k=1∨BR c i k=2:=by
 by_cases he:elemAt c i=0
 ·rw[O5 he hi,ck (hk he)];exact(sJ h hi).2 k _ (ck (hk he))
 ·have:=zM h hi;unfold BR;unfold elemAt at he this;rw[ck hi]at he this ⊢;simp only at he this ⊢;rw[aae he];omega
theorem Zj(a:List Int):(De a).length=a.length:=by simp[De]
def strs(l:List ByteArray):List Value:=l.map λs=>Value.string s
theorem sK(s:ByteArray)(W:CW):tk prog 51 1 [(0,.string s)] W=some (.slice (some ⟨W.sz,0,none⟩) 1 1,W.new (.cells (Tr.nil.AW 0 [.string s]) [Value.string s].length #[] 9)):=by kernel_rfl
theorem z9:Is prog 9=some (.string ⟨#[]⟩):=by kernel_rfl
theorem by9:(prog.info? 9).map (·.bytes)=some 16:=by kernel_rfl
theorem Zk(t:List ByteArray)(s:ByteArray):strs (t++[s])=strs t++[.string s]:=by simp[strs]
theorem EY(t:List ByteArray):(strs t).length=t.length:=by simp[strs]
theorem kq{t:List ByteArray}{s:ByteArray}:Kt t (λx=>decide (x=s))<0↔t.any (λx=>decide (x=s))=false:=by
 unfold Kt
 cases h:t.findIdx? λx=>decide (x=s)with
 |none=>
  rw[aaR]at h;simp only[abS];exact⟨λ_ x hx=>by rw[h x hx];simp,λ_=>by omega⟩
 | some i=>
  obtain⟨h1,h2,_⟩:=aaA.1 h
  constructor
  ·intro h3;simp only at h3;omega
  ·intro h3;rw[aaQ.2 ⟨_,aaY h1,h2⟩]at h3
   cases h3
theorem O6{c:List Aq}{y:CD}{n i:Nat}{s:Aq}(h:Bk c=true)(Y:dh c y n i s){k:Nat}{v:Int}(hx:y.AO[k]?=some v):(BR c i k=2∧0≤v∧v≤n)∨(BR c i k=1∧-1000000000≤v∧v≤1000000000):=by
 have hv:=Y.val k v hx
 have hk:BR c i k=1∨BR c i k=2:=ABh h (FT Y.ti) λhe=>by
  have:=TM Y.si he Y.many;have:=(dx.1 hx).1;omega
 unfold DN at hv
 rcases hk with hk|hk
 ·right;rw[hk]at hv;simp at hv;exact⟨hk,by omega,by omega⟩
 ·left;rw[hk]at hv;simp at hv;exact⟨hk,by omega,by omega⟩
theorem CN(a b:Value):ext (.tuple #[a,b]) 0=some a:=rfl
theorem CO(a b:Value):ext (.tuple #[a,b]) 1=some b:=rfl
theorem di{c:List Aq}{l:List DD}{h:List CD}{root:Int}(hz:bu c l h root=0):Bk c=true∧Be c l=true∧(¬FB c h≥0)∧0≤root∧root≤h.length:=by
 unfold bu at hz
 by_cases h1:JB c l≠0
 ·rw[aae h1]at hz;exact(h1 hz).elim
 ·rw [aad h1]at hz
  by_cases h2:FB c h≥0
  ·rw[aae h2]at hz;cases hz
  ·rw[aad h2]at hz
   by_cases h3:root<0∨root>h.length
   ·rw[aae h3]at hz;cases hz
   ·have h1:JB c l=0:=by omega
    unfold JB at h1
    cases hc:Bk c with
    |false=>rw[hc]at h1;simp at h1
    |true=>
     cases hs:Be c l with
     |false=>rw[hc,hs]at h1;simp at h1
     |true=>exact⟨rfl,rfl,h2,by omega,by omega⟩
def o3(ro:Option Nat)(K:AD):AD:=AU (λe ds W=>wV (ld prog 78 (e 4) W) λAIo=>wV (M6 prog 78 (e 2) AIo W) λW6=>K .ret (Env.of e [(3,(.bool true)),(103,AIo)]) ds W6) K
def gZ(ro:Option Nat)(K:AD):AD:=AU (λa b c=>HN 22 a c λd=>GB ro 47 104 1 a (D4 83 At 82 d 81 (BA a)) b c 2 (o3 ro K)) K
def kr:=by
 have h:=@gZ.eq_1;dsimp at h;exact h
def AIp(v0:Value)(K:AD)(W:CW):=by
 have h:GQ 47 104 v0 W K=DB 78 W λa b=>KE (mkm b) λb c=>KE (mkm c) λc d=>Ok prog 78 [(0,b),(1,c)] λf=>DB 78 d λd g=>CL 78 d f g λg=>D7 22 v0 g λh=>Eo h 100 λi=>let b:=eC 17 i (BL 16 h 15 v0 4 d 14 f (BN 13 c 12 b 3 Az 2 a));wI i (BH 78 d g λc=>CL 78 a c g λa=>GS K (CQ v0) (F5 3 Az 18 c b) a) (D7 22 v0 g λa=>Fu 47 104 (CQ v0) (DT 21 At 20 a 19 v0 b) g (gZ none K)):=by kernel_rfl
 dsimp at h;exact h
def ga(ro:Option Nat)(K:AD):AD:=AU (λa b c=>BP a 21 λd=>D1 K a 21 d 80 [] b c) K
def ku:=by
 have h:=@ga.eq_1;dsimp at h;exact h
def Xx(ro:Option Nat)(K:AD):AD:=Ek (λa b c=>Lb 78 a 4 0 λd=>BH 75 d c λf=>Lb 48 a 6 0 λg=>Ak g c λh=>Dj 48 a 6 c λi=>wV (rH prog 75 f h i c) λc=>Ay (ga ro K) a 79 i (BN 78 h 77 g 76 f 75 d) b c) (ga ro K)
def dk:=by
 have h:=@Xx.eq_1;dsimp at h;exact h
def Lz(ro:Option Nat)(K:AD):AD:=AU (λe ds W=>wI (e 73) (wV (ld prog 78 (e 4) W) λv74=>wV (M6 prog 78 (e 2) v74 W) λW14=>(Xx ro K) .ret (Env.of e [(3,(.bool false)),(74,v74)]) ds W14) ((Xx ro K) .normal e ds W)) (Xx ro K)
def Nl(ro:Option Nat)(K:AD):AD:=Ek (λa b c=>Lb 48 a 6 0 λd=>Ak d c λf=>DF 101 f c (λg h=>D2 g λi=>let g:=eC 49 i (BN 48 i 47 g 46 f 45 d);wI i (IW ((IT 9 d c f)∧True) (Lz ro K) a (Lp 73 72 68 71 (ZE 68 70 69 (IS 68 Bl 68 (Lp 67 66 64 65 (IS 64 Bl 64 (Lp 63 62 49 61 (KJ 60 59 58 57 56 55 54 53 (El 52 49 51 50 g)))))))) b h) (KY .gtr 3 a 5 0 λi=>let g:=EA 52 i 49 51 i 50 (CM a) g;wI i (Em a 5 λi=>N0 22 a 0 i λj=>C9 j 0 λk=>Ak k h λl=>Lb 48 a 6 0 λm=>Ak m h λn=>NQ .geq 9 l n λo=>let g:=Dh 64 o 63 (bh 62 o 49 false 61 o 52 true (BQ 60 n 52 59 m (BQ 58 l 52 57 k (BQ 56 j 52 55 i (Fp 54 (CM a) 52 53 a g)))));Gr o ((Fq 9 m h n)∧Sh (Fq 9 k h l) 9 d c f) (Lz ro K) a 73 (El 72 68 71 70 (I_ 69 68 67 (Iv 66 64 65 g))) b h (D2 (BW a) λi=>let g:=Dh 68 i 67 (BB 66 i 64 65 (BW a) g);Gr i ((Fq 9 m h n)∧Sh (Fq 9 k h l) 9 d c f) (Lz ro K) a 73 (A7 72 68 71 70 69 g) b h (Lb 48 a 6 2 λi=>BH 45 i h λj=>D7 45 j h λo=>Eo o 20 λp=>HM ((IV 45 j h o True)∧Ol (Fq 45 i h j) 9 m h n (Sh (Fq 9 k h l) 9 d c f)) (Lz ro K) a 73 p (BB 72 p 68 71 o (BB 70 j 68 69 i g)) b h))) (D2 (BW a) λi=>let g:=Dh 68 i 67 (HA 66 i 64 (j6 65 (BW a) 64 false Az 63 (BG 62 49 61 52 60 59 (J7 58 52 57 (DP 56 52 55 54 53 g)))));Gr i ((IT 9 d c f)∧True) (Lz ro K) a 73 (A7 72 68 71 70 69 g) b h (Lb 48 a 6 2 λi=>BH 45 i h λj=>D7 45 j h λk=>Eo k 20 λl=>HM ((IV 45 j h k True)∧Sh (Fq 45 i h j) 9 d c f) (Lz ro K) a 73 l (BB 72 l 68 71 k (BB 70 j 68 69 i g)) b h)))) λ_ _=>False) (ga ro K)
def ua:=by
 have h:=@Nl.eq_1;dsimp at h;exact h
def AEr(ro:Option Nat)(e:Env)(ds:List Deferred)(K:AD)(W:CW):=by
 have h:CV ro 47 104 e ds W K=Lq e 21 e 20 λa=>I0 a (IQ 22 e 19 21 λb=>BH 48 b W λc=>DB 48 W λd f=>CL 48 d c f λf=>C9 d 3 λg=>EG g f λh=>IU 5 h 0 λi=>let a:=Dh 29 i 28 (BL 27 h 26 g 5 (e 21) 6 d (BN 25 c 24 b 23 (e 21) 22 a));Ds i (Nl ro K) e 7 (LI 44 Bl 43 undef 29 Bl 42 41 40 (Bc 39 undef 38 29 Bl 37 undef (j4 29 Bl 36 35 34 (A7 33 29 32 31 30 a)))) ds f (C9 d 3 λb=>EG b f λc=>let a:=eC 29 Az (BB 31 c 29 30 b a);DF 100 c f (λb c=>let a:=DT 33 b 29 Az 32 b a;C1 b (C9 d 1 λb=>Ak b c λf=>ZB .eql 9 true f (.string ⟨#[]⟩) λg=>let a:=HA 38 g 29 (bh 37 g 29 false 36 g 33 true (BQ 35 f 33 34 b a));C1 g (C9 d 2 λb=>BH 45 b c λd=>D7 45 d c λf=>Q0 f 0 λg=>D1 (Nl ro K) e 7 g 44 (HA 43 g 29 (BQ 42 g 38 41 f (BQ 40 d 38 39 b a))) ds c) (Nl ro K) e (rM 7 44 43 Az 29 42 38 41 (J7 40 38 39 a)) ds c) (Nl ro K) e (HA 7 Az 44 (BG 43 29 42 38 41 40 (yT 39 38 false Az 29 (BG 37 29 36 33 35 34 a)))) ds c) λb c=>Bh (Nl ro K) b e a ds c)) K 0 e 22 a ds W:=by kernel_rfl
 dsimp at h;exact h
def Xy(ro:Option Nat)(K:AD):AD:=AU (λa b c=>BP a 83 λd=>D1 K a 83 d 102 [] b c) K
def dm:=by
 have h:=@Xy.eq_1;dsimp at h;exact h
def AEs(ro:Option Nat)(e:Env)(ds:List Deferred)(K:AD)(W:CW):=by
 have h:Ei ro 47 104 1 e ds W K=Lq e 83 e 82 λa=>I0 a (IQ 22 e 81 83 λb=>BH 48 b W λc=>DB 48 W λd f=>CL 48 d c f λf=>Dj 78 e 4 f λg=>C9 d 0 λh=>Ak h f λi=>let a:=DT 90 i 89 h 88 g (BN 9 d 86 c 85 b 84 a);F7 102 g i f (λb c=>Dn b λf=>Dp b λg=>D2 g λh=>let a:=BL 95 h 94 g 11 g 10 f (D0 93 g 92 f 87 b 91 a);wI h (Dj 78 e 4 c λb=>CL 78 (B7 e) b c λc=>J6 (Xy ro K) e (F5 3 Az 96 b a) ds c) (Jm 78 e 4 λb=>BH 76 b c λg=>C9 d 0 λd=>Ak d c λh=>wV (rH prog 76 g h f c) λc=>Ay (Xy ro K) e 101 f (BL 100 h 99 d 98 g 97 b a) ds c)) λb c=>Bh (Xy ro K) b e a ds c) K 2 e 84 a ds W:=by kernel_rfl
 dsimp at h;exact h
def AIq{Q v0 W}:=FM 47 104 [v0] Tryz.f47 Q W Tryz.func47 (by kernel_rfl)
def o5(ro:Option Nat)(K:AD):AD:=AU (λe ds W=>wV (ld prog 83 (e 6) W) λAIr=>wV (M6 prog 83 (e 4) AIr W) λW7=>K .ret (Env.of e [(5,(.bool true)),(178,AIr)]) ds W7) K
def o_(ro:Option Nat)(K:AD):AD:=AU (λa b c=>D7 23 (Ag a) c λd=>GB ro 48 179 2 a (D4 163 At 162 d 161 (Ag a)) b c 4 (o5 ro K)) K
def TO:=by
 have h:=@o_.eq_1;dsimp at h;exact h
def AIs(v0 v1:Value)(K:AD)(W:CW):=by
 have h:E9 48 179 v0 v1 W K=HU 78 v0 W λa b=>DB 83 b λb c=>KE (mkm c) λc d=>KE (mkm d) λd f=>Ok prog 83 [(0,c),(1,d)] λg=>DB 83 f λf h=>CL 83 f g h λh=>D7 23 v1 h λi=>Eo i 20 λj=>let a:=F5 27 j 26 i (BL 25 v1 6 f 24 g 23 d (HA 22 c 5 (KH 4 b 2 a)));wI j (BH 83 f h λc=>CL 83 b c h λb=>GS K (JN v0 v1) (F5 5 Az 28 c a) b) (D7 23 v1 h λb=>Iz 48 179 v0 v1 (DT 31 At 30 b 29 v1 a) h (o_ none K)):=by kernel_rfl
 dsimp at h;exact h
def TQ(ro:Option Nat)(K:AD):AD:=AU (λa b c=>BP a 31 λd=>D1 K a 31 d 160 [] b c) K
def P4:=by
 have h:=@TQ.eq_1;dsimp at h;exact h
def sL(ro:Option Nat)(K:AD):AD:=Ek (λa b c=>Lb 83 a 6 0 λd=>BH 81 d c λf=>Lb 58 a 8 0 λg=>Ak g c λh=>Jm 83 a 6 λi=>BH 81 i c λj=>Jm 58 a 8 λk=>Ak k c λl=>Dj 58 a 8 c λm=>Dj 58 a 8 c λn=>wV (rH prog 81 f h m c) λo=>wV (rH prog 81 j l n o) λp=>IW (E8 (Sr 58 (A8 a) o n (KX 58 (A8 a) c n)) (LG 58 (A8 a) c m) (E8 (Sr 9 k o l (KX 9 k c l)) (Sr 81 i o j (KX 81 i c j)) (Jn 9 g c h 81 d c f))) (TQ ro K) a (F5 159 n 158 m (BL 157 l 156 k 155 j 154 i (BN 153 h 152 g 151 f 150 d))) b p) (TQ ro K)
def dn:=by
 have h:=@sL.eq_1;dsimp at h;exact h
def Xz(ro:Option Nat)(K:AD):AD:=Ek (λa b c=>Jm 83 a 6 λd=>BH 81 d c λf=>Jm 58 a 8 λg=>Ak g c λh=>Gp 81 f h true c λi=>Dn i λj=>Dp i λk=>DB 58 c λc l=>let d:=EW 104 k 14 13 c (D0 103 k 102 j 96 i 101 (BN 100 h 99 g 98 f 97 d));CL 58 c j l λc=>wI k (Dj 83 a 6 c λf=>CL 83 (KI a) f c λc=>J6 (TQ ro K) a (F5 5 Az 105 f d) b c) (Lb 58 a 8 2 λf=>C4 f c λg=>Ft g c λh=>GB ro 48 179 1 a (BL 109 At 108 h 107 g 106 f d) b c 2 (sL ro K))) (TQ ro K)
def dp:=by
 have h:=@Xz.eq_1;dsimp at h;exact h
def Kw(ro:Option Nat)(K:AD):AD:=AU (λe ds W=>wI (e 94) (wV (ld prog 83 (e 6) W) λv95=>wV (M6 prog 83 (e 4) v95 W) λW24=>(Xz ro K) .ret (Env.of e [(5,(.bool false)),(95,v95)]) ds W24) ((Xz ro K) .normal e ds W)) (Xz ro K)
def AEt(ro:Option Nat)(e:Env)(ds:List Deferred)(K:AD)(W:CW):=by
 have h:CV ro 48 179 e ds W K=Lq e 31 e 30 λa=>I0 a (H9 e 29 31 λb=>BH 58 b W λc=>DB 58 W λd f=>CL 58 d c f λf=>Lb 78 e 2 0 λg=>BH 75 g f λh=>EV d 0 λi=>Ak i f λj=>Gp 75 h j true f λk=>Dn k λl=>Dp k λm=>DB 48 f λf n=>CL 48 f l n λn=>Lb 78 e 2 0 λo=>BH 75 o n λp=>EV d 1 λq=>Ak q n λr=>Gp 75 p r true n λs=>Dn s λt=>Dp s λu=>DB 48 n λn v=>CL 48 n t v λv=>D2 m λw=>let a:=eC 54 w (BL 53 w 52 m 12 u 11 n (D0 51 u 50 t 44 s 49 (BL 48 r 47 q 46 p 45 o (BL 10 m 9 f 43 m 42 l (Bc 36 k 41 40 j 39 i (BL 38 h 37 g 7 (e 31) 8 d (BN 35 c 34 b 33 (e 31) 32 a)))))));wI w (IW True (Kw ro K) e (Lp 94 93 83 92 (KL 91 90 (KL 89 88 (KL 87 86 (KL 85 84 (IS 83 Bl 83 (Lp 82 81 68 80 (KJ 79 78 77 76 75 74 73 72 (Iv 71 68 70 (I_ 69 68 67 (Iv 66 63 65 (I_ 64 63 62 (Iv 61 58 60 (I_ 59 58 57 (Iv 56 54 55 a))))))))))))))) ds v) (D2 u λb=>let a:=Dh 58 b 57 (BB 56 b 54 55 u a);wI b (IW True (Kw ro K) e (Lp 94 93 83 92 (KL 91 90 (KL 89 88 (KL 87 86 (KL 85 84 (IS 83 Bl 83 (Lp 82 81 68 80 (KJ 79 78 77 76 75 74 73 72 (El 71 68 70 69 (H8 68 true 67 66 undef 63 65 63 64 (H8 63 true 62 61 undef 58 60 58 59 a))))))))))) ds v) (C9 f 3 λb=>EG b v λc=>Mf 5 c 0 λf=>let a:=Dh 63 f 62 (EA 61 f 58 60 c 59 b a);wI f (IW (Fq 5 b v c) (Kw ro K) e (Lp 94 93 83 92 (KL 91 90 (KL 89 88 (KL 87 86 (KL 85 84 (IS 83 Bl 83 (Lp 82 81 68 80 (KJ 79 78 77 76 75 74 73 72 (El 71 68 70 69 (H8 68 true 67 66 undef 63 65 63 64 a)))))))))) ds v) (C9 n 3 λf=>EG f v λg=>Mf 5 g 0 λh=>let a:=Dh 68 h 67 (EA 66 h 63 65 g 64 f a);wI h (IW (H' 5 f v g b c) (Kw ro K) e (Lp 94 93 83 92 (KL 91 90 (KL 89 88 (KL 87 86 (KL 85 84 (IS 83 Bl 83 (Lp 82 81 68 80 (KJ 79 78 77 76 75 74 73 72 (El 71 68 70 69 a))))))))) ds v) (KY .gtr 3 e 31 0 λh=>let a:=EA 71 h 68 70 h 69 (e 31) a;wI h (Em e 31 λh=>N0 23 e 1 h λi=>EV i 0 λj=>Ak j v λk=>EV d 0 λl=>Ak l v λm=>NQ .geq 9 k m λn=>let a:=Dh 83 n 82 (bh 81 n 68 false 80 n 71 true (BQ 79 m 71 78 l (BQ 77 k 71 76 j (BQ 75 i 71 74 h (BQ 73 (e 31) 71 72 (Ag e) a)))));Gr n (QZ 9 l v m 9 j k (H' 5 f v g b c)) (Kw ro K) e 94 (Iv 93 83 92 (A7 91 83 90 89 88 (A7 87 83 86 85 84 a))) ds v (EV d 2 λh=>C4 h v λi=>Ft i v λn=>Jm 78 e 2 λo=>BH 76 o v λp=>EV d 1 λd=>Ak d v λq=>Gp 76 p q false v λr=>Fs r v λs=>Oh n s λt=>HM (E8 (FN 29 r v s) (Y2 prog 76 p q false v=some r) (QZ 9 d v q 76 o p (fo (FN 40 i v n) 40 h v i (QZ 9 l v m 9 j k (H' 5 f v g b c))))) (Kw ro K) e 94 t (BB 93 t 83 92 s (BB 91 r 83 90 q (BB 89 d 83 88 p (BB 87 o 83 86 n (BB 85 i 83 84 h a))))) ds v)) (EV d 2 λh=>C4 h v λi=>Ft i v λj=>Jm 78 e 2 λk=>BH 76 k v λl=>EV d 1 λd=>Ak d v λm=>Gp 76 l m false v λn=>Fs n v λo=>Oh j o λp=>HM (E8 (FN 29 n v o) (Y2 prog 76 l m false v=some n) (QZ 9 d v m 76 k l (fo (FN 40 i v j) 40 h v i (H' 5 f v g b c)))) (Kw ro K) e 94 p (EA 93 p 83 92 o 91 n (BB 90 m 83 89 d (BB 88 l 83 87 k (BB 86 j 83 85 i (j6 84 h 83 false Az 82 (BG 81 68 80 71 79 78 (J7 77 71 76 (DP 75 71 74 73 72 a)))))))) ds v)))))) K 0 e 32 a ds W:=by kernel_rfl
 dsimp at h;exact h
def X0(ro:Option Nat)(K:AD):AD:=AU (λa b c=>BP a 109 λd=>D1 K a 109 d 149 [] b c) K
def dq:=by
 have h:=@X0.eq_1;dsimp at h;exact h
def TR(ro:Option Nat)(K:AD):AD:=jz (λa b c=>Qz a 147 (Dj 83 a 6 c λd=>CL 83 (KI a) d c λc=>J6 (X0 ro K) a (KH 5 Az 148 d) b c) (X0 ro K) a b c) 3 (X0 ro K)
def ub:=by
 have h:=@TR.eq_1;dsimp at h;exact h
def AEu(ro:Option Nat)(e:Env)(ds:List Deferred)(K:AD)(W:CW):=by
 have h:Ei ro 48 179 1 e ds W K=Lq e 109 e 108 λa=>I0 a (IQ 40 e 107 109 λb=>DQ b W λc=>Jm 78 e 2 λd=>BH 76 d W λf=>Lb 58 e 8 0 λg=>Ak g W λh=>Gp 76 f h false W λi=>Fs i W λj=>HB .sub j 1 λk=>LH 103 c At k W (λl m=>D2 l λn=>let a:=EW 125 n 124 123 l (BL 122 k 121 j 120 i 119 c (Bc 17 i 118 117 h 116 g (FL 115 f 114 d 16 c 15 e 109 (BN 113 c 112 b 111 (e 109) 110 a))));Gr n ((I1 (FN 29 i W j))∧True) (TR ro K) e 147 (A7 146 133 145 144 143 (A7 142 133 141 140 139 (A7 138 133 137 136 135 (I_ 134 133 132 (Iv 131 125 130 (A7 129 125 128 127 126 a)))))) ds m (Lb 58 e 8 2 λb=>C4 b m λd=>wV (N' prog 40 d none (some (e 109)) none m) λf=>F7 104 f c m (λg h=>let a:=Dh 133 g 132 (BB 131 g 125 130 c (BB 129 f 125 128 (e 109) (BB 127 d 125 126 b a)));Gr g ((Jj True (N' prog 40 d none (some (e 109)) none m=some f))∧Jj (Fv 40 b m d) (F6 True (FN 29 i W j))) (TR ro K) e 147 (IS 146 undef 133 (A7 145 133 144 143 142 (A7 141 133 140 139 138 (A7 137 133 136 135 134 a)))) ds h (ET 29 i c λg=>EG g h λk=>Jm 78 e 2 λl=>BH 76 l h λn=>Jm 58 e 8 λo=>Ak o h λp=>Gp 76 n p false h λq=>Mg 29 q e 109 λr=>EG r h λs=>NQ .neq 5 k s λt=>HM (E8 (Fq 5 r h s) ((Y2 prog 76 n p false h=some q)∧True) (Ol (Fq 9 o h p) 76 l h n (E8 (Fq 5 g h k) (Jj True (N' prog 40 d none (some (e 109)) none m=some f)) (Jj (Fv 40 b m d) (F6 True (FN 29 i W j)))))) (TR ro K) e 147 t (EA 146 t 133 145 s 144 r (BB 143 (e 109) 133 142 q (BB 141 p 133 140 o (BB 139 n 133 138 l (BB 137 k 133 136 g (BB 135 c 133 134 i a)))))) ds h)) λ_ _=>False)) λ_ _=>False) K 2 e 110 a ds W:=by kernel_rfl
 dsimp at h;exact h
def gb(ro:Option Nat)(K:AD):AD:=AU (λa b c=>BP a 163 λd=>D1 K a 163 d 177 [] b c) K
def dr:=by
 have h:=@gb.eq_1;dsimp at h;exact h
def AEv(ro:Option Nat)(e:Env)(ds:List Deferred)(K:AD)(W:CW):=by
 have h:Ei ro 48 179 2 e ds W K=Lq e 163 e 162 λa=>I0 a (H9 e 161 163 λb=>BH 58 b W λc=>DB 58 W λd f=>CL 58 d c f λf=>Lb 83 e 6 0 λg=>BH 81 g f λh=>EV d 1 λi=>Ak i f λj=>Gp 81 h j true f λk=>Dn k λl=>Dp k λm=>DB 58 f λf n=>let a:=EW 175 m 21 20 f (D0 174 m 173 l 167 k 172 (BL 171 j 170 i 169 h 168 g (BN 19 d 166 c 165 b 164 a)));CL 58 f l n λb=>C1 m (Dj 83 e 6 b λc=>CL 83 (KI e) c b λb=>J6 (gb ro K) e (F5 5 Az 176 c a) ds b) (gb ro K) e a ds b) K 4 e 164 a ds W:=by kernel_rfl
 dsimp at h;exact h
def AIt{Q v0 v1 W}:=FM 48 179 [v0,v1] Tryz.f48 Q W Tryz.func48 (by kernel_rfl)
def AIu(v0 v1:Value)(K:AD)(W:CW):=by
 have h:E9 62 6 v0 v1 W K=HU 78 v0 W λa b=>HU 56 v1 b λb c=>wV (some (.func (.func 108) #[] #[a,b])) λd=>GS K (JN v0 v1) (eC 4 d (BN 5 d 4 .nilFunc 3 b 2 a)) c:=by kernel_rfl
 dsimp at h;exact h
theorem uc(Q:Ending→CW→Prop)(e:Env)(W:CW):AM prog Tryz.f62 Q .ret e [] W=Q (.returned (e 4)) W:=by kernel_rfl
def AIv{Q v0 v1 W}:=FM 62 6 [v0,v1] Tryz.f62 Q W Tryz.func62 (by kernel_rfl)
def AIw(v0 v1:Value)(K:AD)(W:CW):=by
 have h:E9 84 11 v0 v1 W K=HU 78 v0 W λa b=>HU 24 v1 b λb c=>BH 24 b c λd=>GR d c λf=>Eo f 1000 λg=>let d:=F5 7 g 6 f (BN 5 d 4 At 3 b 2 a);HR g K (JN v0 v1) 4 (RM 1000) d [] c (BH 24 b c λf=>wV (some (.func (.func 118) #[] #[a,b])) λa=>F7 117 f a c (λb c=>GS K (JN v0 v1) (Bc 4 b 10 9 a 8 f d) c) λb c=>H6 K b v0 v1 (F5 9 a 8 f d) c):=by kernel_rfl
 dsimp at h;exact h
theorem dt(Q:Ending→CW→Prop)(e:Env)(W:CW):AM prog Tryz.f84 Q .ret e [] W=Q (.returned (e 4)) W:=by kernel_rfl
def AIx{Q v0 v1 W}:=FM 84 11 [v0,v1] Tryz.f84 Q W Tryz.func84 (by kernel_rfl)
def zN(v0 v1 v2:Value)(K:AD)(W:CW):=by
 have h:HQ 108 36 v0 v1 v2 W K=HL 78 v1 0 λa=>BH 75 a W λb=>Ej v2 0 λc=>Ak c W λd=>Gp 75 b d false W λf=>wV (fld prog 48 f 3) λg=>Ej v2 1 λh=>C4 h W λi=>Ft i W λj=>Fu 108 36 (Eg v0 v1 v2) (DT 16 At 15 j 14 i (BL 13 h 4 g 12 g 11 f (BN 10 d 9 c 8 b 7 a))) W K:=by kernel_rfl
 dsimp at h;exact h
def TS(ro:Option Nat)(K:AD):AD:=AU (λa b c=>BP a 16 λd=>D1 K a 16 d 35 [] b c) K
def P5:=by
 have h:=@TS.eq_1;dsimp at h;exact h
def TU(ro:Option Nat)(K:AD):AD:=Ek (λa b c=>let d:=D4 32 (DG a) 31 (CM a) 30 (BA a);GI prog Bs (BA a) [CM a,DG a] c (λc f=>D2 c λg=>Of g (TS ro K) a (F5 34 g 33 c d) b f (K4 (TS ro K) a (F5 34 g 33 c d) b f)) λc f=>Bh (TS ro K) c a d b f) (TS ro K)
def du:=by
 have h:=@TU.eq_1;dsimp at h;exact h
def sM(ro:Option Nat)(e:Env)(ds:List Deferred)(K:AD)(W:CW):=by
 have h:CV ro 108 36 e ds W K=Lq e 16 e 15 λa=>I0 a (IU 5 (KI e) 0 λb=>let a:=DT 21 b 20 (KI e) 6 (KI e) (BN 19 (KI e) 5 (e 16) 18 (e 16) 17 a);C1 b (Jm 78 e 1 λb=>BH 76 b W λc=>Lb 56 e 2 0 λd=>Ak d W λf=>Gp 76 c f false W λg=>Mg 29 g e 16 λh=>EG h W λi=>Ay (TU ro K) e 6 i (BL 29 i 28 h 27 (e 16) 26 g (BL 25 f 24 d 23 c 22 b a)) ds W) (TU ro K) e a ds W) K 0 e 17 a ds W:=by kernel_rfl
 dsimp at h;exact h
def zO{Q v0 v1 v2 W}:=FM 108 36 [v0,v1,v2] Tryz.f108 Q W Tryz.func108 (by kernel_rfl)
def gd(ro:Option Nat)(K:AD):AD:=AU (λe ds W=>K .ret (Env.of e [(4,(.int .i64 (-1)))]) ds W) K
def AEw(v0 v1:Value)(K:AD)(W:CW):=by
 have h:E9 117 19 v0 v1 W K=GR v0 W λa=>Iz 117 19 v0 v1 (BN 8 At 7 a 6 v0 4 At) W (gd none K):=by kernel_rfl
 dsimp at h;exact h
def X1(ro:Option Nat)(K:AD):AD:=AU (λa b c=>BP a 8 λd=>D1 K a 8 d 18 [] b c) K
def dv:=by
 have h:=@X1.eq_1;dsimp at h;exact h
def ABi(ro:Option Nat)(e:Env)(ds:List Deferred)(K:AD)(W:CW):=by
 have h:CV ro 117 19 e ds W K=C' e 8 (BW e) λa=>I0 a (IY e 0 8 λb=>BH 56 b W λc=>let a:=Bq 15 c 14 b 13 (A8 e) 12 e (BN 11 (Ag e) 5 (A8 e) 10 (A8 e) 9 a);GI prog Bs (Ag e) [c] W (λb c=>Of b (X1 ro K) e (DT 4 (A8 e) 17 (A8 e) 16 b a) ds c (Ay (X1 ro K) e 16 b a ds c)) λb c=>Bh (X1 ro K) b e a ds c) K 0 e 9 a ds W:=by kernel_rfl
 dsimp at h;exact h
theorem Zl(Q:Ending→CW→Prop)(e:Env)(W:CW):AM prog Tryz.f117 Q .ret e [] W=Q (.returned (e 4)) W:=by kernel_rfl
def AEx{Q v0 v1 W}:=FM 117 19 [v0,v1] Tryz.f117 Q W Tryz.func117 (by kernel_rfl)
def AEy(v0 v1 v2:Value)(K:AD)(W:CW):=by
 have h:HQ 118 11 v0 v1 v2 W K=HU 56 v0 W λa b=>BH 78 v1 b λc=>BH 56 a b λd=>BH 24 v2 b λf=>GR f b λg=>let a:=F5 8 g 7 f (BN 6 d 5 c 4 Az 3 a);LH 119 c d g b (λb c=>D2 b λd=>GS K (Eg v0 v1 v2) (EW 4 d 10 9 b a) c) λb c=>H7 K b v0 v1 v2 a c:=by kernel_rfl
 dsimp at h;exact h
theorem pA(Q:Ending→CW→Prop)(e:Env)(W:CW):AM prog Tryz.f118 Q .ret e [] W=Q (.returned (e 4)) W:=by kernel_rfl
def AEz{Q v0 v1 v2 W}:=FM 118 11 [v0,v1,v2] Tryz.f118 Q W Tryz.func118 (by kernel_rfl)
def TV(ro:Option Nat)(K:AD):AD:=AU (λe ds W=>wV (M6 prog 4 (e 6) (.bool true) W) λW6=>K .ret e ds W6) K
def TW(ro:Option Nat)(K:AD):AD:=AU (λa b c=>Dj 78 a 3 c λd=>Dj 56 a 4 c λf=>F7 62 d f c (λc g=>FX prog Bs ro 119 72 (.rangeFunc (.tmp 47) #[48,49] (rfA prog 119 0) (rfB prog 119 0)) (Env.of a (D4 47 c 46 f 45 d)) b g (CB 0 (TV ro K))) λc g=>Bh (TV ro K) c a (KH 46 f 45 d) b g) K
def Zm:=by
 have h:=@TW.eq_1;dsimp at h;exact h
def Mr(ro:Option Nat)(K:AD):AD:=AU (λe ds W=>wI (e 44) (wV (M6 prog 4 (e 6) (.bool false) W) λW11=>(TW ro K) .ret e ds W11) ((TW ro K) .normal e ds W)) (TW ro K)
def AE0(v0 v1 v2:Value)(K:AD)(W:CW):=by
 have h:HQ 119 72 v0 v1 v2 W K=HU 78 v0 W λa b=>HU 56 v1 b λb c=>HU 3 v2 c λc d=>DB 4 d λd f=>HL 78 a 0 λg=>BH 75 g f λh=>Ej b 0 λi=>Ak i f λj=>Gp 75 h j true f λk=>Dn k λl=>Dp k λm=>DB 48 f λf n=>CL 48 f l n λn=>D2 m λo=>let c:=eC 22 o (BL 21 o 20 m 8 m 7 f (D0 19 m 18 l 12 k 17 (BL 16 j 15 i 14 h 13 g (BN 6 d 5 c 4 b 3 a))));Ds o (Mr none K) (Eg v0 v1 v2) 44 (A7 43 39 42 41 40 (Wv 39 true 38 37 undef 22 (Dh 36 undef 35 (KJ 34 33 32 31 30 29 28 27 (A7 26 22 25 24 23 c))))) [] n (C9 f 3 λd=>EG d n λf=>IU 5 f 0 λg=>let c:=jv 26 g 22 false 25 (BB 24 f 22 23 d c);wI g (Ej b 1 λd=>C4 d n λf=>Ft f n λg=>HL 78 a 1 λa=>BH 76 a n λh=>Ej b 0 λi=>Ak i n λj=>Gp 76 h j false n λk=>Fs k n λl=>Oh g l λm=>let a:=Dh 39 m 38 (HA 37 m 22 (BQ 36 m 26 35 l (BQ 34 k 26 33 j (BQ 32 i 26 31 h (BQ 30 a 26 29 g (BQ 28 f 26 27 d c))))));Ds m (Mr none K) (Eg v0 v1 v2) 44 (A7 43 39 42 41 40 a) [] n (Ej b 1 λb=>C4 b n λc=>Ft c n λd=>Eo d 200 λf=>Ay (Mr none K) (Eg v0 v1 v2) 44 f (BB 43 f 39 42 d (BB 41 c 39 40 b a)) [] n)) (Ej b 1 λa=>C4 a n λb=>Ft b n λd=>Eo d 200 λf=>Ay (Mr none K) (Eg v0 v1 v2) 44 f (BB 43 f 39 42 d (BB 41 b 39 40 a (rM 39 38 37 Az 22 36 26 35 (DP 34 26 33 32 31 (DP 30 26 29 28 27 c))))) [] n)):=by kernel_rfl
 dsimp at h;exact h
theorem ABj(ro:Option Nat)(e:Env)(ds:List Deferred)(K:AD)(W:CW):E6 prog Bs ro 119 72 (rfA prog 119 0) e ds W K=(K .normal (Env.of e [(10,(e 49)),(9,(e 48))]) ds W):=by kernel_rfl
def HZ(ro:Option Nat)(K:AD):AD:=AU (λe ds W=>wI (e 71) (wV (M6 prog 4 (e 6) (.bool false) W) λW13=>K .ret e ds W13) (K .normal e ds W)) (CB 1 K)
def ABk(ro:Option Nat)(e:Env)(ds:List Deferred)(K:AD)(W:CW):=by
 have h:yP ro 119 72 (rfB prog 119 0) e ds W K=HT e 4 λa=>C4 a W λb=>ET 40 b (B5 e) λc=>DQ c W λd=>IU 5 (BM e) 1 λf=>let a:=eC 57 f (D0 56 f 55 (BM e) 11 d 54 (BN 53 c 52 (B5 e) 51 b 50 a));let b:=eC 57 Bl (IS 58 d 57 a);wI f (LH 103 d (RM (-1000000000)) (RM 1000000000) W (λa c=>D2 a λf=>let a:=eC 62 f (Bc 61 f 60 57 Bl 59 a b);Ds f (HZ ro K) e 71 (IS 70 undef 62 (Mb 69 68 67 66 (El 65 62 64 63 a))) ds c (IU 5 (BM e) 2 λb=>let a:=EA 65 b 62 64 b 63 (BM e) a;wI b (Dj 3 e 5 c λb=>let a:=eC 65 Bl (BQ 67 b 65 66 d a);LH 103 d At b c (λb c=>D2 b λd=>D1 (HZ ro K) e 71 d 70 (BL 62 Az 69 d 65 Bl 68 b a) ds c) λb c=>Bh (HZ ro K) b e a ds c) (Ay (HZ ro K) e 71 Az (Mi 70 Az 62 69 65 68 67 66 a) ds c))) λa c=>Bh (HZ ro K) a e b ds c) (IU 5 (BM e) 2 λb=>let a:=EA 65 b 62 64 b 63 (BM e) (BG 62 61 60 57 59 58 a);wI b (Dj 3 e 5 W λb=>let a:=eC 65 Bl (BQ 67 b 65 66 d a);LH 103 d At b W (λb c=>D2 b λd=>D1 (HZ ro K) e 71 d 70 (BL 62 Az 69 d 65 Bl 68 b a) ds c) λb c=>Bh (HZ ro K) b e a ds c) (Ay (HZ ro K) e 71 Az (Mi 70 Az 62 69 65 68 67 66 a) ds W)):=by kernel_rfl
 dsimp at h;exact h
def AE1{Q v0 v1 v2 W}:=FM 119 72 [v0,v1,v2] Tryz.f119 Q W Tryz.func119 (by kernel_rfl)
def AE2(v0 v1:Value)(K:AD)(W:CW):=by
 have h:E9 104 9 v0 v1 W K=(let a:=eC 6 v1 (G7 5 v0 4);F7 126 v0 v1 W (λb c=>Mc b 0 λd=>GS K (JN v0 v1) (EW 4 d 8 7 b a) c) λb c=>H6 K b v0 v1 a c):=by kernel_rfl
 dsimp at h;exact h
theorem pB(Q:Ending→CW→Prop)(e:Env)(W:CW):AM prog Tryz.f104 Q .ret e [] W=Q (.returned (e 4)) W:=by kernel_rfl
def AE3{Q v0 v1 W}:=FM 104 9 [v0,v1] Tryz.f104 Q W Tryz.func104 (by kernel_rfl)
def gf(ro:Option Nat)(K:AD):AD:=AU (λe ds W=>K .ret (Env.of e [(4,(.int .i64 (-1)))]) ds W) K
def AE4(v0 v1:Value)(K:AD)(W:CW):=by
 have h:E9 126 19 v0 v1 W K=Ft v0 W λa=>Iz 126 19 v0 v1 (BN 8 At 7 a 6 v0 4 At) W (gf none K):=by kernel_rfl
 dsimp at h;exact h
def gg(ro:Option Nat)(K:AD):AD:=AU (λa b c=>BP a 8 λd=>D1 K a 8 d 18 [] b c) K
def dw:=by
 have h:=@gg.eq_1;dsimp at h;exact h
def ABl(ro:Option Nat)(e:Env)(ds:List Deferred)(K:AD)(W:CW):=by
 have h:CV ro 126 19 e ds W K=C' e 8 (BW e) λa=>I0 a (IQ 40 e 0 8 λb=>DQ b W λc=>JM .eql 3 e 1 c λd=>let a:=eC 16 d (Bq 15 c 14 b 13 (A8 e) 12 e (BN 11 (Ag e) 5 (A8 e) 10 (A8 e) 9 a));Of d (gg ro K) e (Wu 4 (A8 e) 17 e 8 a) ds W (K4 (gg ro K) e a ds W)) K 0 e 9 a ds W:=by kernel_rfl
 dsimp at h;exact h
theorem Zn(Q:Ending→CW→Prop)(e:Env)(W:CW):AM prog Tryz.f126 Q .ret e [] W=Q (.returned (e 4)) W:=by kernel_rfl
def AE5{Q v0 v1 W}:=FM 126 19 [v0,v1] Tryz.f126 Q W Tryz.func126 (by kernel_rfl)
theorem Nm:∀a:List UInt8,HH a a=false
 |[]=>rfl
 |a::x=>by
  simp only[HH,abu,aa4,Nm x,acX]
  cases h:Nat.blt a.toNat a.toNat with
  |false=>rfl
  |true=>have:=aaj h;omega
theorem G5:∀a b c:List UInt8,HH a b=true→HH b c=true→HH a c=true
 |_,_,[],_,h=>by simp[HH]at h
 |_,[],_::_,h,_=>by simp[HH]at h
 |[],_::_,_::_,_,_=>rfl
 | a::x,b::y,c::z,h1,h2=>by
  simp only[HH,aaU,aab]at h1 h2 ⊢;have blt:∀m n:Nat,Nat.blt m n=true↔m<n:=λm n=>⟨λh=>aaj h,λh=>aak h⟩
  rw[blt,abF]at h1 h2 ⊢
  rcases h1 with h1|⟨h1,h1'⟩
  ·rcases h2 with h2|⟨h2,h2'⟩
   ·exact .inl (Nat.lt_trans h1 h2)
   ·exact .inl (by omega)
  ·rcases h2 with h2|⟨h2,h2'⟩
   ·exact .inl (by omega)
   ·exact .inr ⟨by omega,G5 x y z h1' h2'⟩
theorem zP{c:List Aq}:∀{i:Nat},(∀j,j<i→BS c j=false)→∀j k x y,j<k→k<i→c[j]?=some x→c[k]?=some y→HH (sb x.name) (sb y.name)=true:=by
 intro i h j k
 induction k with
 |zero=>intro x y hj;omega
 |succ k ih=>
  intro x y hj hk hx hy;have hb:=h (k+1) hk;unfold BS at hb;rw[hy]at hb;simp only[aaF]at hb;have hp:=hb.1.2;unfold GD at hp;have O2:k<c.length:=by have:=(dx.1 hy).1;omega
  have hz:=ck O2;simp only[hz,abB]at hp
  rcases aap.1 hj with h1|rfl
  ·exact G5 _ _ _ (ih x _ h1 (by omega) hx hz) hp
  ·rw[hx]at hz;cases hz;exact hp
theorem pC{c:List Aq}{i:Nat}(h:∀j,j<i→BS c j=false){j k:Nat}{x y:Aq}(hjk:j≠k)(hj:j<i)(hk:k<i)(hx:c[j]?=some x)(hy:c[k]?=some y):x.name≠y.name:=by
 intro e
 rcases Nat.lt_or_gt_of_ne hjk with h1|h1
 ·have:=zP h j k x y h1 hk hx hy;rw[e,Nm]at this;cases this
 ·have:=zP h k j y x h1 hj hy hx;rw[e,Nm]at this;cases this
theorem ABm{c:List Aq}(h:∀j,j<c.length→BS c j=false){i:Nat}{x:Aq}(hx:c[i]?=some x):A3 c x.name=some i:=by
 unfold A3;have hi:=(dx.1 hx).1;have he:=(dx.1 hx).2;rw[aaA];refine⟨hi,by rw[he];simp,λj hj=>?_⟩;have UL:j<c.length:=by omega
 have:=pC h (by omega:j≠i) UL hi (ck UL) hx
 simpa using this
theorem EJ{c:List Aq}{f i:Nat}{l:List Nat}{x:Aq}(hx:c[i]?=some x)(h:Bx c f i=some l):(x.Bg=Dd∧l=[i])∨(x.Bg≠Dd∧∃f' j m,f=f'+1∧TF c i=some j∧Bx c f' j=some m∧l=i::m):=by
 by_cases hs:x.Bg=Dd
 ·rw[Mo hx hs]at h;exact .inl ⟨hs,(abL h).symm⟩
 ·right;refine⟨hs,?_⟩
  cases f with
  |zero=>rw[RU hx hs]at h;cases h
  | succ f=>
   rw[JS hx hs]at h
   cases hj:TF c i with
   |none=>rw[hj]at h;cases h
   | some j=>
    rw[hj]at h;simp only at h
    cases h1:Bx c f j with
    |none=>rw[h1]at h;cases h
    |some m=>
     rw[h1]at h;exact⟨f,j,m,rfl,rfl,h1,(abL h).symm⟩
theorem G6{c:List Aq}{f i:Nat}{l:List Nat}(h:Bx c f i=some l):∃x,c[i]?=some x:=by
 unfold Bx at h
 cases hx:c[i]? with
 |none=>rw[hx]at h;cases h
 |some x=>exact⟨x,rfl⟩
theorem dz{c:List Aq}:∀{f i:Nat} {l:List Nat},Bx c f i=some l→∀{f':Nat} {l':List Nat},Bx c f' i=some l'→l=l':=by
 intro f
 induction f with
 | zero=>
  intro i l h f' l' h';obtain⟨x,hx⟩:=G6 h
  rcases EJ hx h with⟨hs,rfl⟩|⟨hs,f1,j,m,h1,_⟩
  ·rcases EJ hx h' with⟨_,rfl⟩|⟨UH,_⟩
   ·rfl
   ·exact(UH hs).elim
  ·omega
 | succ f ih=>
  intro i l h f' l' h';obtain⟨x,hx⟩:=G6 h
  rcases EJ hx h with⟨hs,rfl⟩|⟨hs,f1,j,m,h1,h2,h3,rfl⟩
  ·rcases EJ hx h' with⟨_,rfl⟩|⟨UH,_⟩
   ·rfl
   ·exact(UH hs).elim
  ·rcases EJ hx h' with⟨UH,_⟩|⟨_,f1',j',m',h1',h2',h3',rfl⟩
   ·exact(hs UH).elim
   ·have:f1=f:=by omega
    subst this;rw[h2]at h2'
    cases h2'
    rw[ih h3 h3']
theorem ue{c:List Aq}:∀{f i:Nat} {l:List Nat},Bx c f i=some l→∀k,l.length≤k+1→Bx c k i=some l:=by
 intro f
 induction f with
 |zero=>
  intro i l h k hk;obtain⟨x,hx⟩:=G6 h
  rcases EJ hx h with⟨hs,rfl⟩|⟨hs,f1,j,m,h1,_⟩
  ·exact Mo hx hs
  ·omega
 | succ f ih=>
  intro i l h k hk;obtain⟨x,hx⟩:=G6 h
  rcases EJ hx h with⟨hs,rfl⟩|⟨hs,f1,j,m,h1,h2,h3,rfl⟩
  ·exact Mo hx hs
  ·have:f1=f:=by omega
   subst this;simp only[aaw]at hk
   have hm:0<m.length:=by
    obtain⟨y,hy⟩:=G6 h3;rcases EJ hy h3 with⟨_,rfl⟩|⟨_,_,_,_,_,_,_,rfl⟩<;>simp
   cases k with
   |zero=>omega
   |succ k=>
    rw[JS hx hs,h2];simp only;rw[ih h3 k (by omega)];rfl
theorem kv{c:List Aq}:∀{f i:Nat} {l:List Nat},Bx c f i=some l→∀j,j∈l→∃f' m,Bx c f' j=some m∧m.length≤l.length:=by
 intro f
 induction f with
 |zero=>
  intro i l h j hj;obtain⟨x,hx⟩:=G6 h
  rcases EJ hx h with⟨hs,rfl⟩|⟨hs,f1,j,m,h1,_⟩
  ·rw[dy.1 hj];exact⟨_,_,h,aag _⟩
  ·omega
 | succ f ih=>
  intro i l h j hj;obtain⟨x,hx⟩:=G6 h
  rcases EJ hx h with⟨hs,rfl⟩|⟨hs,f1,k,m,h1,h2,h3,rfl⟩
  ·rw[dy.1 hj];exact⟨_,_,h,aag _⟩
  ·have:f1=f:=by omega
   subst this
   rcases aaJ.1 hj with rfl|hj
   ·exact⟨_,_,h,aag _⟩
   ·obtain⟨f',m',h4,h5⟩:=ih h3 j hj;exact⟨f',m',h4,by simp only[aaw];omega⟩
theorem pD{c:List Aq}:∀{f i:Nat} {l:List Nat},Bx c f i=some l→l.Nodup:=by
 intro f
 induction f with
 |zero=>
  intro i l h;obtain⟨x,hx⟩:=G6 h
  rcases EJ hx h with⟨hs,rfl⟩|⟨hs,f1,j,m,h1,_⟩
  ·exact abM _ _
  ·omega
 | succ f ih=>
  intro i l h;obtain⟨x,hx⟩:=G6 h
  rcases EJ hx h with⟨hs,rfl⟩|⟨hs,f1,k,m,h1,h2,h3,rfl⟩
  ·exact abM _ _
  ·have:f1=f:=by omega
   subst this;refine List.nodup_cons.2 ⟨λhm=>?_,ih h3⟩;obtain⟨f',m',h4,h5⟩:=kv h3 i hm;have:=dz h h4;rw[←this]at h5;simp only[aaw]at h5;omega
theorem sN{n:Nat}{o:List Nat}(h:o.Nodup)(hl:∀v,v∈o→v<n):o.length≤n:=by
 have:=oz n (o.map λv:Nat=>((v:Int)+1)) (by
  rw[List.Nodup,List.pairwise_map]
  exact h.imp λD3 e=>D3 (by omega)) λv hv=>by
   obtain⟨u,hu,rfl⟩:=aaM.1 hv;have:=hl u hu;omega
 rwa[aaq]at this
theorem d_{c:List Aq}{f i:Nat}{l:List Nat}(h:Bx c f i=some l):Bx c c.length i=some l :=
 ue h _ (by have:=sN (pD h) (Ku c _ _ _ h).2;omega)
def DJ:List ByteArray→List TB→Bool
 |_,[]=>true
 |F,f::fs=>(Dt f.name&&(Gs f.kind&& !F.any λs=>decide (s=f.name)))&&DJ (F++[f.name]) fs
theorem Hv:∀(F:List ByteArray) (fs gs:List TB),DJ F (fs++gs)=(DJ F fs&&DJ (F++fs.map (·.name)) gs)
 |F,[],gs=>by simp[DJ]
 |F,f::fs,gs=>by
  rw[acB,DJ,DJ,Hv];simp[Bool.and_assoc]
theorem WS{fs:List TB}:∀k,k≤fs.length→(DJ [] (fs.take k)=true↔∀j,j<k→FD fs j=false)
 |0,_=>by simp[DJ]
 | k+1,hk=>by
  have hx:=ck (show k<fs.length by omega);have ih:=WS k (by omega:k≤fs.length);rw[aaP,hx,aa9,Hv,aab,ih]
  have hb:FD fs k=false↔DJ ([]++(fs.take k).map (·.name)) [fs[k]]=true:=by
   unfold FD DJ DJ;rw[hx];simp only[abC,aab,aaF,abB,aaK,abi]
   have:Mq fs k fs[k].name=((fs.take k).map (·.name)).any λs=>decide (s=fs[k].name):=by
    unfold Mq CY;rw[abt,aaQ,aaQ]
    constructor
    ·rintro⟨n,hn,h⟩;have hnk:=aaT.1 hn;rw[ck (by omega)]at h;refine⟨fs[n].name,aaM.2 ⟨fs[n],?_,rfl⟩,by simpa using h⟩;exact aa7.2 ⟨n,by omega,rfl⟩
    ·rintro⟨s,hs,h⟩;obtain⟨f,hf,rfl⟩:=aaM.1 hs;obtain⟨n,hn,rfl⟩:=aa7.1 hf;refine⟨n,aaT.2 (by omega),?_⟩;rw[ck (by omega)]
     simpa using h
   rw[this,and_assoc]
  constructor
  ·rintro⟨h1,h2⟩ j hj
   rcases aap.1 hj with h|rfl
   ·exact h1 j h
   ·exact hb.2 h2
  ·intro h;exact⟨λj hj=>h j (by omega),hb.1 (h k (by omega))⟩
theorem pE(fs:List TB):DJ [] fs=!CY fs.length (FD fs):=by
 have h:=WS (fs:=fs) fs.length (aag _);rw[aa_]at h;rw[abt,h,aaK];exact⟨λh=>CG h,λh j hj=>GH h hj⟩
def DH(W:CW)(r:Nat)(S:List ByteArray):Prop:=∃m:List (ByteArray×Value),HX Value.string W r m∧∀s,Ov m s=if S.any (λx=>decide (x=s))then some (.bool true)else none
theorem DH.congr{W W':CW}{r:Nat}{S:List ByteArray}(h:DH W r S)(ho:W'.obj r=W.obj r):DH W' r S:=by
 obtain⟨m,h1,h2⟩:=h;exact⟨m,h1.congr ho,h2⟩
theorem DH.lt{W:CW}(ht:Ai W){r:Nat}{S:List ByteArray}(h:DH W r S):r<W.sz:=by
 obtain⟨m,h1,h2⟩:=h;exact h1.lt ht
theorem AIy:prog.underlying 181=some (.map 9 4):=by kernel_rfl
theorem z4:Is prog 4=some (.bool false):=by kernel_rfl
theorem DH.look{W:CW}{r:Nat}{S:List ByteArray}(h:DH W r S)(s:ByteArray):Y2 prog 181 (.map (some r)) (.string s) false W=some (.bool (S.any λx=>decide (x=s))):=by
 obtain⟨m,h1,h2⟩:=h;rw[Ow AIy u9 rfl z4 Hm h1 s false,h2]
 cases S.any λx=>decide (x=s)<;>rfl
theorem DH.put{W:CW}{r:Nat}{S:List ByteArray}(h:DH W r S){s:ByteArray}{K:CW→Prop}(hK:∀W1,Ep r W W1→DH W1 r (S++[s])→K W1):wV (rH prog 181 (.map (some r)) (.string s) (.bool true) W) K:=by
 obtain⟨m,h1,h2⟩:=h;refine rz AIy u9 rfl Hm h1 λW1 hu hm=>hK W1 hu ⟨_,hm,λu=>?_⟩;rw[Mn,h2,List.any_append]
 by_cases e:u=s
 ·rw[aae e,e];simp
 ·rw[aad e];have:([s].any λx=>decide (x=u))=false:=by simp;exactλh=>e h.symm
  rw[this,acX]
def kx(W:CW)(u:Value)(x:Aq):Prop:=∃vf ab lb cb,u=.agg #[.string x.name,.string x.Bg,vf,.int .u8 x.elem,.slice ab lb cb]∧Ab 2 (U8 W) vf x.fields
theorem GF{S:Nat→Prop}{W W':CW}(h:Bw S W W')(ht:Ai W)(hm:∀j,S j→∀k,W.cell j k=none){b k:Nat}{v:Value}(hc:W.cell b k=some v):W'.cell b k=some v :=
 h.cell ht (λhs=>by rw[hm b hs k]at hc;cases hc) hc
theorem DH.cell{W:CW}{r:Nat}{S:List ByteArray}(h:DH W r S)(k:Nat):W.cell r k=none:=by
 obtain⟨m,⟨es,Fz,h1,_⟩,_⟩:=h;unfold CW.cell;rw[h1]
def X2(W:CW)(r:Nat)(c:List Aq):Prop:=∃m:List (ByteArray×Value),HX Value.string W r m∧∀s,match A3 c s with
 |some i=>∃u x,Ov m s=some u∧c[i]?=some x∧kx W u x
 |none=>Ov m s=none
theorem u75:prog.underlying 75=some (.map 9 48):=by kernel_rfl
def ABn:Value:=.agg #[.string ⟨#[]⟩,.string ⟨#[]⟩,.slice none 0 0,.int .u8 0,.slice none 0 0]
theorem X2.some{W:CW}{r:Nat}{c:List Aq}(h:X2 W r c){s:ByteArray}{i:Nat}(hi:A3 c s=Option.some i):∃u x,c[i]?=Option.some x∧kx W u x∧Y2 prog 75 (.map (Option.some r)) (.string s) true W=Option.some (.tuple #[u,.bool true])∧Y2 prog 75 (.map (Option.some r)) (.string s) false W=Option.some u:=by
 obtain⟨m,h1,h2⟩:=h;have:=h2 s;rw[hi]at this;obtain⟨u,x,h3,h4,h5⟩:=this
 refine⟨u,x,h4,h5,?_,?_⟩
 ·rw[Ow u75 u9 rfl wz Hm h1 s true,h3];rfl
 ·rw[Ow u75 u9 rfl wz Hm h1 s false,h3];rfl
theorem X2.none{W:CW}{r:Nat}{c:List Aq}(h:X2 W r c){s:ByteArray}(hi:A3 c s=Option.none):Y2 prog 75 (.map (Option.some r)) (.string s) true W=Option.some (.tuple #[ABn,.bool false])∧Y2 prog 75 (.map (Option.some r)) (.string s) false W=Option.some ABn:=by
 obtain⟨m,h1,h2⟩:=h;have:=h2 s;rw[hi]at this
 constructor
 ·rw[Ow u75 u9 rfl wz Hm h1 s true,this];rfl
 ·rw[Ow u75 u9 rfl wz Hm h1 s false,this];rfl
theorem kx.Dk{S:Nat→Prop}{W W':CW}(h:Bw S W W')(ht:Ai W)(hm:∀j,S j→∀k,W.cell j k=none){u:Value}{x:Aq}(hu:kx W u x):kx W' u x:=by
 obtain⟨vf,ab,lb,cb,h1,h2⟩:=hu;exact⟨vf,ab,lb,cb,h1,h2.imp λ_ _ _ hr=>⟨GF h ht hm hr.name,GF h ht hm hr.kind,hr.lo,hr.hi⟩⟩
theorem X2.Dk{S:Nat→Prop}{W W':CW}(h:Bw S W W')(ht:Ai W)(hm:∀j,S j→∀k,W.cell j k=Option.none){r:Nat}{c:List Aq}(hr:X2 W r c)(hS:¬S r):X2 W' r c:=by
 obtain⟨m,h1,h2⟩:=hr;refine⟨m,h1.congr (h.obj r (h1.lt ht) hS),λs=>?_⟩;have:=h2 s
 cases hi:A3 c s with
 |none=>rw[hi]at this;exact this
 |some i=>
  rw[hi]at this;obtain⟨u,x,h3,h4,h5⟩:=this;exact⟨u,x,h3,h4,h5.Dk h ht hm⟩
theorem X2.kp{W W':CW}{r:Nat}{c:List Aq}(hr:X2 W r c)(ht:Ai W)(k:Kp W W'):X2 W' r c:=hr.Dk (Bw.HY (S:=λ_=>False) k) ht (λ_ h=>h.elim) (λh=>h)
theorem DH.kp{W W':CW}{r:Nat}{S:List ByteArray}(h:DH W r S)(ht:Ai W)(k:Kp W W'):DH W' r S:=h.congr (k.obj r (h.lt ht))
structure VG(W:CW)(bk bs ba bf rs rf r1:Nat)(c:List Aq):Prop where
 k:W.cell bk 0=some (.map (some r1))
 s:W.cell bs 0=some (.map (some rs))
 f:W.cell bf 0=some (.map (some rf))
 a:W.cell ba 0=some (.func (.func 125) #[] #[.pointer (some ⟨bk,0,none⟩),.pointer (some ⟨bs,0,none⟩),.pointer (some ⟨ba,0,none⟩),.pointer (some ⟨bf,0,none⟩)])
 sh:X2 W r1 c
 ns:r1≠rs
 nf:r1≠rf
 sf:rs≠rf
def Zo(rs rf:Nat)(j:Nat):Prop:=j=rs∨j=rf
theorem Zo.none{W:CW}{rs rf:Nat}{S F:List ByteArray}(hs:DH W rs S)(hf:DH W rf F):∀j,Zo rs rf j→∀k,W.cell j k=none:=by
 rintro j (rfl|rfl) k
 ·exact hs.cell k
 ·exact hf.cell k
theorem VG.Dk{W W':CW}{bk bs ba bf rs rf r1:Nat}{c:List Aq}(R:VG W bk bs ba bf rs rf r1 c)(ht:Ai W){S F:List ByteArray}(hs:DH W rs S)(hf:DH W rf F)(h:Bw (Zo rs rf) W W'):VG W' bk bs ba bf rs rf r1 c :=
 have hm:=Zo.none hs hf
 ⟨GF h ht hm R.k,GF h ht hm R.s,GF h ht hm R.f,GF h ht hm R.a,R.sh.Dk h ht hm (λh=>h.elim R.ns R.nf),R.ns,R.nf,R.sf⟩
theorem U8.ld{W:CW}{b o:Nat}{x:TB}(h:U8 W b o x):ld prog 72 (.pointer (some ⟨b,o,none⟩)) W=some (.agg [.string x.name,.int .u8 x.kind].toArray) :=
 DC (vs:=[.string x.name,.int .u8 x.kind]) a72 s72 rfl (by omega) h.cells
theorem AE6:agg? prog 181=some false:=by kernel_rfl
theorem a75:agg? prog 75=some false:=by kernel_rfl
theorem a76:agg? prog 76=some false:=by kernel_rfl
theorem AIz:agg? prog 161=some false:=by kernel_rfl
theorem Jb(a:Addr):Uq prog 78 (.pointer (some a)) 0=some (.pointer (some ⟨a.block,a.off,none⟩)):=by kernel_rfl
theorem L0(a:Addr):Uq prog 78 (.pointer (some a)) 1=some (.pointer (some ⟨a.block,a.off+1,none⟩)):=by kernel_rfl
theorem ky{F:List ByteArray}{gs:List TB}{j:Nat}{g:TB}(hg:gs[j]?=some g):DJ F (gs.take (j+1))=(DJ F (gs.take j)&&(Dt g.name&&(Gs g.kind&& !(F++(gs.take j).map (·.name)).any λs=>decide (s=g.name)))):=by
 rw[aaP,hg,aa9,Hv];congr 1;simp[DJ]
theorem pF{F:List ByteArray}{gs:List TB}(j:Nat)(h:DJ F (gs.take j)=false):DJ F gs=false:=by
 rw[←ab6 j gs,Hv,h,abH]
theorem uf{W0 W:CW}{K:AD}{e e1:Env}{vf out:Value}{bk bs ba bf rs rf r1:Nat}{c:List Aq}{S F:List ByteArray}{gs:List TB}{ks:List Int}(t0:Ai W0)(R:VG W0 bk bs ba bf rs rf r1 c){S0 F0:List ByteArray}(cJ:DH W0 rs S0)(hf0:DH W0 rf F0)(Jt:Bw (Zo rs rf) W0 W)(ht:Ai W)(hs:DH W rs S)(hf:DH W rf F)
  (hv:Ab 2 (U8 W0) vf gs) (hgl:gs.length≤100) (hnm:∀g,g∈gs→g.name.size<1000) (ho:Bu W 5 1 out (De ks)) (SV:Aw W0.sz out) (O2:ks.length<100000)
  (h4:e 4=.pointer (some ⟨bf,0,none⟩)) (h49:e 49=vf) (h50:e 50=.int .i64 gs.length) (he:A9 [4,49,50] e e1) (OI:e1 10=out) (h51:e1 51=.int .i64 0)
  (D8:DJ F gs=false→∀e' W',Bw (Zo rs rf) W0 W'→Ai W'→e' 6=.slice none 0 0→e' 7=.bool false→K .ret e' [] W')
  (WT:DJ F gs=true→∀e' W' OA,Bw (Zo rs rf) W0 W'→Ai W'→e' 10=OA→Bu W' 5 1 OA (De (ks++gs.map (·.kind)))→Aw W0.sz OA→DH W' rs S→DH W' rf (F++gs.map (·.name))→K (.exit 0) e' [] W') :
  FX prog Bs none 125 84 (.loop (D6 prog 125 0)) e1 [] W K:=by
 have RG:=Zo.none cJ hf0;have ALJ:=cJ.lt t0;have ALK:=hf0.lt t0
 refine C2 (λj e' EK W'=>EK=[]∧∃OA,Bw (Zo rs rf) W0 W'∧Ai W'∧A9 [4,49,50] e e'∧e' 10=OA∧e' 51=.int .i64 j∧Bu W' 5 1 OA (De (ks++(gs.take j).map (·.kind)))∧Aw W0.sz OA∧DH W' rs S∧DH W' rf (F++(gs.take j).map (·.name))∧DJ F (gs.take j)=true) gs.length
  ⟨rfl,out,Jt,ht,he,OI,h51,by simpa using ho,SV,hs,by simpa using hf,by simp[DJ]⟩ ?_
 rintro j e' EK W' hj ⟨rfl,OA,zQ,t',R0,bJ,g51,Jx,AE7,UH,mi,Al⟩;have g4:=(R0 4 (by decide)).trans h4;have g49:=(R0 49 (by decide)).trans h49;have g50:=(R0 50 (by decide)).trans h50;rw[ABW,g4,g49,g50,g51];simp only[AP,AA]
 refine Eh (λAd=>?_) (λGZ=>?_)
 ·have hx:=ck Ad;obtain⟨a,cap,rfl,hc⟩:=hv;obtain⟨p,rfl,hp⟩:=hc j _ hx;have hpW:U8 W' p.block (p.off+j*2) gs[j]:=⟨GF zQ t0 RG hp.name,GF zQ t0 RG hp.kind,hp.lo,hp.hi⟩
  rw[AY bj s72 Ad];simp only[AA];rw[hpW.ld];simp only[AA];refine EH z72 s72 rfl rfl rfl t' λW1 k1 t1 z1 hB=>?_;have q0:∀W2,Kp W1 W2→ld prog 9 (.pointer (some ⟨W'.sz,0,none⟩)) W2=some (.string gs[j].name):=λW2 k2=>AH a9 (a:=⟨W'.sz,0,none⟩) (k2.cell t1 (hB.cell rfl));have q1:∀W2,Kp W1 W2→ld prog 5 (.pointer (some ⟨W'.sz,0+1,none⟩)) W2=some (.int .u8 gs[j].kind):=λW2 k2=>AH a5 (a:=⟨W'.sz,0+1,none⟩) (k2.cell t1 (hB.cell rfl));simp only[TD,XX,AA,q0 W1 (.refl _)];have hsn:=ky (F:=F) hx;rw[Al,aa4]at hsn;have ANf:=zQ.sz;refine JA (Ox t1 (by have:=hnm _ (aaY Ad);omega)) λW2 k2 t2=>?_;have gh:=k1.trans k2;have pG:Bw (Zo rs rf) W0 W2:=zQ.then (Bw.HY (S:=λ_=>False) gh) λ_ _ h=>h.elim
  have leaf:∀(b:Bool) (e2:Env),A9 [4,10,49,50,51] e' e2→e2 12=.pointer (some ⟨W'.sz,0,none⟩)→e2 70=.bool b→(b=!DJ F (gs.take (j+1)))→
    (LK none (G4 (λj e' EK W'=>EK=[]∧∃OA,Bw (Zo rs rf) W0 W'∧Ai W'∧A9 [4,49,50] e e'∧e' 10=OA∧e' 51=.int .i64 j∧Bu W' 5 1 OA (De (ks++(gs.take j).map (·.kind)))∧Aw W0.sz OA∧DH W' rs S∧DH W' rf (F++(gs.take j).map (·.name))∧DJ F (gs.take j)=true) j gs.length K)) .normal e2 [] W2:=by
   intro b e2 M8 r12 r70 hb;simp only[LK,Aj,r70]
   refine AF (λMI=>?_) (λMI=>?_)
   ·simp only[ZM,dM,Aj,GL,Ib,FH,Ng];rw[MI]at hb;exact D8 (pF (j+1) (by simpa using hb.symm)) _ W2 pG t2 rfl rfl
   ·rw[MI]at hb;have bY:DJ F (gs.take (j+1))=true:=by simpa using hb.symm
    have r4:=(M8 4 (by decide)).trans g4;have r10:=(M8 10 (by decide)).trans bJ;have r51:=(M8 51 (by decide)).trans g51;simp only[ZM,Aj,r4,r10,r12];have qf:ld prog 181 (.pointer (some ⟨bf,0,none⟩)) W2=some (.map (some rf)):=AH AE6 (a:=⟨bf,0,none⟩) (GF pG t0 RG R.f);simp only[qf,AA,TD,XX,q0 W2 k2];refine(mi.kp t' gh).put λW3 hu hf3=>?_;have ALL:rf<W2.sz:=by have:=pG.sz;omega
    have t3:Ai W3:=t2.Ba ALL hu;have ALM:W'.sz≠rf:=by omega
    have qk:ld prog 5 (.pointer (some ⟨W'.sz,0+1,none⟩)) W3=some (.int .u8 gs[j].kind):=AH a5 (a:=⟨W'.sz,0+1,none⟩) (by
     show W3.cell W'.sz (0+1)=_;rw[hu.cell ALM]
     exact k2.cell t1 (hB.cell rfl))
    simp only[qk,AA];have ho3:Bu W3 5 1 OA (De (ks++(gs.take j).map (·.kind))):=AEp (Jx.kp t' gh) hu λb l c e=>by have:=AE7 b l c e;omega
    refine oe LS s5 z5 rfl (by omega) by5 (by omega) (AC4 _) rfl rfl t3 ho3 (by rw[Zj,aas,aaq,aaE];omega) λu v1 W4 IF t4 o4 n4=>?_;have G_:∀i,FA OA i→W0.sz≤i:=λi hi=>AE7.in hi;have ALN:Bw (Zo rs rf) W0 W4:=((pG.then hu.Dk λi hi h=>.inr h)).then IF.Dk λi hi h=>by have:=G_ i h;omega
    have Zp:=IF.sz;simp only[dM,Aj,FH];simp only[AG,AJ,Nat.reduceEqDiff,↓reduceIte,r51,AK,AA]
    have fY:DH W4 rs S:=by
     have h2:=UH.kp t' gh;have h3:DH W3 rs S:=h2.congr (hu.obj rs R.sf);exact h3.congr (IF.obj rs (by rw[hu.sz];have:=pG.sz;omega) λb l c e hb=>by have:=G_ rs ⟨b,l,c,e,hb.symm⟩;omega)
    have hf4:DH W4 rf ((F++(gs.take j).map (·.name))++[gs[j].name]) :=
     hf3.congr (IF.obj rf (by rw[hu.sz];omega) λb l c e hb=>by have:=G_ rf ⟨b,l,c,e,hb.symm⟩;omega)
    refine⟨Ad,trivial,v1,ALN,t4,(R0.trans λt ht=>M8 t (by revert t;decide)).trans ((A9.put rfl).trans (.put rfl)),rfl,by rw[CE (by omega)],?_,n4 _ (by rw[hu.sz];exact pG.sz),fY,?_,bY⟩
    ·rw[aaP,hx];have:De (ks++((gs.take j)++(some gs[j]).toList).map (·.kind))=De (ks++(gs.take j).map (·.kind))++[.int .u8 gs[j].kind]:=by simp only[De,aaI,aa9,abW,List.map_nil,abb]
     rw[this];exact o4
    ·rw[aaP,hx,aaI,←abb];exact hf4
  simp only[AZ,AA]
  refine AF (λhb=>?_) (λhb=>?_)
  ·have hb:Dt gs[j].name=false:=by simpa using hb
   exact leaf true _ (.put rfl) rfl rfl (by rw[hsn,hb];rfl)
  ·have hb:Dt gs[j].name=true:=by simpa using hb
   simp only[q1 W2 k2,AA];refine As (dO _ _) ?_;simp only[AZ,AA]
   refine AF (λUY=>?_) (λUY=>?_)
   ·have UY:Gs gs[j].kind=false:=by unfold Gs;simpa only[aaK]using UY
    exact leaf true _ (.put rfl) rfl rfl (by rw[hsn,hb,UY];rfl)
   ·have UY:Gs gs[j].kind=true:=by unfold Gs;simpa only[abB]using UY
    have qf:ld prog 181 (.pointer (some ⟨bf,0,none⟩)) W2=some (.map (some rf)):=AH AE6 (a:=⟨bf,0,none⟩) (GF pG t0 RG R.f);simp only[qf,q0 W2 k2,AA,(mi.kp t' gh).look];exact leaf _ _ (.put rfl) rfl rfl (by rw[hsn,hb,UY];simp)
 ·simp only[Jp];have gi:gs.take j=gs:=abO (by omega);rw[gi]at Jx mi Al;exact WT Al _ W' OA zQ t' bJ Jx AE7 UH mi
def nameAt(c:List Aq)(i:Nat):ByteArray:=match c[i]? with
 |some x=>x.name
 |none=>Dd
def Ms(c:List Aq)(F:List ByteArray)(s:ByteArray):Option (List TB):=match A3 c s with
 |some i=>match Bx c c.length i with
  |some l=>if DJ F (l.reverse.flatMap (J' c))&&decide ((l.reverse.flatMap (J' c)).length≤60)then some (l.reverse.flatMap (J' c))else none
  |none=>none
 |none=>none
def X3(c:List Aq)(rs rf:Nat)(F:List ByteArray)(s:ByteArray)(W:CW):Ending→CW→Prop:=λe W'=>Bw (Zo rs rf) W W'∧Ai W'∧match Ms c F s with
 |some fs=>∃vo S',e=.returned (.tuple #[vo,.bool true])∧Bu W' 5 1 vo (De (fs.map (·.kind)))∧Aw W.sz vo∧DH W' rs S'∧DH W' rf (F++fs.map (·.name))
 |none=>∃vo,e=.returned (.tuple #[vo,.bool false])
theorem TX(a b c d e:Value):fld prog 48 (.agg #[a,b,c,d,e]) 3=some d:=by kernel_rfl
theorem Zq{args:List Value}{cap:Array Value}{W:CW}{K:Value→CW→Prop}{KP:List PanicEntry→CW→Prop}(h:Ac prog Bs 125 (args++cap.toList) W (Di K KP)):GI prog Bs (.func (.func 125) #[] cap) args W K KP :=
 Na Tryz.func125 (by kernel_rfl) (by simpa using h)
theorem zR{c:List Aq}(hs:∀j,j<c.length→BS c j=false){S:List Nat}(hS:∀j,j∈S→j<c.length){i:Nat}{x:Aq}(hx:c[i]?=some x):((S.map (nameAt c)).any λu=>decide (u=x.name))=decide (i∈S):=by
 rw[abt,aaQ,decide_eq_true_eq]
 constructor
 ·rintro⟨u,hu,he⟩;obtain⟨j,hj,rfl⟩:=aaM.1 hu;have UL:=hS j hj;have bo:=ck UL;have he:=of_decide_eq_true he;unfold nameAt at he;rw[bo]at he
  by_cases e:j=i
  ·exact e▸hj
  ·exact(pC hs e UL (dx.1 hx).1 bo hx he).elim
 ·intro hi;exact⟨x.name,aaM.2 ⟨i,hi,by unfold nameAt;rw[hx]⟩,by simp⟩
theorem AE8{c:List Aq}(hC:QD c)(pH:∀j,j<c.length→BS c j=false){bk bs ba bf rs rf r1:Nat}{F:List ByteArray}:∀(n:Nat) (S:List Nat) (s:ByteArray) (W:CW),Ai W→VG W bk bs ba bf rs rf r1 c→DH W rs (S.map (nameAt c))→DH W rf F→S.Nodup→(∀j,j∈S→j<c.length)→c.length≤n+S.length→
  (∀i0,i0∈S→∀f l,Bx c f i0=some l→∃i f' m,A3 c s=some i∧Bx c f' i=some m∧m.length<l.length)→s.size<1000000→
  Ac prog Bs 125 [.string s,.pointer (some ⟨bk,0,none⟩),.pointer (some ⟨bs,0,none⟩),.pointer (some ⟨ba,0,none⟩),.pointer (some ⟨bf,0,none⟩)] W (X3 c rs rf F s W):=by
 intro n
 induction n using Nat.strongRecOn with
 | ind n ih=>
  intro S s W ht R hs hf WG hSl hlen hinv KB;refine AEa ?_;rw[AEZ];have qk:∀W1,Kp W W1→ld prog 75 (.pointer (some ⟨bk,0,none⟩)) W1=some (.map (some r1)):=λW1 k1=>AH a75 (a:=⟨bk,0,none⟩) (k1.cell ht R.k);have qs:∀W1,Kp W W1→ld prog 181 (.pointer (some ⟨bs,0,none⟩)) W1=some (.map (some rs)):=λW1 k1=>AH AE6 (a:=⟨bs,0,none⟩) (k1.cell ht R.s);simp only[Jb,AA,qk W (.refl _)];generalize FI:AM prog Tryz.f125 (X3 c rs rf F s W)=K
  have G_:∀(e:Env) W' v,Bw (Zo rs rf) W W'→Ai W'→e 6=v→e 7=.bool false→Ms c F s=none→K .ret e [] W':=by
   intro e W' v k t h6 h7 hr;rw[←FI,ZN,h6,h7];unfold X3;rw[hr];exact⟨k,t,v,rfl⟩
  cases hi:A3 c s with
  |none=>
   obtain⟨l1,_⟩:=R.sh.none hi;simp only[l1,CN,CO,AA];have Mt:Ms c F s=none:=by unfold Ms;rw[hi]
   refine EH (ws:=[.string ⟨#[]⟩,.string ⟨#[]⟩,.slice none 0 0,.int .u8 0,.slice none 0 0]) wz WQ rfl rfl rfl ht λW1 k1 t1 z1 hB=>?_;simp only[AZ,AA];rw[show(!false)=true from rfl];simp only[Af,XW,U7,K5,JO,Aj,GL,ZQ];rw[show∀b l,(Env.of (Env.args [Value.string s,.pointer (some ⟨bk,0,none⟩),.pointer (some ⟨bs,0,none⟩),.pointer (some ⟨ba,0,none⟩),.pointer (some ⟨bf,0,none⟩)]) ((26,b)::l)) 26=b fromλ_ _=>rfl];simp only[Af];exact G_ _ W1 _ (Bw.HY k1) t1 rfl rfl Mt
  | some i=>
   obtain⟨u,x,hx,hu,l1,_⟩:=R.sh.some hi;simp only[l1,CN,CO,AA];obtain⟨vf,ab,lb,cb,rfl,hvf⟩:=hu;obtain⟨af,cf,rfl,_⟩:=id hvf;have La:=(dx.1 hx).1
   have Yk:x.name=s:=by
    obtain⟨h1,h2,_⟩:=aaA.1 hi;rw[ck h1]at hx;cases hx;exact of_decide_eq_true h2
   refine EH (ws:=[.string x.name,.string x.Bg,.slice af x.fields.length cf,.int .u8 x.elem,.slice ab lb cb]) wz WQ rfl rfl rfl ht λW1 k1 t1 z1 hB=>?_;simp only[AZ,AA];rw[show(!true)=false from rfl];have bU:=hs.kp ht k1;have hf1:=hf.kp ht k1;simp only[AT,qs W1 k1,AA,bU.look];rw[←Yk,zR pH hSl hx];have e26:∀b l,(Env.of (Env.args [Value.string s,.pointer (some ⟨bk,0,none⟩),.pointer (some ⟨bs,0,none⟩),.pointer (some ⟨ba,0,none⟩),.pointer (some ⟨bf,0,none⟩)]) ((26,b)::l)) 26=b:=λ_ _=>rfl;simp only[XW,Aj];rw[Yk,e26];have RG:=Zo.none hs hf;have AI0:=Zo.none bU hf1;have ALO:=bU.lt t1;have ANg:=hf1.lt t1;have ALJ:=hs.lt ht;have ALK:=hf.lt ht;have q1:∀W2,Bw (Zo rs rf) W1 W2→ld prog 9 (.pointer (some ⟨W.sz,0+1,none⟩)) W2=some (.string x.Bg):=λW2 k2=>AH a9 (a:=⟨W.sz,0+1,none⟩) (GF k2 t1 AI0 (hB.cell rfl));have q2:∀W2,Bw (Zo rs rf) W1 W2→ld prog 45 (.pointer (some ⟨W.sz,0+2,none⟩)) W2=some (.slice af x.fields.length cf):=λW2 k2=>AH a45 (a:=⟨W.sz,0+2,none⟩) (GF k2 t1 AI0 (hB.cell rfl))
   refine AF (λhm=>?_) (λhm=>?_)
   ·have hm:=of_decide_eq_true hm;simp only[U7,K5,JO,Aj,GL,ZQ];refine G_ _ W1 _ (Bw.HY k1) t1 rfl rfl ?_;unfold Ms;rw[hi];simp only
    cases hl:Bx c c.length i with
    |none=>rfl
    |some l=>
     obtain⟨i',f',m,h1,h2,h3⟩:=hinv i hm _ _ hl;rw[hi]at h1;cases h1;rw[dz hl h2]at h3;omega
   ·have hm:=of_decide_eq_false hm;simp only[U7,Aj];simp only[AG,AJ,Lc,Nat.reduceEqDiff,↓reduceIte,Nb,bF,Kn];simp only[qs W1 k1,AA];refine bU.put λW2 QC UJ=>?_;have c2:Bw (Zo rs rf) W1 W2:=⟨by rw[QC.sz];exact aag _,λj hj hn=>QC.obj j (λe=>hn (.inl e))⟩
    have t2:=t1.Ba ALO QC;have xV:DH W2 rf F:=hf1.congr (QC.obj rf (ab8 R.sf));have R1:=R.Dk ht hs hf (Bw.HY k1);have R2:=R1.Dk t1 bU hf1 c2;have c02:Bw (Zo rs rf) W W2:=(Bw.HY k1).then c2 λ_ _ h=>h
    have UJ:DH W2 rs ((S++[i]).map (nameAt c)):=by
     rw[aaI];have:nameAt c i=s:=by unfold nameAt;rw[hx];exact Yk
     simp only[abW,List.map_nil,this];exact UJ
    simp only[TC,AA,q1 W2 c2,K6,G1];have N_:x.fields.length≤100:=hC.fields x (aan hx);have fI:∀g,g∈x.fields→g.name.size<1000:=hC.AC7 x (aan hx)
    have tail:∀(W3:CW) (out:Value) (S3:List ByteArray) (hd:List TB) (e2:Env),Bw (Zo rs rf) W W3→Bw (Zo rs rf) W1 W3→Ai W3→DH W3 rs S3→DH W3 rf (F++hd.map (·.name))→Bu W3 5 1 out (De (hd.map (·.kind)))→Aw W.sz out→hd.length≤60→e2 4=.pointer (some ⟨bf,0,none⟩)→e2 8=.pointer (some ⟨W.sz,0,none⟩)→e2 10=out→
      (Ms c F s=if DJ F (hd++x.fields)&&decide ((hd++x.fields).length≤60)then some (hd++x.fields)else none)→DJ F hd=true→
      (NZ none K) .normal e2 [] W3:=by
     intro W3 out S3 hd e2 c3 c13 t3 ug hf3 ho3 w5 hhl h4 h8 OI Mt ALP;simp only[K5,Aj,h8,Nc,AA,q2 W3 c13,AQ bj];have ANh:=c3.sz
     refine uf (e:=Env.of e2 [(50,.int .i64 x.fields.length),(49,.slice af x.fields.length cf)]) ht R hs hf c3 t3 ug hf3 hvf N_ fI ho3 w5 (by rw[aaq];omega) h4 rfl rfl (λt ht=>by
      simp only[aaJ,ach,or_false]at ht
      rcases ht with rfl|rfl|rfl<;>rfl) OI rfl (λhb e' W' c' t' h6 h7=>?_) (λhb e' W' OA c' t' ALQ Jx we UH mi=>?_)
     ·simp only[GL,Ib,JO];refine G_ e' W' _ c' t' h6 h7 ?_;rw[Mt,Hv,hb];simp
     ·have O2:(De (hd.map (·.kind)++x.fields.map (·.kind))).length=(hd++x.fields).length*1:=by simp[De]
      simp only[Aj,LM,Er,aar,JO,ALQ];rw[Hu LS Jx (by omega) O2];simp only[AA,Dc];have ALR:DJ F (hd++x.fields)=true:=by rw[Hv,ALP,hb];rfl
      rw[ALR,aa4]at Mt;rw[←FI,ZN];unfold X3
      by_cases hle:(hd++x.fields).length≤60
      ·rw[Mt,aae (decide_eq_true hle)];refine⟨c',t',OA,S3,?_,by rw[aaI];exact Jx,we,UH,by rw[aaI,←abb];exact mi⟩;simp only[AG,Nat.reduceEqDiff,↓reduceIte];rw[decide_eq_true (by omega)]
      ·rw[Mt,aad (by simp;simp at hle;omega)];refine⟨c',t',OA,?_⟩;simp only[AG,Nat.reduceEqDiff,↓reduceIte];rw[decide_eq_false (by omega)]
    refine AF (λkz=>?_) (λkz=>?_)
    ·have kz:x.Bg≠Dd:=by simpa[Dd]using kz
     obtain AC_:=R2.sh;have qk2:ld prog 75 (.pointer (some ⟨bk,0,none⟩)) W2=some (.map (some r1)):=AH a75 (a:=⟨bk,0,none⟩) R2.k;have qa2:ld prog 161 (.pointer (some ⟨ba,0,none⟩)) W2=some (.func (.func 125) #[] #[.pointer (some ⟨bk,0,none⟩),.pointer (some ⟨bs,0,none⟩),.pointer (some ⟨ba,0,none⟩),.pointer (some ⟨bf,0,none⟩)]):=AH AIz (a:=⟨ba,0,none⟩) R2.a;simp only[Jb,AA,qk2,q1 W2 c2,qa2]
     have ZV:TF c i=match A3 c x.Bg with
       |some j=>if elemAt c j=0 then some j else none
       |none=>none:=by
      unfold TF;rw[hx];simp only;unfold A3
      cases hj:c.findIdx? λy=>decide (y.name=x.Bg)with
      |none=>rfl
      |some j=>
       have UL:=(aaA.1 hj).1;simp only[elemAt,ck UL]
     have zS:x.Bg.size<1000000:=by have:=hC.sup x (aan hx);omega
     have ABo:∀f m,Bx c f i=some m→∃j f' m',TF c i=some j∧Bx c f' j=some m'∧m=i::m':=by
      intro f m h
      rcases EJ hx h with⟨h1,_⟩|⟨_,f1,j,m',_,h2,h3,h4⟩
      ·exact(kz h1).elim
      ·exact⟨j,f1,m',h2,h3,h4⟩
     have hij:∀j,TF c i=some j→A3 c x.Bg=some j:=by
      intro j h;rw[ZV]at h
      cases hj:A3 c x.Bg with
      |none=>rw[hj]at h;cases h
      |some j'=>
       rw[hj]at h;simp only at h
       split at h
       ·exact h
       ·cases h
     have AI1:(S++[i]).Nodup:=by
      rw[List.nodup_append];exact⟨WG,abM _ _,λa ha b hb=>by rw[dy.1 hb];exactλe=>hm (e▸ha)⟩
     have AI2:∀j,j∈S++[i]→j<c.length:=λj hj=>by
      rcases aaB.1 hj with h|h
      ·exact hSl j h
      ·rw[dy.1 h];exact La
     have hpg:=sN AI1 AI2;rw[aas,aaH]at hpg
     have jT:=ih (n-1) (by omega) (S++[i]) x.Bg W2 t2 R2 UJ xV AI1 AI2 (by rw[aas,aaH];omega) (λi0 h0 f l hl=>by
      have h1:∃f' m,Bx c f' i=some m∧m.length≤l.length:=by
       rcases aaB.1 h0 with h|h
       ·obtain⟨i',f',m,h2,h3,h4⟩:=hinv i0 h f l hl;rw[hi]at h2;cases h2;exact⟨f',m,h3,Nat.le_of_lt h4⟩
       ·rw[dy.1 h]at hl;exact⟨f,l,hl,aag _⟩
      obtain⟨f',m,h2,h3⟩:=h1;obtain⟨j,f2,m',h4,h5,rfl⟩:=ABo f' m h2
      exact⟨j,f2,m',hij j h4,h5,by simp only[aaw]at h3;omega⟩) zS
     have ADA:TF c i=none→Ms c F s=none:=by
      intro h;unfold Ms;rw[hi];simp only
      cases hl:Bx c c.length i with
      |none=>rfl
      |some l=>
       obtain⟨j,_,_,h2,_⟩:=ABo _ _ hl;rw[h]at h2;cases h2
     cases hj:A3 c x.Bg with
     |none=>
      obtain⟨_,l2⟩:=AC_.none hj;rw[hj]at ZV;simp only at ZV;rw[l2];simp only[AA];unfold ABn;rw[TX];simp only[AA,BX];rw[show((0:Int) !=0)=false from rfl];simp only[AT];refine Zq (jT.mono λen W5 ⟨c5,t5,hp⟩=>?_);have:Ms c F x.Bg=none:=by unfold Ms;rw[hj]
      rw[this]at hp;obtain⟨vo,rfl⟩:=hp;simp only[Di,CN,CO,AA,AZ];rw[show(!false)=true from rfl];simp only[Af,K5,JO,Aj,GL];exact G_ _ W5 _ (c02.then c5 λ_ _ h=>h) t5 rfl rfl (ADA ZV)
     | some j=>
      obtain⟨u,y,hy,hu,_,l2⟩:=AC_.some hj;obtain⟨vf2,ab2,lb2,cb2,rfl,_⟩:=hu;rw[hj]at ZV;simp only at ZV;have NG:elemAt c j=y.elem:=by unfold elemAt;rw[hy]
      rw[l2];simp only[AA];rw[TX];simp only[AA,BX]
      refine AF (λhe=>?_) (λhe=>?_)
      ·have he:y.elem≠0:=by simpa using he
       simp only[K5,JO,GL];exact G_ _ W2 _ c02 t2 rfl rfl (ADA (by rw[ZV,aad (by rw[NG];exact he)]))
      ·have he:y.elem=0:=by simpa using he
       have ZV:TF c i=some j:=by rw[ZV,aae (by rw[NG];exact he)]
       have mw:J' c i=x.fields:=by unfold J';rw[hx]
       have mj:Ms c F s=match Bx c c.length j with
         |some m=>if DJ F (m.reverse.flatMap (J' c)++x.fields)&&decide ((m.reverse.flatMap (J' c)++x.fields).length≤60)then some (m.reverse.flatMap (J' c)++x.fields)else none
         |none=>none:=by
        unfold Ms;rw[hi];simp only
        cases hl:Bx c c.length i with
        | none=>
         cases hm:Bx c c.length j with
         |none=>rfl
         |some m=>
          have:Bx c (c.length+1) i=some (i::m):=by rw[JS hx kz,ZV];simp only[hm];rfl
          rw[d_ this]at hl;cases hl
        |some l=>
         obtain⟨j',f',m,h2,h3,rfl⟩:=ABo _ _ hl;rw[ZV]at h2;cases h2;rw[d_ h3];simp only[List.reverse_cons,abd,aaO,acS,abl,mw]
       have uh:Ms c F x.Bg=match Bx c c.length j with
         |some m=>if DJ F (m.reverse.flatMap (J' c))&&decide ((m.reverse.flatMap (J' c)).length≤60)then some (m.reverse.flatMap (J' c))else none
         |none=>none:=by
        unfold Ms;rw[hj]
       refine Zq (jT.mono λen W5 ⟨c5,t5,hp⟩=>?_);have c05:Bw (Zo rs rf) W W5:=c02.then c5 λ_ _ h=>h
       cases hrI:Ms c F x.Bg with
       | none=>
        rw[hrI]at hp;obtain⟨vo,rfl⟩:=hp;simp only[Di,CN,CO,AA,AZ];rw[show(!false)=true from rfl];simp only[Af,K5,JO,Aj,GL];refine G_ _ W5 _ c05 t5 rfl rfl ?_;rw[mj];rw[hrI]at uh
        cases hm:Bx c c.length j with
        |none=>rfl
        |some m=>
         rw[hm]at uh;simp only at uh ⊢
         split at uh
         ·cases uh
         ·rename_i hn;rw[aad];intro hh;apply hn;simp only[aab,decide_eq_true_eq,Hv,aas]at hh ⊢;exact⟨hh.1.1,by omega⟩
       | some fs=>
        rw[hrI]at hp;obtain⟨vo,S',rfl,ho5,hn5,hs5,hf5⟩:=hp;simp only[Di,CN,CO,AA,AZ];rw[show(!true)=false from rfl];simp only[AT];rw[hrI]at uh
        cases hm:Bx c c.length j with
        |none=>rw[hm]at uh;cases uh
        | some m=>
         rw[hm]at uh mj;simp only at uh mj
         split at uh
         ·rename_i hh
          cases uh
          simp only[aab,decide_eq_true_eq]at hh;have nU:=c2.sz;have ANi:=k1.sz;exact tail W5 vo S' _ _ c05 (c2.then c5 λ_ _ h=>h) t5 hs5 hf5 ho5 (λb l c e=>by have:=hn5 b l c e;omega) hh.2 rfl rfl rfl mj hh.1
         ·cases uh
    ·have kz:x.Bg=Dd:=by simpa[Dd]using kz
     refine tail W2 (.slice none 0 0) _ [] _ c02 c2 t2 UJ (by simpa using xV) Bu.nil (Aw.nil _ _ _) (by simp) rfl rfl rfl ?_ rfl;unfold Ms;rw[hi];simp only;rw[Mo hx kz];simp only[List.reverse_cons,List.reverse_nil,abi,aaO,acS,abl];have:J' c i=x.fields:=by unfold J';rw[hx]
     rw[this]
theorem AI3:Is prog 181=some (.map none):=by kernel_rfl
theorem AI4:EM prog 181=some 1:=by kernel_rfl
theorem ALS:Is prog 161=some .nilFunc:=by kernel_rfl
theorem ALT:EM prog 161=some 1:=by kernel_rfl
theorem k_:EM prog 78=some 2:=by kernel_rfl
theorem a78:agg? prog 78=some true:=by kernel_rfl
theorem z78:Is prog 78=some (.agg #[.map none,.map none]):=by kernel_rfl
theorem zU{t:TypeId}{z v:Value}(hz:Is prog t=some z)(hs:EM prog t=some 1)(hzl:z.cells.size=1)(h1:BJ v=true){W:CW}{K:Value→CW→Prop}(ht:Ai W)
  (hk:∀W2,Kp W W2→Ai W2→W2.sz=W.sz+1→A0 W2 W.sz t [v]→K (.pointer (some ⟨W.sz,0,none⟩)) W2):KE (rG prog t W) λp W1=>wV (M6 prog t p v W1) λW2=>K p W2:=by
 refine LL hz hs ht λW1 k1 t1 z1 hB=>?_;refine Ar hs (a:=⟨W.sz,0,none⟩) h1 hB (by simp[hzl]) λW2 hu HD=>?_;rw[VD (by simp[hzl])]at HD;exact hk W2 (k1.Ba (aag _) hu) (t1.Ba (by rw[z1];exact Nat.lt_succ_self _) hu) (by rw[hu.sz,z1]) HD
theorem ABp{t:TypeId}{z:Value}{v:Value→Value}(hz:Is prog t=some z)(hs:EM prog t=some 1)(hzl:z.cells.size=1){W:CW}(h1:BJ (v (.pointer (some ⟨W.sz,0,none⟩)))=true){K:Value→CW→Prop}(ht:Ai W)
  (hk:∀W2,Kp W W2→Ai W2→W2.sz=W.sz+1→A0 W2 W.sz t [v (.pointer (some ⟨W.sz,0,none⟩))]→K (.pointer (some ⟨W.sz,0,none⟩)) W2):KE (rG prog t W) λp W1=>wV (M6 prog t p (v p) W1) λW2=>K p W2:=by
 refine LL hz hs ht λW1 k1 t1 z1 hB=>?_;refine Ar hs (a:=⟨W.sz,0,none⟩) h1 hB (by simp[hzl]) λW2 hu HD=>?_;rw[VD (by simp[hzl])]at HD;exact hk W2 (k1.Ba (aag _) hu) (t1.Ba (by rw[z1];exact Nat.lt_succ_self _) hu) (by rw[hu.sz,z1]) HD
def zV(c:List Aq)(s:ByteArray)(W:CW):Ending→CW→Prop:=λe W'=>Kp W W'∧Ai W'∧match Ms c [] s with
 |some fs=>∃vo,e=.returned (.tuple #[vo,.bool true])∧Bu W' 5 1 vo (De (fs.map (·.kind)))∧Aw W.sz vo
 |none=>∃vo,e=.returned (.tuple #[vo,.bool false])
theorem ABq{c:List Aq}(hC:QD c)(pH:∀j,j<c.length→BS c j=false){r1:Nat}{v2:Value}{s:ByteArray}{W:CW}(ht:Ai W)(hr:X2 W r1 c)(OH:BJ v2=true)(KB:s.size<1000000) :
  Ac prog Bs 102 [.agg #[.map (some r1),v2],.string s] W (zV c s W):=by
 refine AEY ?_;rw[AEX];refine G8 k_ ht λW0 k0 t0 z0 Zd=>?_;have Zd:A0 W0 W.sz 78 [.map (some r1),v2]:=Zd;refine dP (enc:=Value.string) t0 λW1 k1 t1 z1 Ry=>?_;refine zU AI3 AI4 rfl rfl t1 λW3 k3 t3 z3 IG=>?_;refine dP (enc:=Value.string) t3 λW4 k4 t4 z4 xi=>?_;refine zU AI3 AI4 rfl rfl t4 λW6 k6 t6 z6 Mu=>?_;simp only[AA];refine ABp (v:=λp=>.func (.func 125) #[] #[.pointer (some ⟨W.sz,0,none⟩),.pointer (some ⟨W1.sz,0,none⟩),p,.pointer (some ⟨W4.sz,0,none⟩)]) ALS ALT rfl rfl t6 λW8 k8 t8 z8 N2=>?_;rw[AH AIz (a:=⟨W6.sz,0,none⟩) (N2.cell rfl)];simp only[AA];have k08:Kp W0 W8:=(((k1.trans k3).trans k4).trans k6).trans k8;have kk:=k0.trans k08;have cJ:DH W8 W0.sz ([].map (nameAt c)):=⟨[],(Ry.kp t1 (((k3.trans k4).trans k6).trans k8)),λs=>rfl⟩
 have hf0:DH W8 W3.sz []:=⟨[],xi.kp t4 (k6.trans k8),λs=>rfl⟩
 have MU:=(hr.Dk (Bw.HY (S:=λ_=>False) kk) ht (λ_ h=>h.elim) (λh=>h))
 have AI5:r1<W.sz:=by
  obtain⟨m,h1,_⟩:=hr;exact h1.lt ht
 have R:VG W8 W.sz W1.sz W6.sz W4.sz W0.sz W3.sz r1 c:=⟨k08.cell t0 (Zd.cell rfl),(((k4.trans k6).trans k8)).cell t3 (IG.cell rfl),k8.cell t6 (Mu.cell rfl),N2.cell rfl,MU,by omega,by omega,by omega⟩
 refine Zq ((AE8 hC pH c.length [] s W8 t8 R cJ hf0 acN (λj h=>by cases h) (by simp) (λ_ h=>by cases h) KB).mono λen W9 ⟨c9,t9,hp⟩=>?_);have kW:Kp W W9:=Bw.kp kk c9 λj hj=>by rcases hj with rfl|rfl<;>omega
 cases hrr:Ms c [] s with
 |none=>
  rw[hrr]at hp;obtain⟨vo,rfl⟩:=hp;simp only[Di,CN,CO,AA];rw[ZL];refine⟨kW,t9,?_⟩;rw[hrr];exact⟨vo,rfl⟩
 |some fs=>
  rw[hrr]at hp;obtain⟨vo,S',rfl,ho,hn,_,_⟩:=hp;simp only[Di,CN,CO,AA];rw[ZL];refine⟨kW,t9,?_⟩;rw[hrr];exact⟨vo,rfl,ho,λb l c e=>aa5 kk.sz (hn b l c e)⟩
theorem zW{c:List Aq}{s:ByteArray}{i:Nat}(hi:A3 c s=some i):Ms c [] s=if Ih c i then none else some (DM c i):=by
 unfold Ms Ih;rw[hi];simp only
 cases hl:Bx c c.length i with
 |none=>rfl
 | some l=>
  have hf:DM c i=l.reverse.flatMap (J' c):=by unfold DM;rw[hl]
  simp only;rw[←hf,pE]
  by_cases h60:(DM c i).length≤60
  ·rw[decide_eq_true h60,decide_eq_false (by omega)]
   cases CY (DM c i).length (FD (DM c i))<;>rfl
  ·rw[decide_eq_false h60,decide_eq_true (by omega)];simp
end Go.Ce
