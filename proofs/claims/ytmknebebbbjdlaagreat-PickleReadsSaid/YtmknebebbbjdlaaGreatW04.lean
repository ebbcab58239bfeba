/- A part of the proof: Qd, Qe, Qf, Qg, Qh, Qi, ShD, Qj, Qk, Ql, Qm, Qn, Qo, Qp, Qq, Qr, Qs, Ra, Rb, Rc, Xa, Xb, Re, Rf, Rg, Rh, Ri, Rj, Rk, Rl. -/
import Derived.Test.YtmknebebbbjdlaaGreatW02
import Derived.Test.YtmknebebbbjdlaaGreatW03
import Derived.Test.YtmknebebbbjdlaaGreatProg
set_option linter.unusedSectionVars false
set_option linter.unusedVariables false
set_option linter.unusedSimpArgs false
set_option linter.defProp false
set_option maxRecDepth 200000
namespace Go.Ce
open Go Go.Proofs Go.Proofs.Tryz
theorem lA:Tryz.f47.results.toList=[.cell 2 78,.tmp 3]:=by kernel_rfl
theorem O7{P:Program}{fn:Func}{Q:Ending→CW→Prop}{e:Env}{W:CW}{s t:Tmp}{ty:TypeId}{p:Addr}{v:Value}(hr:fn.results.toList=[.cell s ty,.tmp t])(he:e s=.pointer (some p))(hv:ld P ty (.pointer (some p)) W=some v)(hq:Q (.returned (.tuple #[v,e t])) W):AM P fn Q .ret e [] W:=by
 have hv:MO P ty p W=some v:=hv;simp only[AM,Da,hr,Lo,tu,he,hv];exact hq
theorem eA{c:List Aq}{i:Nat}(hs:∀j,j<i+1→BS c j=false){x:Aq}(hx:c[i]?=some x)(s:ByteArray):A3 (c.take (i+1)) s=if s=x.name then some i else A3 (c.take i) s:=by
 unfold A3;have La:=(dx.1 hx).1;rw[aaP,hx,aa9,List.findIdx?_append]
 by_cases e:s=x.name
 ·rw[aae e]
  have:(c.take i).findIdx? (λy=>decide (y.name=s))=none:=by
   rw[aaR];intro y hy;obtain⟨j,hj,rfl⟩:=aa7.1 hy;have:=pC hs (by omega:j≠i) (by omega) (by omega) (ck (by omega)) hx;rw[e]
   simpa using this
  rw[this];simp[ac6,e,aaE];omega
 ·rw[aad e];have:([x].findIdx? λy=>decide (y.name=s))=none:=by simp[ac6];exactλh=>e h.symm
  rw[this]
  cases (c.take i).findIdx? (λy=>decide (y.name=s))<;>rfl
theorem Nn{W W':CW}{r b k:Nat}{v:Value}{m:List (ByteArray×Value)}(hu:Ep r W W')(hm:HX Value.string W r m)(hc:W.cell b k=some v):W'.cell b k=some v:=by
 obtain⟨es,Fz,h1,_⟩:=hm
 have:b≠r:=by
  rintro rfl;unfold CW.cell at hc;rw[h1]at hc;cases hc
 rw[hu.cell this];exact hc
theorem X2.put{W:CW}{r:Nat}{c:List Aq}{i:Nat}{x:Aq}{u:Value}(h:X2 W r (c.take i))(hs:∀j,j<i+1→BS c j=false)(hx:c[i]?=Option.some x)(hu:kx W u x){K:CW→Prop}(hK:∀W1,Ep r W W1→(∀b k v,W.cell b k=Option.some v→W1.cell b k=Option.some v)→X2 W1 r (c.take (i+1))→K W1):wV (rH prog 75 (.map (Option.some r)) (.string x.name) u W) K:=by
 obtain⟨m,h1,h2⟩:=h;refine rz u75 u9 rfl Hm h1 λW1 ZV hm=>?_;have Ah:∀b k v,W.cell b k=Option.some v→W1.cell b k=Option.some v:=λb k v hc=>Nn ZV h1 hc;have hA:∀{u x},kx W u x→kx W1 u x:=λ{u x} ⟨vf,ab,lb,cb,h3,h4⟩=>⟨vf,ab,lb,cb,h3,h4.imp λ_ _ _ hr=>⟨Ah _ _ _ hr.name,Ah _ _ _ hr.kind,hr.lo,hr.hi⟩⟩
 refine hK W1 ZV Ah ⟨_,hm,λs=>?_⟩;have La:=(dx.1 hx).1;rw[eA hs hx,Mn]
 by_cases e:s=x.name
 ·rw[aae e,aae e];exact⟨u,x,rfl,by rw[aaW,aae (by omega)];exact hx,hA hu⟩
 ·rw[aad e,aad e];have:=h2 s
  cases hi:A3 (c.take i) s with
  |none=>rw[hi]at this;exact this
  |some j=>
   rw[hi]at this;obtain⟨u',x',h3,h4,h5⟩:=this;refine⟨u',x',h3,?_,hA h5⟩;rw[aaW]at h4 ⊢
   split at h4
   ·rw[aae (by omega)];exact h4
   ·cases h4
theorem AI6(a b:Nat):wu prog 78 [(0,.map (some a)),(1,.map (some b))]=some (.agg [.map (some a),.map (some b)].toArray):=by kernel_rfl
theorem VH{W:CW}{b a1 a2:Nat}(h:A0 W b 78 [.map (some a1),.map (some a2)]):ld prog 78 (.pointer (some ⟨b,0,none⟩)) W=some (.agg [.map (some a1),.map (some a2)].toArray):=DC (vs:=[.map (some a1),.map (some a2)]) a78 k_ rfl (by omega) h.cells
def RwM(W:CW)(r:Nat)(c:List Aq)(n:Nat):Prop:=∃m:List (ByteArray×Value),HX Value.string W r m∧∀s,match A3 (c.take n) s with
 |some i=>∃v,Ov m s=some v∧Ab 1 (RKd W) v (AX c i)
 |none=>Ov m s=none
theorem u76:prog.underlying 76=some (.map 9 29):=by kernel_rfl
theorem z29:Is prog 29=some (.slice none 0 0):=by kernel_rfl
theorem RwM.put{W:CW}{r:Nat}{c:List Aq}{i:Nat}{x:Aq}{u:Value}(h:RwM W r c i)(hs:∀j,j<c.length→BS c j=false)(hx:c[i]?=some x)(hu:Ab 1 (RKd W) u (AX c i)){K:CW→Prop}(hK:∀W1,Ep r W W1→(∀b k v,W.cell b k=some v→W1.cell b k=some v)→RwM W1 r c (i+1)→K W1):wV (rH prog 76 (.map (some r)) (.string x.name) u W) K:=by
 obtain⟨m,h1,h2⟩:=h;refine rz u76 u9 rfl Hm h1 λW1 ZV hm=>?_;have Ah:∀b k v,W.cell b k=some v→W1.cell b k=some v:=λb k v hc=>Nn ZV h1 hc;have La:=(dx.1 hx).1;refine hK W1 ZV Ah ⟨_,hm,λs=>?_⟩;rw[eA (λj hj=>hs j (by omega)) hx,Mn]
 by_cases e:s=x.name
 ·rw[aae e,aae e];exact⟨u,rfl,hu.imp λ_ _ _ hr=>Ah _ _ _ hr⟩
 ·rw[aad e,aad e];have:=h2 s
  cases hi:A3 (c.take i) s with
  |none=>rw[hi]at this;exact this
  |some j=>
   rw[hi]at this;obtain⟨v,h3,h4⟩:=this;exact⟨v,h3,h4.imp λ_ _ _ hr=>Ah _ _ _ hr⟩
structure IB(W:CW)(r1 r2:Nat)(c:List Aq):Prop where
 sh:X2 W r1 c
 rw:RwM W r2 c c.length
def QF(r1 r2:Nat):Value:=.agg #[.map (some r1),.map (some r2)]
def eB(c:List Aq)(W:CW):Ending→CW→Prop:=λe W'=>Kp W W'∧Ai W'∧∃r1 r2,e=.returned (.tuple #[QF r1 r2,.bool (Bk c)])∧W.sz≤r1∧W.sz≤r2∧(Bk c=true→IB W' r1 r2 c)
structure Zr(W0 W:CW)(b2 b4 r1 r2:Nat):Prop where
 kp:Kp W0 W
 top:Ai W
 b2:A0 W b2 78 [.map none,.map none]
 b4:A0 W b4 78 [.map (some r1),.map (some r2)]
theorem Zr.X4{W0 W W':CW}{b2 b4 r1 r2:Nat}(I:Zr W0 W b2 b4 r1 r2)(k:Kp W W')(t:Ai W'):Zr W0 W' b2 b4 r1 r2:=⟨I.kp.trans k,t,I.b2.ext I.top k,I.b4.ext I.top k⟩
theorem DK{W:CW}{b r:Nat}{el:TypeId}{vs:List Value}{m:List (ByteArray×Value)}(h:A0 W b el vs)(hm:HX Value.string W r m):b≠r:=by
 rintro rfl;obtain⟨es,Fz,h1,_⟩:=hm;obtain⟨c,n,z,h2,_⟩:=h;rw[h1]at h2;cases h2
theorem A0.lC{W:CW}{b k:Nat}{el:TypeId}{vs:List Value}{v:Value}(h:A0 W b el vs)(hc:W.cell b k=some v):vs[k]?=some v:=by
 obtain⟨c,n,z,h1,h2,h3⟩:=h;unfold CW.cell at hc;rw[h1]at hc;simp only at hc
 split at hc
 ·rename_i hk;have hk:k<vs.length:=by omega
  have:=h3 k _ (ck hk);rw[ck hk,←hc,this]
 ·cases hc
theorem Zs{v0:Value}{c:List Aq}{W:CW}(ht:Ai W)(hc:Ab 5 (EI W) v0 c)(hC:QD c):Ac prog Bs 47 [v0] W (eB c W):=by
 refine AIq ?_;rw[AIp];refine LL z78 k_ ht λW0 k0 t0 z0 HD=>?_;have HD:A0 W0 W.sz 78 [.map none,.map none]:=HD;refine dP (enc:=Value.string) t0 λW1 k1 t1 z1 Ry=>?_;refine dP (enc:=Value.string) t1 λW2 k2 t2 z2 CU=>?_;rw[AI6];simp only[AA];refine EH z78 k_ rfl rfl rfl t2 λW4 k4 t4 z4 N3=>?_;obtain⟨a,cap,rfl,_⟩:=id hc;simp only[AQ UG,AA,Ae];have hlen:=hC.len;have kk:Kp W W4:=((k0.trans k1).trans k2).trans k4;have I4:Zr W W4 W.sz W2.sz W0.sz W1.sz:=⟨kk,t4,HD.ext t0 ((k1.trans k2).trans k4),N3⟩
 have zX:=Ry.kp t1 (k2.trans k4);have zY:=CU.kp t2 k4;have r1W:W.sz≤W0.sz:=k0.sz;have r2W:W.sz≤W1.sz:=aa5 r1W k1.sz;generalize MU:W0.sz=r1 at I4 zX Ry r1W;generalize P2:W1.sz=r2 at I4 zY CU r2W;have r12:r1≠r2:=by omega
 generalize W2.sz=b4 at I4;generalize UY:W.sz=b2 at I4;generalize FI:AM prog Tryz.f47 (eB c W)=K
 have DU:∀W1 (ok:Bool),Zr W W1 b2 b4 r1 r2→ok=Bk c→(Bk c=true→IB W1 r1 r2 c)→∀{K':CW→Prop},(∀W2,(∀e,e 2=.pointer (some ⟨b2,0,none⟩)→e 3=.bool ok→K .ret e [] W2)→K' W2)→
   wV (M6 prog 78 (.pointer (some ⟨b2,0,none⟩)) (.agg [.map (some r1),.map (some r2)].toArray) W1) K':=by
  intro W1 ok I Al Iw K' hK';refine G0 k_ (a:=⟨b2,0,none⟩) rfl rfl I.b2 (by simp) λW2 hu hB=>hK' W2 λe h2 h3=>?_;have hu:Ep b2 W1 W2:=hu;rw[←FI];have hB:A0 W2 b2 78 [.map (some r1),.map (some r2)]:=hB;refine O7 lA h2 (VH hB) ?_;have ALU:=I.b2.lt I.top;refine⟨I.kp.Ba (by omega) hu,I.top.Ba ALU hu,r1,r2,by rw[h3,Al];rfl,by omega,by omega,λhc=>?_⟩;obtain⟨⟨m,g1,g2⟩,⟨m',g3,g4⟩⟩:=Iw hc;have Nx:=DK I.b2 g1;have QK:=DK I.b2 g3
  have Ah:∀b k v,v≠.map none→W1.cell b k=some v→W2.cell b k=some v:=λb k v hv h=>by
   rw[hu.cell]
   ·exact h
   ·rintro rfl;have h2:=I.b2.lC h
    match k,h2 with
    |0,h2=>cases h2;exact hv rfl
    |1,h2=>cases h2;exact hv rfl
  refine⟨⟨m,g1.congr (hu.obj r1 (ab8 Nx)),λs=>?_⟩,⟨m',g3.congr (hu.obj r2 (ab8 QK)),λs=>?_⟩⟩
  ·have:=g2 s
   cases hi:A3 c s with
   |none=>rw[hi]at this;exact this
   |some i=>
    rw[hi]at this;obtain⟨u,x,h5,h6,vf,ab,lb,cb,h7,h8⟩:=this;exact⟨u,x,h5,h6,vf,ab,lb,cb,h7,h8.imp λ_ _ _ hr=>⟨Ah _ _ _ (by intro h;cases h) hr.name,Ah _ _ _ (by intro h;cases h) hr.kind,hr.lo,hr.hi⟩⟩
  ·have:=g4 s
   cases hi:A3 (c.take c.length) s with
   |none=>rw[hi]at this;exact this
   |some i=>
    rw[hi]at this;obtain⟨v,h5,h6⟩:=this;exact⟨v,h5,h6.imp λ_ _ _ hr=>Ah _ _ _ (by intro h;cases h) hr⟩
 refine AF (λhg=>?_) (λhg=>?_)
 ·rw[VH I4.b4];simp only[AA]
  have D8:Bk c=false:=by
   have:=of_decide_eq_true hg;unfold Bk;rw[decide_eq_false (by omega)];rfl
  exact DU W4 false I4 D8.symm (λh=>by rw[D8]at h;cases h) λW5 hr=>hr _ rfl rfl
 ·have hg:=of_decide_eq_false hg
  have Js:Bk c=(!CY c.length (BS c)&& !CY c.length (Ih c)):=by
   unfold Bk;rw[decide_eq_true (by omega)];rfl
  have hA0:(∀j,j<0→BS c j=false):=λj h=>by omega
  refine C2 (λi e ds W'=>ds=[]∧Zr W W' b2 b4 r1 r2∧e 0=.slice a c.length cap∧e 19=.slice a c.length cap∧e 20=.int .i64 c.length∧e 21=.int .i64 i∧e 2=.pointer (some ⟨b2,0,none⟩)∧e 4=.pointer (some ⟨b4,0,none⟩)∧X2 W' r1 (c.take i)∧HX Value.string W' r2 []∧∀j,j<i→BS c j=false) c.length
   ⟨rfl,I4,rfl,rfl,rfl,rfl,rfl,rfl,⟨[],zX,λs=>rfl⟩,zY,hA0⟩ ?_
  rintro i e ds W' hi ⟨rfl,I',h0,h19,h20,h21,h2,h4,w6,hrm,A5⟩;rw[AEr,h19,h20,h21];simp only[AP,AA]
  refine Eh (λAd=>?_) (λGZ=>?_)
  ·obtain⟨x,hx⟩:∃x,c[i]?=some x:=⟨_,ck Ad⟩
   have JJ:=aan hx;have kX:Ab 5 (EI W') (.slice a c.length cap) c:=hc.imp λ_ _ _ hr=>hr.kp ht I'.kp;obtain⟨a',cap',ha,Ah⟩:=kX
   cases ha
   obtain⟨p,rfl,hr⟩:=Ah i _ hx;obtain⟨vf,ab,lb,cb,Q6,w4⟩:=hr.ld;obtain⟨af,ow,rfl,_⟩:=id w4;rw[AY UG WQ Ad];simp only[AA,Q6];refine EH wz WQ rfl rfl rfl I'.top λW6 k6 t6 z6 Mu=>?_;have I6:=I'.X4 k6 t6;have q0:∀W7,Kp W6 W7→ld prog 9 (.pointer (some ⟨W'.sz,0,none⟩)) W7=some (.string x.name):=λW7 k7=>AH a9 (a:=⟨W'.sz,0,none⟩) (k7.cell t6 (Mu.cell rfl));have q1:∀W7,Kp W6 W7→ld prog 9 (.pointer (some ⟨W'.sz,0+1,none⟩)) W7=some (.string x.Bg):=λW7 k7=>AH a9 (a:=⟨W'.sz,1,none⟩) (k7.cell t6 (Mu.cell rfl));have q2:∀W7,Kp W6 W7→ld prog 45 (.pointer (some ⟨W'.sz,0+2,none⟩)) W7=some (.slice af x.fields.length ow):=λW7 k7=>AH a45 (a:=⟨W'.sz,2,none⟩) (k7.cell t6 (Mu.cell rfl));have q3:∀W7,Kp W6 W7→ld prog 5 (.pointer (some ⟨W'.sz,0+3,none⟩)) W7=some (.int .u8 x.elem):=λW7 k7=>AH a5 (a:=⟨W'.sz,3,none⟩) (k7.cell t6 (Mu.cell rfl));have zF:BS c i=((!Dt x.name||GD c x i)||((decide (x.elem≠0)&&(!Gs x.elem||decide (x.Bg≠Dd)||decide (0<x.fields.length)))||decide (20<x.fields.length))):=by unfold BS;rw[hx]
   have leaf:∀(W7:CW) (b:Bool) (e1:Env),Kp W6 W7→Ai W7→A9 [0,2,4,19,20,21] e e1→e1 6=.pointer (some ⟨W'.sz,0,none⟩)→e1 73=.bool b→b=BS c i→
     (Lz none (G4 (λi e ds W'=>ds=[]∧Zr W W' b2 b4 r1 r2∧e 0=.slice (some p) c.length cap∧e 19=.slice (some p) c.length cap∧e 20=.int .i64 c.length∧e 21=.int .i64 i∧e 2=.pointer (some ⟨b2,0,none⟩)∧e 4=.pointer (some ⟨b4,0,none⟩)∧X2 W' r1 (c.take i)∧HX Value.string W' r2 []∧∀j,j<i→BS c j=false) i c.length (CB 0 (gZ none K)))) .normal e1 [] W7:=by
    intro W7 b e1 k7 t7 hA g6 g73 hb;have I7:=I6.X4 k7 t7;have g2:=(hA 2 (by decide)).trans h2;have g4:=(hA 4 (by decide)).trans h4;simp only[Lz,Aj,g73]
    refine AF (λMI=>?_) (λMI=>?_)
    ·rw[g2,g4,VH I7.b4];simp only[AA];have D8:Bk c=false:=by rw[Js,Bi Ad (by rw[←hb,MI])];rfl
     refine DU W7 false I7 D8.symm (λh=>by rw[D8]at h;cases h) λW8 hr=>?_;simp only[dk,ku,Aj,GL,Ib,FH,Ng,kr];exact hr _ g2 rfl
    ·have WT:BS c i=false:=by rw[←hb,MI]
     simp only[dk,Aj,g4,g6,Jb,Lw,AA];rw[AH a75 (a:=⟨b4,0,none⟩) (I7.b4.cell rfl),q0 W7 k7,DC (vs:=[.string x.name,.string x.Bg,.slice af x.fields.length ow,.int .u8 x.elem,.slice ab lb cb]) a48 WQ rfl (by omega) (Mu.ext t6 k7).cells];simp only[AA];have k67:=k6.trans k7;have AI7:=w6.kp I'.top k67;refine AI7.put (E_ A5 WT) hx ⟨_,_,_,_,rfl,w4.imp λ_ _ _ hr=>hr.kp I'.top k67⟩ λW8 hu Ah AE9=>?_;obtain⟨m7,g7,_⟩:=AI7;have AI5:=g7.lt I7.top;have t8:=I7.top.Ba AI5 hu;have QK:=DK I7.b2 g7;have hn4:=DK I7.b4 g7;have I8:Zr W W8 b2 b4 r1 r2:=⟨I7.kp.Ba r1W hu,t8,I7.b2.congr (hu.obj _ QK),I7.b4.congr (hu.obj _ hn4)⟩
     simp only[ku,Aj,FH];simp only[AG,AJ,Nat.reduceEqDiff,↓reduceIte,(hA 21 (by decide)).trans h21,AK,AA];refine⟨Ad,trivial,I8,(hA 0 (by decide)).trans h0,(hA 19 (by decide)).trans h19,(hA 20 (by decide)).trans h20,by rw[CE (by omega)],g2,g4,AE9,((hrm.kp I'.top k67).congr (hu.obj _ (ab8 r12))),E_ A5 WT⟩
   have hnp:∀b:Bool,b=(decide (x.elem=0)||(Gs x.elem&&(decide (x.Bg=Dd)&&decide (x.fields.length=0))))→BS c i=((!Dt x.name||GD c x i)||(!b||decide (20<x.fields.length))):=by
    intro b hb;rw[zF,hb];congr 2
    by_cases e1:x.elem=0<;>by_cases e2:x.Bg=Dd<;>by_cases e3:x.fields.length=0<;>cases Gs x.elem<;>simp[e1,e2,e3]<;>omega
   have head:∀(b:Bool) (e1:Env),A9 [0,2,4,19,20,21] e e1→e1 6=.pointer (some ⟨W'.sz,0,none⟩)→e1 5=.int .i64 i→e1 7=.bool b→b=(decide (x.elem=0)||(Gs x.elem&&(decide (x.Bg=Dd)&&decide (x.fields.length=0))))→
     (Nl none (G4 (λi e ds W'=>ds=[]∧Zr W W' b2 b4 r1 r2∧e 0=.slice (some p) c.length cap∧e 19=.slice (some p) c.length cap∧e 20=.int .i64 c.length∧e 21=.int .i64 i∧e 2=.pointer (some ⟨b2,0,none⟩)∧e 4=.pointer (some ⟨b4,0,none⟩)∧X2 W' r1 (c.take i)∧HX Value.string W' r2 []∧∀j,j<i→BS c j=false) i c.length (CB 0 (gZ none K)))) .normal e1 [] W6:=by
    intro b e1 hA g6 g5 g7 hb;have zF:=hnp b hb;have g0:=(hA 0 (by decide)).trans h0;simp only[ua,Aj,g0,g5,g6,g7,Lw,Nc,AA,q0 W6 (.refl _)];refine JA (Ox t6 (by have:=hC.name x JJ;omega)) λW7 k7 t7=>?_;simp only[AZ,AA,Ae]
    refine AF (λhs=>?_) (λhs=>?_)
    ·exact⟨by simp only[q0 W6 (.refl _),and_self],trivial,leaf W7 true _ k7 t7 (hA.trans (.put rfl)) g6 rfl (by rw[zF,hs];rfl)⟩
    ·have tl:∀e2:Env,True:=λ_=>trivial;refine AF (λh=>?g1) (λh=>?g2)
     case' g1=>
      obtain⟨j,rfl⟩:∃j,i=j+1:=⟨i-1,by have:=of_decide_eq_true h;omega⟩
      have UL:j<c.length:=by omega
      have sH:=ck UL;obtain⟨p',ic,hrp⟩:=Ah j _ sH
      cases ic
      have es:((j+1:Nat):Int)-1=(j:Nat):=by omega
      have zD:GD c x (j+1)=!HH (sb c[j].name) (sb x.name):=by unfold GD;simp only[sH]
      have q4:ld prog 9 (.pointer (some ⟨p.block,p.off+j*5,none⟩)) W7=some (.string c[j].name):=AH a9 (a:=⟨p.block,p.off+j*5,none⟩) (k7.cell t6 (k6.cell I'.top hrp.name));simp only[Am,AA,es];rw[wrap64 (by omega) (by omega),AY UG WQ UL];simp only[AA,Lw,q0 W7 k7,q4,PY];refine AF (λhq=>?h1) (λhq=>?h2)
      case h1=>exact⟨by simp only[q0 W6 (.refl _),and_self],trivial,leaf W7 true _ k7 t7 (hA.trans (.put rfl)) g6 rfl (by rw[zF,zD,hq];simp)⟩
      have hpf:=zD.trans hq
     case' g2=>
      have hpf:GD c x i=false:=by
       cases i with
       |zero=>rfl
       |succ i=>have:=of_decide_eq_false h;omega
     all_goals
      rw[hs,hpf,acR,abJ]at zF
      refine AF (λh1=>?_) (λh1=>?_)
      ·exact⟨by simp only[q0 W6 (.refl _),and_self],trivial,leaf W7 true _ k7 t7 (hA.trans (.put rfl)) g6 rfl (by rw[zF,h1];rfl)⟩
      ·simp only[q2 W7 k7,AQ bj,AA,Ae];refine⟨by simp only[q0 W6 (.refl _),and_self],trivial,leaf W7 _ _ k7 t7 (hA.trans (.put rfl)) g6 rfl ?_⟩;rw[zF,h1,abJ];exact decide_eq_decide.2 (by omega)
   simp only[Ko,AA,q3 W6 (.refl _),BD]
   refine AF (λhe=>?_) (λhe=>?_)
   ·have he:x.elem=0:=by simpa using he
    exact head true _ (.put rfl) rfl rfl rfl (by rw[decide_eq_true he];rfl)
   ·have he:¬x.elem=0:=by simpa using he
    refine As (dO _ _) ?_
    refine AF (λhk=>?_) (λhk=>?_)
    ·have hk:Gs x.elem=true:=hk;simp only[TC,AA,q1 W6 (.refl _),H_,G1]
     refine AF (λhsu=>?_) (λhsu=>?_)
     ·have hsu:decide (x.Bg=Dd)=true:=hsu;simp only[Nc,AA,q2 W6 (.refl _),AQ bj,BD];refine head ((x.fields.length:Int)==0) _ (.put rfl) rfl rfl rfl ?_;rw[decide_eq_false he,hk,hsu,abJ,aa4,aa4]
      cases x.fields<;>simp
      omega
     ·have hsu:decide (x.Bg=Dd)=false:=hsu;exact head false _ (.put rfl) rfl rfl rfl (by rw[decide_eq_false he,hsu];simp)
    ·have hk:Gs x.elem=false:=hk;exact head false _ (.put rfl) rfl rfl rfl (by rw[decide_eq_false he,hk];rfl)
  ·have gi:c.take i=c:=abO (by omega);rw[gi]at w6;have hS:∀j,j<c.length→BS c j=false:=λj hj=>A5 j (by omega);have hSa:CY c.length (BS c)=false:=CG hS;rw[hSa]at Js;simp only[Aj,LM,Er,Jp,aar,kr];simp only[AG,AJ,Nat.reduceEqDiff,↓reduceIte,h0];simp only[AQ UG,AA]
   refine C2 (λi e ds W'=>ds=[]∧Zr W W' b2 b4 r1 r2∧e 81=.slice a c.length cap∧e 82=.int .i64 c.length∧e 83=.int .i64 i∧e 2=.pointer (some ⟨b2,0,none⟩)∧e 4=.pointer (some ⟨b4,0,none⟩)∧X2 W' r1 c∧RwM W' r2 c i∧∀j,j<i→Ih c j=false) c.length
    ⟨rfl,I',rfl,rfl,rfl,h2,h4,w6,⟨[],hrm,λs=>by simp[A3,Ov]⟩,by omega⟩ ?_
   rintro i2 e2 ds2 W2 hi2 ⟨rfl,I2,g81,g82,g83,g2,g4,AE',AE_,O4⟩;rw[AEs,g81,g82,g83];simp only[AP,AA]
   refine Eh (λAd=>?_) (λABe=>?_)
   ·obtain⟨x,hx⟩:∃x,c[i2]?=some x:=⟨_,ck Ad⟩
    have JJ:=aan hx;have kX:Ab 5 (EI W2) (.slice a c.length cap) c:=hc.imp λ_ _ _ hr=>hr.kp ht I2.kp;obtain⟨a',cap',ha,Ah⟩:=kX
    cases ha
    obtain⟨p,rfl,hr⟩:=Ah i2 _ hx;obtain⟨vf,ab,lb,cb,Q6,w4⟩:=hr.ld;obtain⟨af,ow,rfl,_⟩:=id w4;rw[AY UG WQ Ad];simp only[AA,Q6];refine EH wz WQ rfl rfl rfl I2.top λW6 k6 t6 z6 Mu=>?_;have I6:=I2.X4 k6 t6;have q0:∀W7,Kp W6 W7→ld prog 9 (.pointer (some ⟨W2.sz,0,none⟩)) W7=some (.string x.name):=λW7 k7=>AH a9 (a:=⟨W2.sz,0,none⟩) (k7.cell t6 (Mu.cell rfl));rw[g4,VH I6.b4];simp only[Lw,AA,q0 W6 (.refl _)];refine(ABq hC hS t6 (AE'.kp I2.top k6) rfl (by have:=hC.name x JJ;omega)).mono λen W7 ⟨k7,t7,hp⟩=>?_;have OT:=ABm hS hx;rw[zW OT]at hp;have I7:=I6.X4 k7 t7
    cases mz:Ih c i2 with
    |true=>
     rw[mz]at hp;obtain⟨vo,rfl⟩:=hp;simp only[Di,CN,CO,AA,AZ];rw[show(!false)=true from rfl];simp only[Af];rw[VH I7.b4,g2];simp only[AA];have D8:Bk c=false:=by rw[Js,Bi Ad mz];rfl
     refine DU W7 false I7 D8.symm (λh=>by rw[D8]at h;cases h) λW8 hr=>?_;simp only[dm,GL,Ib,FH,Ng,o3];exact hr _ g2 rfl
    | false=>
     rw[mz]at hp;obtain⟨vo,rfl,ho,hn⟩:=hp;simp only[Di,CN,CO,AA,AZ];rw[show(!true)=false from rfl];simp only[AT,L0,AA,q0 W7 k7];rw[AH a76 (a:=⟨b4,0+1,none⟩) (I7.b4.cell rfl)];simp only[AA];have hvo:Ab 1 (RKd W7) vo (AX c i2):=O1 (f:=λk=>Value.int .u8 k) (by unfold AX;exact ho)
     have AI8:RwM W7 r2 c i2:=by
      obtain⟨m,m1,m2⟩:=AE_;refine⟨m,m1.kp I2.top (k6.trans k7),λs=>?_⟩;have:=m2 s
      cases hi:A3 (c.take i2) s with
      |none=>rw[hi]at this;exact this
      |some i=>
       rw[hi]at this;obtain⟨v,h5,h6⟩:=this;exact⟨v,h5,h6.imp λ_ _ _ hr=>(k6.trans k7).cell I2.top hr⟩
     refine AI8.put hS hx hvo λW8 hu zZ ALV=>?_;obtain⟨m7,g7,_⟩:=AI8;have ALW:=g7.lt I7.top;have QK:=DK I7.b2 g7;have hn4:=DK I7.b4 g7;have I8:Zr W W8 b2 b4 r1 r2:=⟨I7.kp.Ba r2W hu,I7.top.Ba ALW hu,I7.b2.congr (hu.obj _ QK),I7.b4.congr (hu.obj _ hn4)⟩
     have AE9:X2 W8 r1 c:=by
      obtain⟨m,m1,m2⟩:=AE'.kp I2.top (k6.trans k7);refine⟨m,m1.congr (hu.obj _ r12),λs=>?_⟩;have:=m2 s
      cases hi:A3 c s with
      |none=>rw[hi]at this;exact this
      |some i=>
       rw[hi]at this;obtain⟨u,x,h5,h6,vf,ab,lb,cb,h7,h8⟩:=this;exact⟨u,x,h5,h6,vf,ab,lb,cb,h7,h8.imp λ_ _ _ hr=>⟨zZ _ _ _ hr.name,zZ _ _ _ hr.kind,hr.lo,hr.hi⟩⟩
     simp only[dm,Aj,FH];simp only[AG,AJ,Nat.reduceEqDiff,↓reduceIte,g83,AK,AA];exact⟨Ad,trivial,I8,g81,g82,by rw[CE (by omega)],g2,g4,AE9,ALV,E_ O4 mz⟩
   ·have hR:CY c.length (Ih c)=false:=CG λj hj=>O4 j (by omega);have WT:Bk c=true:=by rw[Js,hR];rfl
    have hi3:i2=c.length:=by omega
    rw[hi3]at AE_;simp only[Aj,LM,Er,Jp,aar,o3];simp only[AG,AJ,Nat.reduceEqDiff,↓reduceIte,g2,g4];rw[VH I2.b4];simp only[AA];exact DU W2 true I2 WT.symm (λ_=>⟨AE',AE_⟩) λW8 hr=>hr _ g2 rfl
theorem lD{v0:Value}{l:List Int}{n:Int}{W:CW}(hc:Ab 1 (F9 W) v0 l)(hlen:l.length<1000000):Ac prog Bs 126 [v0,.int .i64 n] W (FY (.int .i64 (Kt l λx=>decide (x=n))) W):=by
 refine AE5 ?_;rw[AE4];obtain⟨a,cap,rfl,Ah⟩:=hc;simp only[AQ J9,AA];refine C2 (λi e ds W'=>W'=W∧ds=[]∧e 0=.slice a l.length cap∧e 1=.int .i64 n∧e 7=.int .i64 l.length∧e 8=.int .i64 i∧∀j x,j<i→l[j]?=some x→decide (x=n)=false) l.length ⟨rfl,rfl,rfl,rfl,rfl,rfl,by omega⟩ ?_;rintro i e ds W' hi ⟨rfl,rfl,h0,h1,h7,h8,A5⟩;rw[ABl,h0,h1,h7,h8];simp only[AP,AA]
 refine Eh (λAd=>?_) (λGZ=>?_)
 ·have hx:=ck Ad;obtain⟨p,rfl,hp⟩:=Ah i _ hx;rw[AY J9 s3 Ad];simp only[AA];rw[AH a3 (a:=⟨p.block,p.off+i*1,none⟩) hp.1];simp only[AA,BD]
  refine AF (λhq=>?_) (λhq=>?_)
  ·have hq:n=l[i]:=by simpa using hq
   simp only[dw,GL,Ib,FH,Ng,gf,Zn];refine⟨?_,rfl⟩;simp only[AG,↓reduceIte];rw[JQ Ad (by simp[hq]) A5]
  ·have hq:¬n=l[i]:=by simpa using hq
   simp only[dw,Aj,FH];simp only[AG,AJ,Nat.reduceEqDiff,↓reduceIte,h0,h1,h7,h8,AK,AA];refine⟨Ad,trivial,trivial,trivial,trivial,trivial,by rw[CE (by omega)],λj x hj Ht=>?_⟩
   rcases aap.1 hj with h2|rfl
   ·exact A5 j x h2 Ht
   ·rw[hx]at Ht;cases Ht;exact decide_eq_false λe=>hq e.symm
 ·simp only[Aj,LM,Er,Jp,aar,gf,Zn];refine⟨?_,rfl⟩;simp only[AG,↓reduceIte];rw[JR λj x hj hx=>A5 j x (by omega) hx]
theorem Zt{v0:Value}{l:List Int}{n:Int}{W:CW}(hc:Ab 1 (F9 W) v0 l)(hlen:l.length<1000000):Ac prog Bs 104 [v0,.int .i64 n] W (FY (.bool (l.any λx=>decide (x=n))) W):=by
 refine AE3 ?_;rw[AE2];refine As (lD hc hlen) ?_;simp only[Bt,AA,pB];refine⟨?_,rfl⟩;simp only[AG,↓reduceIte];congr 2;unfold Kt
 cases h:l.findIdx? λx=>decide (x=n)with
 | none=>
  rw[aaR]at h
  have:(l.any λx=>decide (x=n))=false:=by
   rw[abS];intro x hx;rw[h x hx];simp
  rw[this];rfl
 |some i=>
  obtain⟨h1,h2,_⟩:=aaA.1 h;rw[aaQ.2 ⟨_,aaY h1,h2⟩];simp
def pI(W:CW)(u:Value)(x:DD):Prop:=∃am cm,u=.agg #[.string x.type,.string x.to,.slice am x.map.length cm]∧Ab 1 (F9 W) (.slice am x.map.length cm) x.map
def VI(key:DD→ByteArray)(W:CW)(r:Nat)(l:List DD):Prop:=∃m:List (ByteArray×Value),HX Value.string W r m∧∀s,match l.find? (λx=>decide (key x=s))with
 |some x=>∃u,Ov m s=some u∧pI W u x
 |none=>Ov m s=none
theorem pI.cell{W W1:CW}{u:Value}{x:DD}(h:pI W u x)(hc:∀b k k2 n,W.cell b k=some (.int k2 n)→W1.cell b k=some (.int k2 n)):pI W1 u x:=by
 obtain⟨am,cm,h1,h2⟩:=h;exact⟨am,cm,h1,h2.imp λ_ _ _ hr=>⟨hc _ _ _ _ hr.1,hr.2⟩⟩
theorem VI.cell{key:DD→ByteArray}{W W1:CW}{r:Nat}{l:List DD}(h:VI key W r l)(ho:W1.obj r=W.obj r)(hc:∀b k k2 n,W.cell b k=some (.int k2 n)→W1.cell b k=some (.int k2 n)):VI key W1 r l:=by
 obtain⟨m,h1,h2⟩:=h;refine⟨m,h1.congr ho,λs=>?_⟩;have:=h2 s
 cases hf:l.find? (λx=>decide (key x=s))with
 |none=>rw[hf]at this;exact this
 |some x=>
  rw[hf]at this;obtain⟨u,h3,h4⟩:=this;exact⟨u,h3,h4.cell hc⟩
theorem VI.kp{key:DD→ByteArray}{W W1:CW}{r:Nat}{l:List DD}(h:VI key W r l)(ht:Ai W)(k:Kp W W1):VI key W1 r l:=by
 have h':=h;obtain⟨m,h1,_⟩:=h';exact h.cell (k.obj r (h1.lt ht)) λ_ _ _ _ hc=>k.cell ht hc
theorem u81:prog.underlying 81=some (.map 9 58):=by kernel_rfl
def AFA:Value:=.agg #[.string ⟨#[]⟩,.string ⟨#[]⟩,.slice none 0 0]
theorem z58:Is prog 58=some AFA:=by kernel_rfl
theorem VI.put{key:DD→ByteArray}{W:CW}{r:Nat}{l:List DD}{i:Nat}{x:DD}{u:Value}(h:VI key W r (l.take i))(hx:l[i]?=some x)(ALX:∀j y,j<i→l[j]?=some y→key y≠key x)(hu:pI W u x){K:CW→Prop}
  (hK:∀W1,Ep r W W1→(∀b k v,W.cell b k=some v→W1.cell b k=some v)→VI key W1 r (l.take (i+1))→K W1):wV (rH prog 81 (.map (some r)) (.string (key x)) u W) K:=by
 obtain⟨m,h1,h2⟩:=h;refine rz u81 u9 rfl Hm h1 λW1 ZV hm=>?_;have Ah:∀b k v,W.cell b k=some v→W1.cell b k=some v:=λb k v hc=>Nn ZV h1 hc;refine hK W1 ZV Ah ⟨_,hm,λs=>?_⟩;have La:=(dx.1 hx).1;rw[aaP,hx,aa9,List.find?_append,Mn]
 by_cases e:s=key x
 ·rw[aae e]
  have:(l.take i).find? (λy=>decide (key y=s))=none:=by
   rw[ab4];intro y hy;obtain⟨j,hj,rfl⟩:=aa7.1 hy;have:=ALX j _ (by omega) (ck (by omega));rw[e]
   simpa using this
  rw[this];simp only[Option.none_or,List.find?_cons,e,decide_true];exact⟨u,rfl,hu.cell λ_ _ _ _ hc=>Ah _ _ _ hc⟩
 ·rw[aad e]
  have:([x].find? λy=>decide (key y=s))=none:=by
   rw[ab4];intro y hy;rw[dy.1 hy]
   simpa using ab8 e
  rw[this,Option.or_none];have:=h2 s
  cases hf:(l.take i).find? (λy=>decide (key y=s))with
  |none=>rw[hf]at this;exact this
  |some y=>
   rw[hf]at this;obtain⟨u',h3,h4⟩:=this;exact⟨u',h3,h4.cell λ_ _ _ _ hc=>Ah _ _ _ hc⟩
theorem VI.some{key:DD→ByteArray}{W:CW}{r:Nat}{l:List DD}(h:VI key W r l){s:ByteArray}{x:DD}(hf:l.find? (λx=>decide (key x=s))=Option.some x):∃u,pI W u x∧Y2 prog 81 (.map (Option.some r)) (.string s) true W=Option.some (.tuple #[u,.bool true]):=by
 obtain⟨m,h1,h2⟩:=h;have:=h2 s;rw[hf]at this;obtain⟨u,h3,h4⟩:=this;refine⟨u,h4,?_⟩;rw[Ow u81 u9 rfl z58 Hm h1 s true,h3];rfl
theorem VI.none{key:DD→ByteArray}{W:CW}{r:Nat}{l:List DD}(h:VI key W r l){s:ByteArray}(hf:l.find? (λx=>decide (key x=s))=Option.none):Y2 prog 81 (.map (Option.some r)) (.string s) true W=Option.some (.tuple #[AFA,.bool false]):=by
 obtain⟨m,h1,h2⟩:=h;have:=h2 s;rw[hf]at this;rw[Ow u81 u9 rfl z58 Hm h1 s true,this];rfl
theorem RwM.some{W:CW}{r:Nat}{c:List Aq}(h:RwM W r c c.length){s:ByteArray}{i:Nat}(hi:A3 c s=Option.some i):∃a cap,Y2 prog 76 (.map (Option.some r)) (.string s) false W=Option.some (.slice a (AX c i).length cap)∧Ab 1 (RKd W) (.slice a (AX c i).length cap) (AX c i):=by
 obtain⟨m,h1,h2⟩:=h;have:=h2 s;rw[aa_,hi]at this;obtain⟨v,h3,h4⟩:=this;obtain⟨a,cap,rfl,h5⟩:=id h4;refine⟨a,cap,?_,h4⟩;rw[Ow u76 u9 rfl z29 Hm h1 s false,h3];rfl
def GM(c:List Aq)(l:List DD)(i:Nat)(s:DD):Bool:=match A3 c s.type,A3 c s.to with
 |some t,some a=>(decide (elemAt c t≠0)||decide (elemAt c a≠0)||GW l s i)||decide (s.map.length≠(AX c a).length)
 |_,_=>true
def P6(l:List DD)(i:Nat)(s:DD):Bool:=CY i λk=>decide ((l[k]?).map (·.to)=some s.to)
def Zu(c:List Aq)(s:DD):Bool:=match A3 c s.type,A3 c s.to with
 |some t,some a=>CY (AX c a).length (Fg (AX c t) (AX c a) s.map)
 |_,_=>true
def VK(l:List DD)(s:DD):Bool:=(l.find? λx=>decide (x.type=s.to)).isSome
def ML(c:List Aq)(l:List DD)(i:Nat):Bool:=match l[i]? with
 |none=>true
 |some s=>GM c l i s||(P6 l i s||Zu c s)
theorem VL{c:List Aq}{l:List DD}{i:Nat}{s:DD}(hs:l[i]?=some s):HE c l i=(ML c l i||VK l s):=by
 unfold HE ML GM Zu;rw[hs];simp only
 cases ht:A3 c s.type with
 |none=>simp
 | some t=>
  cases ha:A3 c s.to with
  |none=>simp
  | some a=>
   simp only
   have hn:CY l.length (FC l s i)=(P6 l i s||VK l s):=by
    have La:=(dx.1 hs).1;rw[abt,aaU];unfold VK;rw[acu]
    constructor
    ·intro h;obtain⟨k,hk,hb⟩:=aaQ.1 h;have hk:=aaT.1 hk;unfold FC at hb;have hxk:=ck hk;rw[hxk]at hb;simp only[aaU,aab,decide_eq_true_eq]at hb
     rcases hb with hb|⟨hb,UY⟩
     ·exact .inr ⟨_,aaY hk,by simpa using hb⟩
     ·exact .inl (Bi hb (by rw[hxk];simpa using UY))
    ·rintro(h|⟨x,hx,hb⟩)
     ·obtain⟨k,hk,hb⟩:=aaQ.1 h;have hk:=aaT.1 hk;have hxk:=ck (show k<l.length by omega);rw[hxk]at hb;refine Bi (show k<l.length by omega) ?_;unfold FC;rw[hxk];simp only[aba,aam,decide_eq_true_eq]at hb;simp[hb,hk]
     ·obtain⟨k,hk,rfl⟩:=abo.1 hx;refine Bi hk ?_;unfold FC;rw[ck hk];simp only[hb,Bool.true_or]
   rw[hn]
   cases decide (elemAt c t≠0)<;>cases decide (elemAt c a≠0)<;>cases GW l s i<;>cases P6 l i s<;>cases VK l s<;>cases decide (s.map.length≠(AX c a).length)<;>simp
theorem ABr{c:List Aq}{l:List DD}:∀{i:Nat},(∀j,j<i→∀s,l[j]?=some s→GM c l j s=false)→∀j k x y,j<k→k<i→l[j]?=some x→l[k]?=some y→HH (sb x.type) (sb y.type)=true:=by
 intro i h j k
 induction k with
 |zero=>intro x y hj;omega
 | succ k ih=>
  intro x y hj hk hx hy;have hb:=h (k+1) hk y hy;unfold GM at hb
  split at hb
  ·simp only[aaF]at hb;have hp:=hb.1.2;unfold GW at hp;have O2:k<l.length:=by have:=(dx.1 hy).1;omega
   have hz:=ck O2;simp only[hz,abB]at hp
   rcases aap.1 hj with h1|rfl
   ·exact G5 _ _ _ (ih x _ h1 (by omega) hx hz) hp
   ·rw[hx]at hz;cases hz;exact hp
  ·cases hb
theorem IB.kp{W W':CW}{r1 r2:Nat}{c:List Aq}(h:IB W r1 r2 c)(ht:Ai W)(k:Kp W W'):IB W' r1 r2 c:=by
 refine⟨h.sh.kp ht k,?_⟩;obtain⟨m,m1,m2⟩:=h.rw;refine⟨m,m1.kp ht k,λs=>?_⟩;have:=m2 s
 cases hi:A3 (c.take c.length) s with
 |none=>rw[hi]at this;exact this
 |some i=>
  rw[hi]at this;obtain⟨v,h5,h6⟩:=this;exact⟨v,h5,h6.imp λ_ _ _ hr=>k.cell ht hr⟩
theorem IB.Ba{W W':CW}{r1 r2 r:Nat}{c:List Aq}(h:IB W r1 r2 c)(hu:Ep r W W')(h1:r1≠r)(h2:r2≠r)(Ah:∀b k v,W.cell b k=some v→W'.cell b k=some v):IB W' r1 r2 c:=by
 constructor
 ·obtain⟨m,m1,m2⟩:=h.sh;refine⟨m,m1.congr (hu.obj _ h1),λs=>?_⟩;have:=m2 s
  cases hi:A3 c s with
  |none=>rw[hi]at this;exact this
  |some i=>
   rw[hi]at this;obtain⟨u,x,h5,h6,vf,ab,lb,cb,h7,h8⟩:=this;exact⟨u,x,h5,h6,vf,ab,lb,cb,h7,h8.imp λ_ _ _ hr=>⟨Ah _ _ _ hr.name,Ah _ _ _ hr.kind,hr.lo,hr.hi⟩⟩
 ·obtain⟨m,m1,m2⟩:=h.rw;refine⟨m,m1.congr (hu.obj _ h2),λs=>?_⟩;have:=m2 s
  cases hi:A3 (c.take c.length) s with
  |none=>rw[hi]at this;exact this
  |some i=>
   rw[hi]at this;obtain⟨v,h5,h6⟩:=this;exact⟨v,h5,h6.imp λ_ _ _ hr=>Ah _ _ _ hr⟩
theorem lE{mp:List Int}{k:Nat}(hk:k≤mp.length)(n:Int):MJ mp k n=(mp.take k).any λx=>decide (x=n):=by
 unfold MJ CY;rw[abt,aaQ,aaQ]
 constructor
 ·rintro⟨j,hj,h⟩;have hjk:=aaT.1 hj;rw[ck (by omega)]at h;exact⟨mp[j],aa7.2 ⟨j,by omega,rfl⟩,by simpa using h⟩
 ·rintro⟨x,hx,h⟩;obtain⟨j,hj,rfl⟩:=aa7.1 hx;refine⟨j,aaT.2 (by omega),?_⟩;rw[ck (by omega)]
  simpa using h
theorem za{W:CW}{v:Value}{l:List Int}{k:Nat}(h:Ab 1 (F9 W) v l)(ho:J8 W 3 v)(hk:k≤l.length):∃v',N' prog 40 v none (some (.int .i64 k)) none W=some v'∧Ab 1 (F9 W) v' (l.take k):=by
 obtain⟨a,cap,rfl,hc⟩:=h;obtain⟨he,hle⟩:=ho _ _ _ rfl;have O2:(l.take k).length=k:=by rw[aaE];omega
 refine⟨.slice (cond (Nat.beq cap 0) a (a.map λa=>⟨a.block,a.off+0*1,none⟩)) k cap,?_,⟨_,cap,by rw[O2],λi x hx=>?_⟩⟩
 ·unfold N';rw[J9];simp only[JD,J9,DI,bound,s3];rw[show(decide ((0:Int)≤(k:Int))&&decide ((k:Int)≤(cap:Int)))=true by simp;omega];simp only[cond_true,he,abA,abH,abJ,aav,acX,abT];rw[show Nat.ble k cap=true from aak (by omega)];simp
 ·have hik:i<k:=by have:=(dx.1 hx).1;omega
  rw[aaW,aae hik]at hx;obtain⟨p,rfl,hr⟩:=hc i x hx
  have OR:Nat.beq cap 0=false:=by
   cases hb:Nat.beq cap 0 with
   |false=>rfl
   |true=>have:=aac hb;omega
  rw[OR];exact⟨⟨p.block,p.off+0*1,none⟩,rfl,by rw[abe,abc];exact hr⟩
theorem ABs{W:CW}{K:AD}{e e1:Env}{c:List Aq}{s:DD}{r1 r2 b2 b8 t a:Nat}{vm:Value}(Iw:IB W r1 r2 c)(UY:W.cell b2 1=some (.map (some r2)))(N2:A0 W b8 58 [.string s.type,.string s.to,vm])(bB:Ab 1 (F9 W) vm s.map)(Al:J8 W 3 vm)(ht:A3 c s.type=some t)(ha:A3 c s.to=some a)(hlen:s.map.length=(AX c a).length)(XE:s.map.length<100000)(MV:(AX c t).length<100000)
  (h2:e 2=.pointer (some ⟨b2,0,none⟩)) (h8:e 8=.pointer (some ⟨b8,0,none⟩)) (ALY:e 107=vm) (ALZ:e 108=.int .i64 s.map.length) (he:A9 [1,2,4,6,8,29,30,31,107,108] e e1) (ALa:e1 109=.int .i64 0)
  (MK:Zu c s=true→∀e',A9 [4,6] e e'→wV (ld prog 83 (e' 6) W) λALb=>wV (M6 prog 83 (e' 4) ALb W) λW27=>∀e2:Env,e2 4=e' 4→e2 5=.bool false→K .ret e2 [] W27)
  (G_:Zu c s=false→∀e',A9 [1,2,4,6,8,29,30,31] e e'→K (.exit 2) e' [] W) :
  FX prog Bs none 48 179 (.loop (D6 prog 48 1)) e1 [] W K:=by
 have hms:Zu c s=CY (AX c a).length (Fg (AX c t) (AX c a) s.map):=by unfold Zu;rw[ht,ha]
 refine C2 (λm e' EK W'=>EK=[]∧W'=W∧A9 [1,2,4,6,8,29,30,31,107,108] e e'∧e' 109=.int .i64 m∧∀j,j<m→Fg (AX c t) (AX c a) s.map j=false) s.map.length ⟨rfl,rfl,he,ALa,by omega⟩ ?_;rintro m e' EK W' hm ⟨rfl,rfl,hA,AI9,A5⟩;have g2:=(hA 2 (by decide)).trans h2;have g8:=(hA 8 (by decide)).trans h8;rw[AEu,g2,g8,AI9,(hA 107 (by decide)).trans ALY,(hA 108 (by decide)).trans ALZ];simp only[AP,AA]
 refine Eh (λAd=>?_) (λGZ=>?_)
 ·have hx:=ck Ad;have Yu:m<(AX c a).length:=by omega
  have sG:=ck Yu;obtain⟨av,cv,rfl,hmc⟩:=id bB;obtain⟨q,rfl,hq⟩:=hmc m _ hx;obtain⟨art,crt,lt,hrt⟩:=Iw.rw.some ht;obtain⟨ara,cra,la,hra⟩:=Iw.rw.some ha;rw[AY J9 s3 Ad];simp only[AA,L0,Ic,Kq,Kr];have qm:ld prog 76 (.pointer (some ⟨b2,0+1,none⟩)) W'=some (.map (some r2)):=AH a76 (a:=⟨b2,0+1,none⟩) UY;have qt:ld prog 9 (.pointer (some ⟨b8,0,none⟩)) W'=some (.string s.type):=AH a9 (a:=⟨b8,0,none⟩) (N2.cell rfl);have qa:ld prog 9 (.pointer (some ⟨b8,0+1,none⟩)) W'=some (.string s.to):=AH a9 (a:=⟨b8,0+1,none⟩) (N2.cell rfl);have qv:ld prog 40 (.pointer (some ⟨b8,0+2,none⟩)) W'=some (.slice (some q) s.map.length cv):=AH Ww (a:=⟨b8,0+2,none⟩) (N2.cell rfl);rw[AH a3 (a:=⟨q.block,q.off+m*1,none⟩) hq.1];simp only[AA,qm,qt,lt,AQ LS,Am];rw[wrap64 (by omega) (by omega)];have hmb:Fg (AX c t) (AX c a) s.map m=(decide (s.map[m]<0)||decide (s.map[m]≥(AX c t).length)||decide ((AX c t)[s.map[m].toNat]?≠(AX c a)[m]?)||MJ s.map m s.map[m]):=by unfold Fg;rw[hx]
  have leaf:∀(b:Bool) (e2:Env),A9 [1,2,4,6,8,29,30,31,107,108,109] e' e2→e2 147=.bool b→b=Fg (AX c t) (AX c a) s.map m→(TR none (G4 (λm e' ou ov=>ou=[]∧ov=W'∧A9 [1,2,4,6,8,29,30,31,107,108] e e'∧e' 109=.int .i64 m∧∀j,j<m→Fg (AX c t) (AX c a) s.map j=false) m s.map.length K)) .normal e2 [] W':=by
   intro b e2 M8 ALc hb;simp only[ub,Aj,ALc]
   refine AF (λMI=>?_) (λMI=>?_)
   ·have hA3:A9 [1,2,4,6,8,29,30,31,107,108] e e2:=hA.trans λt ht=>M8 t (by revert t;decide);have:=MK (by rw[hms];exact Bi Yu (by rw[←hb,MI])) e2 (λt ht=>hA3 t (by revert t;decide))
    revert this
    cases ld prog 83 (e2 6) W' with
    |none=>exactλh=>h
    | some v=>
     simp only[AA]
     cases M6 prog 83 (e2 4) v W' with
     |none=>exactλh=>h
     |some W27=>
      simp only[AA];intro h;simp only[dq,GL,FH,Ng];exact h _ rfl rfl
   ·simp only[dq,Aj,FH,(M8 109 (by decide)).trans AI9,AK,AA];refine⟨Ad,trivial,trivial,(hA.trans λt ht=>M8 t (by revert t;decide)).trans (.put rfl),?_,E_ A5 (by rw[←hb,MI])⟩;simp only[AG,↓reduceIte];rw[CE (by omega)]
  refine As (rj _ _ _ _) ?_;simp only[AZ,AA]
  refine AF (λhb=>?_) (λhb=>?_)
  ·refine⟨by simp only[and_self],trivial,leaf true _ (.put rfl) rfl ?_⟩;rw[hmb]
   by_cases h1:s.map[m]<0
   ·rw[decide_eq_true h1];rfl
   ·have:¬(s.map[m]≤((AX c t).length:Int)-1):=by
     intro h2;rw[decide_eq_true (by omega:(0:Int)≤s.map[m]),decide_eq_true h2]at hb
     cases hb
    rw[decide_eq_true (by omega:s.map[m]≥((AX c t).length:Int))];simp
  ·have hb:(decide ((0:Int)≤s.map[m])&&decide (s.map[m]≤((AX c t).length:Int)-1))=true:=by simpa only[abB]using hb
   simp only[aab,decide_eq_true_eq]at hb;obtain⟨hb1,ALD⟩:=hb;obtain⟨v',hsl,ID⟩:=za (k:=m) bB Al (by omega);simp only[qv,hsl,AA];refine As (Zt ID (by rw[aaE];omega)) ?_;have zB:=lE (mp:=s.map) (k:=m) (by omega) s.map[m]
   refine AF (λhd=>?_) (λhd=>?_)
   ·refine⟨by simp only[and_self],trivial,leaf true _ (.put rfl) rfl ?_⟩;rw[hmb,zB,hd];simp
   ·have LU:s.map[m].toNat<(AX c t).length:=by omega
    have hxt:=ck LU;obtain⟨_,_,e3,ALd⟩:=hrt
    cases e3
    obtain⟨_,_,e4,ALe⟩:=hra
    cases e4
    obtain⟨pt,rfl,hpt⟩:=ALd _ _ hxt;obtain⟨pa,rfl,hpa⟩:=ALe _ _ sG
    have ei:UK prog 29 (.slice (some pt) (AX c t).length crt) (.int .i64 s.map[m])=some (.pointer (some ⟨pt.block,pt.off+s.map[m].toNat*1,none⟩)):=by
     have e1:(Value.int IntKind.i64 s.map[m])=.int .i64 ((s.map[m].toNat:Nat):Int):=by rw[Int.toNat_of_nonneg hb1]
     rw[e1];exact AY LS s5 LU
    simp only[ei,AA];rw[AH a5 (a:=⟨pt.block,pt.off+s.map[m].toNat*1,none⟩) hpt];simp only[AA,qm,qa,la];rw[AY LS s5 Yu];simp only[AA];rw[AH a5 (a:=⟨pa.block,pa.off+m*1,none⟩) hpa];simp only[AA,BX];refine⟨by simp only[and_self],trivial,leaf _ _ (.put rfl) rfl ?_⟩;rw[hmb,zB,hd,hxt,sG,decide_eq_false (by omega:¬s.map[m]<0),decide_eq_false (by omega:¬s.map[m]≥((AX c t).length:Int))];simp only[acR,abJ,acX]
    by_cases e:(AX c t)[s.map[m].toNat]=(AX c a)[m]
    ·rw[decide_eq_false (by simp[e])];simp[e]
    ·rw[decide_eq_true (by simpa using e)];simpa using e
 ·simp only[Jp];refine G_ ?_ _ (λt ht=>(A9.put rfl t (by exact ht)).trans (hA t (by revert t;decide)));rw[hms];exact CG λj hj=>A5 j (by omega)
theorem lF:Tryz.f48.results.toList=[.cell 4 83,.tmp 5]:=by kernel_rfl
theorem s83:EM prog 83=some 2:=by kernel_rfl
theorem a83:agg? prog 83=some true:=by kernel_rfl
theorem a81:agg? prog 81=some false:=by kernel_rfl
theorem z83:Is prog 83=some (.agg #[.map none,.map none]):=by kernel_rfl
theorem AI'(a b:Nat):wu prog 83 [(0,.map (some a)),(1,.map (some b))]=some (.agg [.map (some a),.map (some b)].toArray):=by kernel_rfl
theorem gj(a:Addr):Uq prog 83 (.pointer (some a)) 0=some (.pointer (some ⟨a.block,a.off,none⟩)):=by kernel_rfl
theorem gk(a:Addr):Uq prog 83 (.pointer (some a)) 1=some (.pointer (some ⟨a.block,a.off+1,none⟩)):=by kernel_rfl
theorem gl{W:CW}{b a1 a2:Nat}(h:A0 W b 83 [.map (some a1),.map (some a2)]):ld prog 83 (.pointer (some ⟨b,0,none⟩)) W=some (.agg [.map (some a1),.map (some a2)].toArray):=DC (vs:=[.map (some a1),.map (some a2)]) a83 s83 rfl (by omega) h.cells
theorem Hs.ld{W:CW}{b o:Nat}{x:DD}(h:Hs W b o x):∃am cm,ld prog 58 (.pointer (some ⟨b,o,none⟩)) W=some (.agg [.string x.type,.string x.to,.slice am x.map.length cm].toArray)∧Ab 1 (F9 W) (.slice am x.map.length cm) x.map∧J8 W 3 (.slice am x.map.length cm):=by
 obtain⟨v,h1,h2,h3⟩:=h.map;obtain⟨am,cm,rfl,h4⟩:=id h2;refine⟨am,cm,DC (vs:=[.string x.type,.string x.to,.slice am x.map.length cm]) a58 ZR rfl (by omega) ?_,h2,h3⟩;intro j w hj
 match j,hj with
 |0,hj=>cases hj;exact h.type
 |1,hj=>cases hj;exact h.to
 |2,hj=>cases hj;exact h1
theorem Zv{W:CW}{r1:Nat}{c:List Aq}(h:X2 W r1 c)(s:ByteArray):∃ws:List Value,Y2 prog 75 (.map (some r1)) (.string s) true W=some (.tuple #[.agg ws.toArray,.bool (A3 c s).isSome])∧ws.length=5∧ws.all BJ=true∧∀i,A3 c s=some i→ws[3]?=some (.int .u8 (elemAt c i)):=by
 cases hi:A3 c s with
 |none=>
  obtain⟨l1,_⟩:=h.none hi;exact⟨[.string ⟨#[]⟩,.string ⟨#[]⟩,.slice none 0 0,.int .u8 0,.slice none 0 0],l1,rfl,rfl,λi h=>by cases h⟩
 |some i=>
  obtain⟨u,x,hx,hu,l1,_⟩:=h.some hi;obtain⟨vf,ab,lb,cb,rfl,hf⟩:=hu;obtain⟨af,cf,rfl,_⟩:=hf;refine⟨[.string x.name,.string x.Bg,.slice af x.fields.length cf,.int .u8 x.elem,.slice ab lb cb],l1,rfl,rfl,λj h=>?_⟩
  cases h
  unfold elemAt;rw[hx];rfl
theorem pJ{key:DD→ByteArray}{W:CW}{r:Nat}{l:List DD}(h:VI key W r l)(s:ByteArray):∃ws:List Value,Y2 prog 81 (.map (some r)) (.string s) true W=some (.tuple #[.agg ws.toArray,.bool (l.find? λx=>decide (key x=s)).isSome])∧ws.length=3∧ws.all BJ=true:=by
 cases hf:l.find? λx=>decide (key x=s)with
 |none=>exact⟨[.string ⟨#[]⟩,.string ⟨#[]⟩,.slice none 0 0],h.none hf,rfl,rfl⟩
 |some x=>
  obtain⟨u,hu,l1⟩:=h.some hf;obtain⟨am,cm,rfl,_⟩:=hu;exact⟨[.string x.type,.string x.to,.slice am x.map.length cm],l1,rfl,rfl⟩
structure VM(W0 W:CW)(b2 b4 b6 r1 r2 w r:Nat)(c:List Aq):Prop where
 kp:Kp W0 W
 top:Ai W
 b2:A0 W b2 78 [.map (some r1),.map (some r2)]
 b4:A0 W b4 83 [.map none,.map none]
 b6:A0 W b6 83 [.map (some w),.map (some r)]
 cat:IB W r1 r2 c
theorem VM.X4{W0 W W':CW}{b2 b4 b6 r1 r2 w r:Nat}{c:List Aq}(I:VM W0 W b2 b4 b6 r1 r2 w r c)(k:Kp W W')(t:Ai W'):VM W0 W' b2 b4 b6 r1 r2 w r c:=⟨I.kp.trans k,t,I.b2.ext I.top k,I.b4.ext I.top k,I.b6.ext I.top k,I.cat.kp I.top k⟩
def eD(c:List Aq)(l:List DD)(W:CW):Ending→CW→Prop:=λe W'=>Kp W W'∧Ai W'∧∃w r,e=.returned (.tuple #[.agg #[.map (some w),.map (some r)],.bool (Be c l)])∧(Be c l=true→VI DD.type W' w l∧VI DD.to W' r l)
theorem lG {v1:Value}{c:List Aq}{l:List DD}{r1 r2:Nat}{W:CW}(ht:Ai W)(Iw:IB W r1 r2 c)(hC:QD c)(hl:Ab 3 (Hs W) v1 l)(OU:l.length<100000)(M9:∀s,s∈l→s.map.length<100000):Ac prog Bs 48 [QF r1 r2,v1] W (eD c l W):=by
 refine AIt ?_;rw[AIs];obtain⟨a,cap,rfl,_⟩:=id hl;unfold QF;refine G8 k_ ht λW0 k0 t0 z0 HD=>?_;have HD:A0 W0 W.sz 78 [.map (some r1),.map (some r2)]:=HD;refine LL z83 s83 t0 λW1 k1 t1 z1 N3=>?_;have N3:A0 W1 W0.sz 83 [.map none,.map none]:=N3;refine dP (enc:=Value.string) t1 λW2 k2 t2 z2 Ry=>?_;refine dP (enc:=Value.string) t2 λW3 k3 t3 z3 CU=>?_;rw[AI'];simp only[AA];refine EH z83 s83 rfl rfl rfl t3 λW5 k5 t5 z5 Mu=>?_;simp only[AQ Vt,AA,Ae];have k15:=(k2.trans k3).trans k5;have kk:Kp W W5:=(k0.trans k1).trans k15;have I5:VM W W5 W.sz W0.sz W3.sz r1 r2 W1.sz W2.sz c:=⟨kk,t5,HD.ext t0 (k1.trans k15),N3.ext t1 k15,Mu,Iw.kp ht kk⟩
 have zX:=Ry.kp t2 (k3.trans k5);have zY:=CU.kp t3 k5;have wW:W.sz≤W1.sz:=(k0.trans k1).sz;have rW:W.sz≤W2.sz:=aa5 wW k2.sz;have r1l:r1<W.sz:=by obtain⟨m,h1,_⟩:=Iw.sh;exact h1.lt ht
 have r2l:r2<W.sz:=by obtain⟨m,h1,_⟩:=Iw.rw;exact h1.lt ht
 have P_:W1.sz≠W2.sz:=by omega
 generalize W1.sz=w at I5 zX wW P_;generalize W2.sz=r at I5 zY rW P_;generalize W3.sz=b6 at I5;have AI_:W.sz≤W0.sz:=k0.sz;generalize W0.sz=b4 at I5 AI_;generalize FI:AM prog Tryz.f48 (eD c l W)=K
 have DU:∀W1 (ok:Bool),VM W W1 W.sz b4 b6 r1 r2 w r c→ok=Be c l→(Be c l=true→VI DD.type W1 w l∧VI DD.to W1 r l)→∀{K':CW→Prop},(∀W2,(∀e,e 4=.pointer (some ⟨b4,0,none⟩)→e 5=.bool ok→K .ret e [] W2)→K' W2)→
   wV (M6 prog 83 (.pointer (some ⟨b4,0,none⟩)) (.agg [.map (some w),.map (some r)].toArray) W1) K':=by
  intro W1 ok I Al Iw K' hK';refine G0 s83 (a:=⟨b4,0,none⟩) rfl rfl I.b4 (by simp) λW2 hu hB=>hK' W2 λe h4 h5=>?_;have hu:Ep b4 W1 W2:=hu;rw[←FI];have hB:A0 W2 b4 83 [.map (some w),.map (some r)]:=hB;refine O7 lF h4 (gl hB) ?_;have ALf:=I.b4.lt I.top;refine⟨I.kp.Ba AI_ hu,I.top.Ba ALf hu,w,r,by rw[h5,Al],λhc=>?_⟩;obtain⟨s1,s2⟩:=Iw hc
  have Ah:∀b k k2 n,W1.cell b k=some (.int k2 n)→W2.cell b k=some (.int k2 n):=λb k k2 n h=>by
   rw[hu.cell]
   ·exact h
   ·rintro rfl;have h2:=I.b4.lC h
    match k,h2 with
    |0,h2=>cases h2
    |1,h2=>cases h2
  obtain⟨m,g1,_⟩:=id s1;obtain⟨m',g2,_⟩:=id s2;exact⟨s1.cell (hu.obj _ (ab8 (DK I.b4 g1))) Ah,s2.cell (hu.obj _ (ab8 (DK I.b4 g2))) Ah⟩
 refine AF (λhg=>?_) (λhg=>?_)
 ·rw[gl I5.b6];simp only[AA]
  have D8:Be c l=false:=by
   have:=of_decide_eq_true hg;unfold Be;rw[decide_eq_false (by omega)];rfl
  exact DU W5 false I5 D8.symm (λh=>by rw[D8]at h;cases h) λW6 hr=>hr _ rfl rfl
 ·have hg:=of_decide_eq_false hg
  have Js:Be c l=!CY l.length (HE c l):=by
   unfold Be;rw[decide_eq_true (by omega)];rfl
  have ABt:∀i s,l[i]?=some s→ML c l i=true→Be c l=false:=λi s hs hb=>by
   rw[Js,Bi (dx.1 hs).1 (by rw[VL hs,hb];rfl)];rfl
  refine C2 (λi e ds W'=>ds=[]∧VM W W' W.sz b4 b6 r1 r2 w r c∧e 1=.slice a l.length cap∧e 29=.slice a l.length cap∧e 30=.int .i64 l.length∧e 31=.int .i64 i∧e 2=.pointer (some ⟨W.sz,0,none⟩)∧e 4=.pointer (some ⟨b4,0,none⟩)∧e 6=.pointer (some ⟨b6,0,none⟩)∧VI DD.type W' w (l.take i)∧VI DD.to W' r (l.take i)∧∀j,j<i→ML c l j=false) l.length
   ⟨rfl,I5,rfl,rfl,rfl,rfl,rfl,rfl,rfl,⟨[],zX,λs=>rfl⟩,⟨[],zY,λs=>rfl⟩,by omega⟩ ?_
  rintro i e ds W' hi ⟨rfl,I',h1,h29,h30,h31,h2,h4,h6,hw,hr,A5⟩;rw[AEt,h1,h29,h30,h31,h2];simp only[AP,AA]
  refine Eh (λAd=>?_) (λGZ=>?_)
  ·obtain ⟨s,hs⟩:∃s,l[i]?=some s:=⟨_,ck Ad⟩
   have JJ:=aan hs;have hlW:Ab 3 (Hs W') (.slice a l.length cap) l:=hl.imp λ_ _ _ hr=>hr.kp ht I'.kp;obtain⟨a',cap',ha,Ah⟩:=id hlW
   cases ha
   obtain⟨p,rfl,mj⟩:=Ah i _ hs;obtain⟨am,cm,Q6,Ze,Al⟩:=mj.ld;rw[AY Vt ZR Ad];simp only[AA,Q6];refine EH z58 ZR rfl rfl rfl I'.top λW12 gh t12 z12 N2=>?_;have I12:=I'.X4 gh t12;have qt:∀W7,Kp W12 W7→ld prog 9 (.pointer (some ⟨W'.sz,0,none⟩)) W7=some (.string s.type):=λW7 k7=>AH a9 (a:=⟨W'.sz,0,none⟩) (k7.cell t12 (N2.cell rfl));have qa:∀W7,Kp W12 W7→ld prog 9 (.pointer (some ⟨W'.sz,0+1,none⟩)) W7=some (.string s.to):=λW7 k7=>AH a9 (a:=⟨W'.sz,1,none⟩) (k7.cell t12 (N2.cell rfl));have qv:∀W7,Kp W12 W7→ld prog 40 (.pointer (some ⟨W'.sz,0+2,none⟩)) W7=some (.slice am s.map.length cm):=λW7 k7=>AH Ww (a:=⟨W'.sz,2,none⟩) (k7.cell t12 (N2.cell rfl));have qm1:∀W7,VM W W7 W.sz b4 b6 r1 r2 w r c→ld prog 75 (.pointer (some ⟨W.sz,0,none⟩)) W7=some (.map (some r1)):=λW7 I=>AH a75 (a:=⟨W.sz,0,none⟩) (I.b2.cell rfl);have qm2:∀W7,VM W W7 W.sz b4 b6 r1 r2 w r c→ld prog 76 (.pointer (some ⟨W.sz,0+1,none⟩)) W7=some (.map (some r2)):=λW7 I=>AH a76 (a:=⟨W.sz,1,none⟩) (I.b2.cell rfl);obtain⟨ws1,L1,ALg,AJA,ALh⟩:=Zv I12.cat.sh s.type;simp only[Jb,Ic,Kq,AA,qm1 W12 I12,qt W12 (.refl _),L1,CN,CO];refine EH wz WQ rfl AJA ALg t12 λW14 k14 t14 z14 hB9=>?_;have I14:=I12.X4 k14 t14;obtain⟨ws2,L2,ALi,zb,ALj⟩:=Zv I14.cat.sh s.to;simp only[AA,qm1 W14 I14,qa W14 k14,L2,CN,CO];refine EH wz WQ rfl zb ALi t14 λig k16 t16 z16 pK=>?_;have I16:=I14.X4 k16 t16;have N4:=k14.trans k16;have AFB:=gh.trans N4
   have leaf:∀(b:Bool) (e1:Env),A9 [1,2,4,6,29,30,31] e e1→e1 8=.pointer (some ⟨W'.sz,0,none⟩)→e1 94=.bool b→(b=true→GM c l i s=true)→(b=false→GM c l i s=false)→
     (Kw none (G4 (λi e ds W'=>ds=[]∧VM W W' W.sz b4 b6 r1 r2 w r c∧e 1=.slice (some p) l.length cap∧e 29=.slice (some p) l.length cap∧e 30=.int .i64 l.length∧e 31=.int .i64 i∧e 2=.pointer (some ⟨W.sz,0,none⟩)∧e 4=.pointer (some ⟨b4,0,none⟩)∧e 6=.pointer (some ⟨b6,0,none⟩)∧VI DD.type W' w (l.take i)∧VI DD.to W' r (l.take i)∧∀j,j<i→ML c l j=false) i l.length (CB 0 (o_ none K)))) .normal e1 [] ig:=by
    intro b e1 hA g8 g94 TK my;have g1:=(hA 1 (by decide)).trans h1;have g2:=(hA 2 (by decide)).trans h2;have g4:=(hA 4 (by decide)).trans h4;have g6:=(hA 6 (by decide)).trans h6;have g29:=(hA 29 (by decide)).trans h29;have g30:=(hA 30 (by decide)).trans h30;have g31:=(hA 31 (by decide)).trans h31;have Zp:ML c l i=(GM c l i s||(P6 l i s||Zu c s)):=by unfold ML;rw[hs]
    have GJ:∀W7,VM W W7 W.sz b4 b6 r1 r2 w r c→ML c l i=true→∀{K':CW→Prop},(∀W2,(∀e,e 4=.pointer (some ⟨b4,0,none⟩)→e 5=.bool false→K .ret e [] W2)→K' W2)→
      wV (M6 prog 83 (.pointer (some ⟨b4,0,none⟩)) (.agg [.map (some w),.map (some r)].toArray) W7) K':=λW7 I hb=>
     have D8:=ABt i s hs hb
     DU W7 false I D8.symm (λh=>by rw[D8]at h;cases h)
    simp only[Kw,Aj,g94]
    refine AF (λMI=>?_) (λMI=>?_)
    ·rw[g4,g6,gl I16.b6];simp only[AA];refine GJ ig I16 (by rw[Zp,TK MI];rfl) λW8 zC=>?_;simp only[dp,P4,GL,Ib,FH,Ng,TO];exact zC _ g4 rfl
    ·have MT:=my MI;have ALk:=hr.kp I'.top AFB;have ANj:=hw.kp I'.top AFB;obtain⟨ws3,L3,ALl,AJB⟩:=pJ ALk s.to;simp only[dp,Aj,g6,g8,gk,Kq,AA];rw[AH a81 (a:=⟨b6,0+1,none⟩) (I16.b6.cell rfl)];simp only[AA,qa ig N4,L3,CN,CO];refine EH z58 ZR rfl AJB ALl t16 λW18 k18 t18 z18 ALm=>?_;have m6:=I16.X4 k18 t18;have eE:=N4.trans k18;have zc:=gh.trans eE
     have htw:P6 l i s=((l.take i).find? λx=>decide (x.to=s.to)).isSome:=by
      unfold P6 CY;rw[abt,aaQ,acu]
      constructor
      ·rintro⟨k,hk,hb⟩;have hk:=aaT.1 hk;rw[ck (show k<l.length by omega)]at hb;exact⟨l[k],aa7.2 ⟨k,by omega,rfl⟩,by simpa using hb⟩
      ·rintro⟨x,hx,hb⟩;obtain⟨k,hk,rfl⟩:=aa7.1 hx;refine⟨k,aaT.2 (by omega),?_⟩;rw[ck (show k<l.length by omega)]
       simpa using hb
     refine AF (λgm=>?_) (λgm=>?_)
     ·rw[g4,gl m6.b6];simp only[AA];refine GJ W18 m6 (by rw[Zp,htw,gm];simp) λW8 zC=>?_;simp only[P4,GL,Ib,FH,Ng,TO];exact zC _ g4 rfl
     ·simp only[Kr,AA,qv W18 eE,AQ J9];unfold GM at MT
      cases VE:A3 c s.type with
      |none=>rw[VE]at MT;cases MT
      | some t=>
       cases bH:A3 c s.to with
       |none=>rw[VE,bH]at MT;cases MT
       | some aa=>
        rw[VE,bH]at MT;simp only[aaF,decide_eq_false_iff_not,acs]at MT
        have WK:(AX c t).length<100000:=by
         have h1:=IA hC.len hC.fields t;unfold AX;rw[aaq];omega
        have AFC:∀j,j<i+1→∀y,l[j]?=some y→GM c l j y=false:=λj hj y hy=>by
         rcases aap.1 hj with h|rfl
         ·have:=A5 j h;unfold ML at this;rw[hy]at this;simp only[aaF]at this;exact this.1
         ·rw[hs]at hy;cases hy;unfold GM;rw[VE,bH];simp only[aaF,decide_eq_false_iff_not,acs];exact MT
        refine ABs (e:=Env.of e1 [(8,.pointer (some ⟨W'.sz,0,none⟩)),(107,.slice am s.map.length cm),(108,.int .i64 s.map.length)]) m6.cat (m6.b2.cell rfl) ((N2.ext t12 eE)) (Ze.imp λ_ _ _ hr=>hr.kp I'.top zc) (Al.kp I'.top zc) VE bH MT.2 (M9 s JJ) WK g2 rfl rfl rfl (λt ht=>by
         simp only[aaJ,ach,or_false]at ht
         rcases ht with rfl|rfl|rfl|rfl|rfl|rfl|rfl|rfl|rfl|rfl<;>first|rfl|exact g8) rfl (λhm e2 M8=>?_) (λhm e2 M8=>?_)
        ·have q4:e2 4=.pointer (some ⟨b4,0,none⟩):=(M8 4 (by decide)).trans g4;have q6:e2 6=.pointer (some ⟨b6,0,none⟩):=(M8 6 (by decide)).trans g6;rw[q4,q6,gl m6.b6];simp only[AA];refine GJ W18 m6 (by rw[Zp,hm];simp) λW8 zC=>?_;intro e3 r4 r5;simp only[dn,P4,Aj,GL,Ib,FH,Ng,TO];exact zC _ r4 r5
        ·have q1:e2 1=.slice (some p) l.length cap:=(M8 1 (by decide)).trans g1;have q2:e2 2=.pointer (some ⟨W.sz,0,none⟩):=(M8 2 (by decide)).trans g2;have q4:e2 4=.pointer (some ⟨b4,0,none⟩):=(M8 4 (by decide)).trans g4;have q6:e2 6=.pointer (some ⟨b6,0,none⟩):=(M8 6 (by decide)).trans g6;have q8:e2 8=.pointer (some ⟨W'.sz,0,none⟩):=(M8 8 (by decide)).trans rfl;have q29:e2 29=.slice (some p) l.length cap:=(M8 29 (by decide)).trans g29;have q30:e2 30=.int .i64 l.length:=(M8 30 (by decide)).trans g30;have q31:e2 31=.int .i64 i:=(M8 31 (by decide)).trans g31;have zd:=N2.ext t12 eE;have l58:∀W7,A0 W7 W'.sz 58 [.string s.type,.string s.to,.slice am s.map.length cm]→ld prog 58 (.pointer (some ⟨W'.sz,0,none⟩)) W7=some (.agg [.string s.type,.string s.to,.slice am s.map.length cm].toArray):=λW7 hB=>DC (vs:=[.string s.type,.string s.to,.slice am s.map.length cm]) a58 ZR rfl (by omega) hB.cells;have lr:∀W7,A0 W7 b6 83 [.map (some w),.map (some r)]→ld prog 81 (.pointer (some ⟨b6,0+1,none⟩)) W7=some (.map (some r)):=λW7 hB=>AH a81 (a:=⟨b6,0+1,none⟩) (hB.cell rfl);have lto:∀W7,A0 W7 W'.sz 58 [.string s.type,.string s.to,.slice am s.map.length cm]→ld prog 9 (.pointer (some ⟨W'.sz,0+1,none⟩)) W7=some (.string s.to):=λW7 hB=>AH a9 (a:=⟨W'.sz,0+1,none⟩) (hB.cell rfl);simp only[Aj,LM,Er,aar,dn,q6,q8,gj,gk,Ic,Kq,AA,lr W18 m6.b6,qt W18 eE,qa W18 eE,l58 W18 zd];rw[AH a81 (a:=⟨b6,0,none⟩) (m6.b6.cell rfl)];simp only[AA];have AJC:=hw.kp I'.top zc;have AJD:=hr.kp I'.top zc;have hAS:pI W18 (.agg [.string s.type,.string s.to,.slice am s.map.length cm].toArray) s:=⟨am,cm,rfl,Ze.imp λ_ _ _ hr=>hr.kp I'.top zc⟩
         refine AJC.put (key:=DD.type) hs (λj y hj hy e=>?_) hAS λW20 lH AFD ALn=>?_
         ·have:=ABr AFC j i y s hj (by omega) hy hs;rw[e,Nm]at this;cases this
         ·obtain⟨m18,gw,_⟩:=id AJC;obtain⟨ANk,gr,_⟩:=id AJD;have hwl:=gw.lt t18;have t20:=t18.Ba hwl lH;have I20:VM W W20 W.sz b4 b6 r1 r2 w r c:=⟨m6.kp.Ba wW lH,t20,m6.b2.congr (lH.obj _ (DK m6.b2 gw)),m6.b4.congr (lH.obj _ (DK m6.b4 gw)),m6.b6.congr (lH.obj _ (DK m6.b6 gw)),m6.cat.Ba lH (by omega) (by omega) AFD⟩
          have AJE:=AJD.cell (lH.obj _ (ab8 P_)) λ_ _ _ _ hc=>AFD _ _ _ hc;have ADB:A0 W20 W'.sz 58 [.string s.type,.string s.to,.slice am s.map.length cm]:=zd.congr (lH.obj _ (DK zd gw))
          refine AJE.put (key:=DD.to) hs (λj y hj hy e=>?_) (hAS.cell λ_ _ _ _ hc=>AFD _ _ _ hc) λW21 pL AJF ALo=>?_
          ·have:((l.take i).find? λx=>decide (x.to=s.to)).isSome=true:=by
            rw[acu];have UL:=(dx.1 hy).1;exact⟨y,aa7.2 ⟨j,by omega,(dx.1 hy).2⟩,by simpa using e⟩
           rw[gm]at this;cases this
          ·obtain⟨m20,ABu,_⟩:=id AJE;have AJG:=ABu.lt t20;have I21:VM W W21 W.sz b4 b6 r1 r2 w r c:=⟨I20.kp.Ba rW pL,t20.Ba AJG pL,I20.b2.congr (pL.obj _ (DK I20.b2 ABu)),I20.b4.congr (pL.obj _ (DK I20.b4 ABu)),I20.b6.congr (pL.obj _ (DK I20.b6 ABu)),I20.cat.Ba pL (by omega) (by omega) AJF⟩
           have ALp:=ALn.cell (pL.obj _ P_) λ_ _ _ _ hc=>AJF _ _ _ hc;refine⟨by simp only[l58 W20 ADB,lto W20 ADB,lr W20 I20.b6,and_self],trivial,?_⟩;simp only[P4,Aj,FH];simp only[AG,AJ,Nat.reduceEqDiff,↓reduceIte,q31,AK,AA];refine⟨Ad,trivial,I21,q1,q29,q30,by rw[CE (by omega)],q2,q4,q6,ALp,ALo,E_ A5 ?_⟩;rw[Zp,htw,gm,hm];unfold GM;rw[VE,bH];simp only[acR,acX];rw[aaF];simp only[aaF,decide_eq_false_iff_not,acs];exact MT
   simp only[AZ,AA]
   cases VE:A3 c s.type with
   |none=>
    have hh:GM c l i s=true:=by unfold GM;rw[VE]
    simp only[abA,aa6,Af];exact⟨trivial,trivial,leaf true _ (.put rfl) rfl rfl (λ_=>hh) (λh=>by cases h)⟩
   | some t=>
    simp only[ack,aav,AT]
    cases bH:A3 c s.to with
    |none=>
     have hh:GM c l i s=true:=by unfold GM;rw[VE,bH]
     simp only[abA,aa6,Af];exact⟨trivial,trivial,leaf true _ (.put rfl) rfl rfl (λ_=>hh) (λh=>by cases h)⟩
    | some aa=>
     have hh:GM c l i s=((decide (elemAt c t≠0)||decide (elemAt c aa≠0)||GW l s i)||decide (s.map.length≠(AX c aa).length)):=by unfold GM;rw[VE,bH]
     simp only[ack,aav,AT];have e9:ld prog 5 (.pointer (some ⟨W12.sz,0+3,none⟩)) ig=some (.int .u8 (elemAt c t)):=AH a5 (a:=⟨W12.sz,0+3,none⟩) (k16.cell t14 (hB9.cell (ALh t VE)));have lI:ld prog 5 (.pointer (some ⟨W14.sz,0+3,none⟩)) ig=some (.int .u8 (elemAt c aa)):=AH a5 (a:=⟨W14.sz,0+3,none⟩) (pK.cell (ALj aa bH));obtain⟨ara,cra,la,hra⟩:=I16.cat.rw.some bH;simp only[Ko,AA,e9,lI,BX,Ae,Kr,L0,qv ig N4,qm2 ig I16,qa ig N4,qt ig N4,la,AQ J9,AQ LS]
     refine AF (λhe=>?_) (λhe=>?_)
     ·have he:elemAt c t≠0:=by simpa using he
      exact⟨by simp only[and_self],trivial,leaf true _ (.put rfl) rfl rfl (λ_=>by rw[hh,decide_eq_true he];rfl) (λh=>by cases h)⟩
     ·have he:¬elemAt c t≠0:=by simpa using he
      refine AF (λRD=>?_) (λRD=>?_)
      ·have RD:elemAt c aa≠0:=by simpa using RD
       exact⟨by simp only[and_self],trivial,leaf true _ (.put rfl) rfl rfl (λ_=>by rw[hh,decide_eq_true RD];simp) (λh=>by cases h)⟩
      ·have RD:¬elemAt c aa≠0:=by simpa using RD
       rw[decide_eq_false he,decide_eq_false RD,acR,abJ]at hh
       have V_:GW l s i=false→((s.map.length:Int) !=((AX c aa).length:Nat))=GM c l i s:=λhp=>by
        rw[hh,hp,abJ]
        by_cases e:s.map.length=(AX c aa).length
        ·rw[decide_eq_false (by simpa using e),e];simp
        ·rw[decide_eq_true e];simp;omega
       cases i with
       |zero=>
        refine AF (λh=>by simp at h) (λ_=>?_);have hp:=V_ rfl;exact⟨by simp only[qv ig N4,qm2 ig I16,qa ig N4,AQ J9,AQ LS,and_self],trivial,leaf _ _ (.put rfl) rfl rfl (λh=>by rw[←hp];exact h) (λh=>by rw[←hp];exact h)⟩
       |succ i=>
        refine AF (λ_=>?_) (λh=>by have:=of_decide_eq_false h;omega);have bt:i<l.length:=by omega
        have sH:=ck bt;obtain⟨p',ic,hrp⟩:=Ah i _ sH
        cases ic
        have r3:ld prog 9 (.pointer (some ⟨p.block,p.off+i*3,none⟩)) ig=some (.string l[i].type):=AH a9 (a:=⟨p.block,p.off+i*3,none⟩) (AFB.cell I'.top hrp.type);have es:((i+1:Nat):Int)-1=(i:Nat):=by omega
        simp only[Am,AA,es];rw[wrap64 (by omega) (by omega),AY Vt ZR bt];simp only[AA,Ic,r3,PY];have zD:GW l s (i+1)=!HH (sb l[i].type) (sb s.type):=by unfold GW;simp only[sH]
        refine AF (λhq=>?_) (λhq=>?_)
        ·exact⟨by simp only[qt ig N4,and_self],trivial,leaf true _ (.put rfl) rfl rfl (λ_=>by rw[hh,zD,hq];rfl) (λh=>by cases h)⟩
        ·have hp:=V_ (zD.trans hq);exact⟨by simp only[qt ig N4,qv ig N4,qm2 ig I16,qa ig N4,AQ J9,AQ LS,and_self],trivial,leaf _ _ (.put rfl) rfl rfl (λh=>by rw[←hp];exact h) (λh=>by rw[←hp];exact h)⟩
  ·have gi:l.take i=l:=abO (by omega);rw[gi]at hw hr;have C3:∀j,j<l.length→ML c l j=false:=λj hj=>A5 j (by omega);simp only[Aj,LM,Er,Jp,aar,TO];simp only[AG,AJ,Nat.reduceEqDiff,↓reduceIte,h1];simp only[AQ Vt,AA]
   refine C2 (λi e ds W'=>ds=[]∧VM W W' W.sz b4 b6 r1 r2 w r c∧e 161=.slice a l.length cap∧e 162=.int .i64 l.length∧e 163=.int .i64 i∧e 4=.pointer (some ⟨b4,0,none⟩)∧e 6=.pointer (some ⟨b6,0,none⟩)∧VI DD.type W' w l∧VI DD.to W' r l∧∀j s,j<i→l[j]?=some s→VK l s=false) l.length
    ⟨rfl,I',rfl,rfl,rfl,h4,h6,hw,hr,by omega⟩ ?_
   rintro i2 e2 ds2 W2 hi2 ⟨rfl,I2,AJH,AJI,AJJ,g4,g6,Hl,P2,O4⟩;rw[AEv,AJH,AJI,AJJ,g6];simp only[AP,AA]
   refine Eh (λAd=>?_) (λABe=>?_)
   ·obtain⟨s,hs⟩:∃s,l[i2]?=some s:=⟨_,ck Ad⟩
    have hlW:Ab 3 (Hs W2) (.slice a l.length cap) l:=hl.imp λ_ _ _ hr=>hr.kp ht I2.kp;obtain⟨a',cap',ha,Ah⟩:=id hlW
    cases ha
    obtain⟨p,rfl,mj⟩:=Ah i2 _ hs;obtain⟨am,cm,Q6,Ze,Al⟩:=mj.ld;rw[AY Vt ZR Ad];simp only[AA,Q6];refine EH z58 ZR rfl rfl rfl I2.top λW12 gh t12 z12 N2=>?_;have I12:=I2.X4 gh t12;obtain⟨ws,L,nm,Jz⟩:=pJ (Hl.kp I2.top gh) s.to;simp only[gj,Kq,AA];rw[AH a81 (a:=⟨b6,0,none⟩) (I12.b6.cell rfl),AH a9 (a:=⟨W2.sz,0+1,none⟩) (N2.cell rfl)];simp only[AA,L,CN,CO];refine EH z58 ZR rfl Jz nm t12 λW14 k14 t14 z14 AFE=>?_;have I14:=I12.X4 k14 t14;have ADC:VK l s=(l.find? λx=>decide (x.type=s.to)).isSome:=rfl
    refine AF (λhb=>?_) (λhb=>?_)
    ·rw[g4,gl I14.b6];simp only[AA]
     have D8:Be c l=false:=by
      rw[Js,Bi Ad (by rw[VL hs,ADC,hb];simp)];rfl
     refine DU W14 false I14 D8.symm (λh=>by rw[D8]at h;cases h) λW8 zC=>?_;simp only[dr,GL,Ib,FH,Ng,o5];exact zC _ g4 rfl
    ·simp only[dr,Aj,FH];simp only[AG,AJ,Nat.reduceEqDiff,↓reduceIte,AJJ,AK,AA];refine⟨Ad,trivial,I14,AJH,AJI,by rw[CE (by omega)],g4,g6,Hl.kp I2.top (gh.trans k14),P2.kp I2.top (gh.trans k14),λj s' hj UH=>?_⟩
     rcases aap.1 hj with h|rfl
     ·exact O4 j s' h UH
     ·rw[hs]at UH;cases UH;rw[ADC];exact hb
   ·have WT:Be c l=true:=by
     rw[Js,CG λj hj=>?_]
     ·rfl
     ·have bo:=ck hj;rw[VL bo,C3 j hj,O4 j _ (by omega) bo];rfl
    simp only[Aj,LM,Er,Jp,aar,o5];simp only[AG,AJ,Nat.reduceEqDiff,↓reduceIte,g4,g6];rw[gl I2.b6];simp only[AA];exact DU W2 true I2 WT.symm (λ_=>⟨Hl,P2⟩) λW8 zC=>zC _ g4 rfl
structure ze(W:CW)(bk bx r1 r2:Nat)(c:List Aq)(ty:ByteArray)(n:Nat):Prop where
 k0:W.cell bk 0=some (.map (some r1))
 k1:W.cell bk 1=some (.map (some r2))
 cat:IB W r1 r2 c
 x0:W.cell bx 0=some (.string ty)
 x1:∃a cap,W.cell bx 1=some (.slice a n cap)
theorem X2.elem{W:CW}{r:Nat}{c:List Aq}(h:X2 W r c){s:ByteArray}{i:Nat}(hi:A3 c s=Option.some i):∃a b f g,Y2 prog 75 (.map (Option.some r)) (.string s) false W=Option.some (.agg #[a,b,f,.int .u8 (elemAt c i),g]):=by
 obtain⟨u,x,hx,hu,_,l2⟩:=h.some hi;obtain⟨vf,ab,lb,cb,rfl,_⟩:=hu;exact⟨_,_,_,_,by unfold elemAt;rw[hx];exact l2⟩
theorem TY{l:Nat}{args:List Value}{W:CW}{K:Value→CW→Prop}{KP:List PanicEntry→CW→Prop}(h:LD prog Bs l args W (Di K KP)):GI prog Bs (.func (.yield l) #[] #[]) args W K KP:=by
 unfold GI KA
 simpa using h
theorem O8(Q:Ending→CW→Prop)(x:Exit)(hx:x=.normal∨x=.ret)(e:Env)(W:CW)(h:Q (.returned (.tuple #[])) W):AM prog Tryz.f108 Q x e [] W:=by
 have hr:Tryz.f108.results.toList=[]:=by kernel_rfl
 rcases hx with rfl|rfl<;>simp only[AM,Da,hr,Lo]<;>exact h
theorem ui{l bk bx r1 r2 n ix:Nat}{c:List Aq}{ty:ByteArray}(N5:A3 c ty=some ix)(LU:n<100000)(hn:elemAt c ix=0→n≤(AX c ix).length)(J:Nat→CW→Prop)(Stop:CW→Prop)(hJ:∀i W,J i W→ze W bk bx r1 r2 c ty n)
  (pM:∀i W,i<n→J i W→LD prog Bs l [.int .i64 i,.int .u8 (BR c ix i)] W λe W'=>(e=.returned (.bool true)∧J (i+1) W')∨(e=.returned (.bool false)∧Stop W')) {W:CW} (h0:J 0 W) :
  Ac prog Bs 108 [.func (.yield l) #[] #[],.pointer (some ⟨bk,0,none⟩),.pointer (some ⟨bx,0,none⟩)] W λe W'=>e=.returned (.tuple #[])∧(J n W'∨Stop W'):=by
 refine zO ?_;rw[zN];have K0:=hJ 0 W h0;obtain⟨a0,ALq,NK⟩:=K0.x1;obtain⟨ea,eb,ef,eg,NG⟩:=K0.cat.sh.elem N5;simp only[Jb,G3,EF,AA];rw[AH a75 (a:=⟨bk,0,none⟩) K0.k0,AH a9 (a:=⟨bx,0,none⟩) K0.x0,AH Ww (a:=⟨bx,0+1,none⟩) NK];simp only[AA,NG,TX,AQ J9];refine C2 (λi e ds W'=>ds=[]∧e 0=.func (.yield l) #[] #[]∧e 1=.pointer (some ⟨bk,0,none⟩)∧e 2=.pointer (some ⟨bx,0,none⟩)∧e 4=.int .u8 (elemAt c ix)∧e 15=.int .i64 n∧e 16=.int .i64 i∧J i W') n ⟨rfl,rfl,rfl,rfl,rfl,rfl,rfl,h0⟩ ?_;rintro i e ds W' hi ⟨rfl,h0,h1,h2,h4,X5,h16,hj⟩;rw[sM,h1,h2,h4,X5,h16];simp only[AP,AA]
 refine Eh (λAd=>?_) (λGZ=>?_)
 ·have Fo:∀(e1:Env),A9 [0,1,2,4,15,16] e e1→e1 5=.int .i64 i→e1 6=.int .u8 (BR c ix i)→
    (TU none (G4 (λi e ds W'=>ds=[]∧e 0=.func (.yield l) #[] #[]∧e 1=.pointer (some ⟨bk,0,none⟩)∧e 2=.pointer (some ⟨bx,0,none⟩)∧e 4=.int .u8 (elemAt c ix)∧e 15=.int .i64 n∧e 16=.int .i64 i∧J i W') i n (CB 0 (AM prog Tryz.f108 λe W'=>e=.returned (.tuple #[])∧(J n W'∨Stop W'))))) .normal e1 [] W':=by
   intro e1 hA h5 h6;have g0:=(hA 0 (by decide)).trans h0;have g16:=(hA 16 (by decide)).trans h16;simp only[du,Aj,g0,h5,h6];refine TY ((pM i W' Ad hj).mono λen W1 hp=>?_)
   rcases hp with⟨rfl,mh⟩|⟨rfl,FJ⟩
   ·simp only[Di,AZ,AA,aav,AT,P5,Aj,GL,Ib,FH,Ng];simp only[AG,AJ,Nat.reduceEqDiff,↓reduceIte,g16,AK,AA];exact⟨Ad,trivial,g0,(hA 1 (by decide)).trans h1,(hA 2 (by decide)).trans h2,(hA 4 (by decide)).trans h4,(hA 15 (by decide)).trans X5,by rw[CE (by omega)],mh⟩
   ·simp only[Di,AZ,AA,aa6,Af,P5,Aj,GL,Ib,FH,Ng];exact O8 _ _ (.inr rfl) _ _ ⟨rfl,.inr FJ⟩
  simp only[BD,AA]
  refine AF (λhe=>?_) (λhe=>?_)
  ·have he:elemAt c ix=0:=by simpa using he
   have Ki:=hJ i W' hj;have La:=FT N5;have WK:i<(AX c ix).length:=by have:=hn he;omega
   obtain⟨ar,cr,lr,hrr⟩:=Ki.cat.rw.some N5;obtain⟨_,_,e3,hrc⟩:=hrr
   cases e3
   obtain⟨pr,rfl,OG⟩:=hrc i _ (ck WK);simp only[L0,G3,AA];rw[AH a76 (a:=⟨bk,0+1,none⟩) Ki.k1,AH a9 (a:=⟨bx,0,none⟩) Ki.x0];simp only[AA,lr];rw[AY LS s5 WK];simp only[AA];rw[AH a5 (a:=⟨pr.block,pr.off+i*1,none⟩) OG];simp only[AA];refine Fo _ (.put rfl) rfl ?_;show Value.int .u8 (AX c ix)[i]=_;rw[O5 he La,ck WK];rfl
  ·have he:elemAt c ix≠0:=by simpa using he
   refine Fo _ (.put rfl) rfl ?_;show Value.int .u8 (elemAt c ix)=_;have La:=FT N5;unfold BR;unfold elemAt at he ⊢;rw[ck La]at he ⊢;simp only at he ⊢;rw[aae he]
 ·simp only[Er,Jp,aar];have hi:i=n:=by omega
  exact O8 _ _ (.inl rfl) _ _ ⟨rfl,.inl (hi▸hj)⟩
theorem sO{fn:FuncId}{nt:Nat}{f:Operand}{p1 p2 a1 a2:Tmp}{A B:Code}{e:Env}{ds:List Deferred}{W:CW}{K:AD}{bk bx r1 r2 n ix:Nat}{c:List Aq}{ty:ByteArray}(ht:Ai W)
  (hf:e.ev f=.func (.func 108) #[] #[.pointer (some ⟨bk,0,none⟩),.pointer (some ⟨bx,0,none⟩)]) (N5:A3 c ty=some ix) (LU:n<100000) (hn:elemAt c ix=0→n≤(AX c ix).length)
  (hA:∀ro e0 ds K W,E6 prog Bs ro fn nt A e0 ds W K=K .normal (Env.of e0 [(a2,e0 p2),(a1,e0 p1)]) ds W) (zf:p1≠p2∧a1≠a2)
  (J:Nat→CW→Prop) (Stop:Exit→CW→Prop) (hJ:∀i W,J i W→ze W bk bx r1 r2 c ty n)
  (hJl:∀i W1 W2,J i W1→Ep (W.sz+1) W1 W2→(∀b k v,W1.cell b k=some v→W2.cell b k=some v)→J i W2)
  (hSl:∀x W1 W2,Stop x W1→Ep (W.sz+1) W1 W2→(∀b k v,W1.cell b k=some v→W2.cell b k=some v)→Stop x W2)
  (h0:∀W2,Kp W W2→Ai W2→W2.sz=W.sz+2→W2.obj W.sz=some .deferred→J 0 W2)
  (jf:∀(i:Nat) W1 (Kb:AD) (E:Env),(∀t,t≠p1→t≠p2→t≠a1→t≠a2→E t=e t)→E a1=.int .i64 i→E a2=.int .u8 (BR c ix i)→i<n→J i W1→(∃o,W1.obj (W.sz+1)=some o∧∀a b c d,o≠.cells a b c d)→
   (∀e' EK W3,W3.obj (W.sz+1)=W1.obj (W.sz+1)→J (i+1) W3→Kb .normal e' EK W3)→(∀e' EK W3,W3.obj (W.sz+1)=W1.obj (W.sz+1)→Stop .ret W3→Kb .ret e' EK W3)→(∀id e' EK W3,W3.obj (W.sz+1)=W1.obj (W.sz+1)→Stop (.exit id) W3→Kb (.exit id) e' EK W3)→
   E6 prog Bs (some (W.sz+1)) fn nt B E [] W1 Kb)
  (Ef:∀W',J n W'→K .normal e (mark W.sz::ds) W') (sP:∀x W',Stop x W'→K x e (mark W.sz::ds) W') :
  FX prog Bs none fn nt (.rangeFunc f #[p1,p2] A B) e ds W K:=by
 have Ah:∀{W1 W2:CW} {st ER XD e' kN kO A' B' d'},Es W1 (W.sz+1) st ER XD e' kN kO A' B' d'→Ep (W.sz+1) W1 W2→∀b k v,W1.cell b k=some v→W2.cell b k=some v:=by
  intro W1 W2 st ER XD e' kN kO A' B' d' hl hu b k v hc;obtain⟨T,ho,_⟩:=hl
  rw[hu.cell]
  ·exact hc
  ·rintro rfl;unfold CW.cell at hc;rw[ho]at hc;cases hc
 refine ABZ (g:=108) (args:=[.func (.yield (W.sz+1)) #[] #[],.pointer (some ⟨bk,0,none⟩),.pointer (some ⟨bx,0,none⟩)]) ht ?_ λW2 k2 t2 z2 hd hl=>?_
 ·rw[hf];rfl
 ·refine(ui (J:=λi W'=>J i W'∧Es W' (W.sz+1) .ready none fn e nt #[p1,p2] A B W.sz) (Stop:=λW'=>∃x,Stop x W'∧∃pd,Es W' (W.sz+1) .done (some pd) fn e nt #[p1,p2] A B W.sz∧((pd=.ret∧x=.ret)∨∃id,pd=.exit id∧x=.exit id)) N5 LU hn (λi W' h=>hJ i W' h.1) (λi W' hi h=>?_) ⟨h0 W2 k2 t2 z2 hd,hl⟩).mono λen W' ⟨he,hr⟩=>?_
  ·obtain⟨hj,V6⟩:=h;refine rn V6 rfl ?_;rw[hA];refine⟨rfl,none,e,nt,#[p1,p2],A,B,W.sz,V6,λW3 hu sE=>?_⟩;have hj3:=hJl i W' W3 hj hu (Ah V6 hu);obtain⟨zg,hd2⟩:=zf
   refine jf i W3 _ _ (λt h1 h2 h3 h4=>by simp only[AG,AJ,abp,acd,Env.GK,aad h1,aad h2,aad h3,aad h4]) (by simp only[AG,AJ,abp,acd,Env.GK,aad zg,aad hd2,aar]) (by simp only[AG,AJ,abp,acd,Env.GK,aar,aad (ab8 zg)]) hi hj3 (by obtain⟨T,ho,_⟩:=sE;exact⟨_,ho,λ_ _ _ _ h=>by cases h⟩) (λe' EK W4 ho hj4=>?_) (λe' EK W4 ho fY=>?_) (λid e' EK W4 ho fY=>?_)
   ·refine⟨.busy,none,fn,e,nt,#[p1,p2],A,B,W.sz,sE.congr ho,λW5 eF hl5=>.inl ⟨rfl,?_,hl5⟩⟩;exact hJl _ W4 W5 hj4 eF (Ah (sE.congr ho) eF)
   ·refine⟨.busy,none,fn,e,nt,#[p1,p2],A,B,W.sz,sE.congr ho,λW5 eF hl5=>.inr ⟨rfl,.ret,?_,.ret,hl5,.inl ⟨rfl,rfl⟩⟩⟩;exact hSl _ W4 W5 fY eF (Ah (sE.congr ho) eF)
   ·refine⟨.busy,none,fn,e,nt,#[p1,p2],A,B,W.sz,sE.congr ho,λW5 eF hl5=>.inr ⟨rfl,.exit id,?_,.exit id,hl5,.inr ⟨id,rfl,rfl⟩⟩⟩;exact hSl _ W4 W5 fY eF (Ah (sE.congr ho) eF)
  ·refine⟨⟨_,he⟩,?_⟩
   rcases hr with⟨hj,V6⟩|⟨x,hs,pd,V6,hx⟩
   ·refine⟨.ready,none,fn,e,nt,#[p1,p2],A,B,W.sz,V6,(by intro h;cases h),λW5 eF=>Ef W5 ?_⟩;exact hJl _ W' W5 hj eF (Ah V6 eF)
   ·refine⟨.done,some pd,fn,e,nt,#[p1,p2],A,B,W.sz,V6,(by intro h;cases h),λW5 eF=>?_⟩;have hs5:=hSl _ W' W5 hs eF (Ah V6 eF)
    rcases hx with⟨rfl,rfl⟩|⟨id,rfl,rfl⟩
    ·exact sP _ W5 hs5
    ·exact sP _ W5 hs5
theorem gn:Tryz.f119.results.toList=[.cell 6 4]:=by kernel_rfl
theorem s4:EM prog 4=some 1:=by kernel_rfl
theorem a4:agg? prog 4=some false:=by kernel_rfl
theorem Rq{P:Program}{fn:Func}{Q:Ending→CW→Prop}{x:Exit}{e:Env}{ds:List Deferred}{W:CW}{r:Nat}(ho:W.obj r=some .deferred)(h:AM P fn Q x e ds (W.Ba r .dead)):AM P fn Q x e (mark r::ds) W:=⟨ho,h⟩
def uj(r1 r2:Nat)(ty:ByteArray)(vx:Value)(W:CW):Ending→CW→Prop:=λe W'=>Kp W W'∧Ai W'∧∃bk bx,e=.returned (.func (.func 108) #[] #[.pointer (some ⟨bk,0,none⟩),.pointer (some ⟨bx,0,none⟩)])∧W.sz≤bk∧W.sz≤bx∧A0 W' bk 78 [.map (some r1),.map (some r2)]∧A0 W' bx 56 [.string ty,vx]
theorem Zw{r1 r2:Nat}{ty:ByteArray}{vx:Value}{W:CW}(ht:Ai W):Ac prog Bs 62 [QF r1 r2,.agg #[.string ty,vx]] W (uj r1 r2 ty vx W):=by
 refine AIv ?_;rw[AIu];unfold QF;refine G8 k_ ht λW0 k0 t0 z0 Zd=>?_;refine G8 IH t0 λW1 k1 t1 z1 Rz=>?_;simp only[AA];rw[uc];exact⟨k0.trans k1,t1,W.sz,W0.sz,rfl,aag _,k0.sz,Zd.ext t0 k1,Rz⟩
theorem pN(kind n:Int)(size:Nat):(!DN kind n size)=((kind==1&& !(decide (-1000000000≤n)&&decide (n≤1000000000)))||(kind==2&& !(decide ((0:Int)≤n)&&decide (n≤(size:Int))))):=by
 unfold DN;rw[Bool.not_not]
 congr 2
 ·by_cases h1:-1000000000≤n<;>by_cases h2:n≤1000000000<;>simp[h1,h2]<;>omega
 ·by_cases h1:(0:Int)≤n<;>by_cases h2:n≤(size:Int)<;>simp[h1,h2]<;>omega
def VN(c:List Aq)(i:Nat)(vs:List Int)(size k:Nat):Bool:=match vs[k]? with
 |some n=>!DN (BR c i k) n size
 |none=>false
theorem Zx{c:List Aq}{x:CD}{size i:Nat}{s:Aq}(hi:A3 c x.type=some i)(hs:c[i]?=some s):BC c x size=(Et c i s x.AO.length&& !CY x.AO.length (VN c i x.AO size)):=by
 unfold BC;rw[hi];simp only[hs];rfl
theorem ABv{c:List Aq}{r1 r2:Nat}{x:CD}{vx:Value}{size:Nat}{W:CW}(ht:Ai W)(Iw:IB W r1 r2 c)(Al:Bk c=true)(hC:QD c)(gp:Ab 1 (F9 W) vx x.AO)(hv:x.AO.length<100000)(KB:size<1000000) :
  Ac prog Bs 119 [QF r1 r2,.agg #[.string x.type,vx],.int .i64 size] W (ib (.bool (BC c x size)) W):=by
 refine AE1 ?_;rw[AE0];unfold QF;obtain⟨ax,cx,rfl,_⟩:=id gp;refine G8 k_ ht λW0 k0 t0 z0 IG=>?_;have IG:A0 W0 W.sz 78 [.map (some r1),.map (some r2)]:=IG;refine G8 IH t0 λW1 k1 t1 z1 N3=>?_;have N3:A0 W1 W0.sz 56 [.string x.type,.slice ax x.AO.length cx]:=N3;refine G8 s3 t1 λW2 k2 t2 z2 VO=>?_;have VO:A0 W2 W1.sz 3 [.int .i64 size]:=VO;refine LL z4 s4 t2 λW3 k3 t3 z3 Mu=>?_;have Mu:A0 W3 W2.sz 4 [.bool false]:=Mu;have k13:=(k1.trans k2).trans k3;have kk:Kp W W3:=k0.trans k13;have WU:=Iw.kp ht kk;have IG:=IG.ext t0 k13;have N3:=N3.ext t1 (k2.trans k3);have VO:=VO.ext t2 k3;have ABw:W.sz≤W2.sz:=by have:=k0.sz;have:=k1.sz;have:=k2.sz;omega
 have D3:W2.sz≠W.sz∧W2.sz≠W0.sz∧W2.sz≠W1.sz:=by have:=k1.sz;omega
 generalize hb3:W.sz=b3 at IG ABw D3;generalize hb4:W0.sz=b4 at N3 D3;generalize hb5:W1.sz=b5 at VO D3;generalize hb6:W2.sz=b6 at Mu ABw D3;have q3:∀W7,Kp W3 W7→ld prog 75 (.pointer (some ⟨b3,0,none⟩)) W7=some (.map (some r1)):=λW7 k7=>AH a75 (a:=⟨b3,0,none⟩) (k7.cell t3 (IG.cell rfl));have q3':∀W7,Kp W3 W7→ld prog 76 (.pointer (some ⟨b3,0+1,none⟩)) W7=some (.map (some r2)):=λW7 k7=>AH a76 (a:=⟨b3,1,none⟩) (k7.cell t3 (IG.cell rfl));have q4:∀W7,Kp W3 W7→ld prog 9 (.pointer (some ⟨b4,0,none⟩)) W7=some (.string x.type):=λW7 k7=>AH a9 (a:=⟨b4,0,none⟩) (k7.cell t3 (N3.cell rfl));have q4':∀W7,Kp W3 W7→ld prog 40 (.pointer (some ⟨b4,0+1,none⟩)) W7=some (.slice ax x.AO.length cx):=λW7 k7=>AH Ww (a:=⟨b4,1,none⟩) (k7.cell t3 (N3.cell rfl));obtain⟨ws,L,nm,Jz,NG⟩:=Zv WU.sh x.type;simp only[Jb,G3,AA,q3 W3 (.refl _),q4 W3 (.refl _),L,CN,CO];refine EH wz WQ rfl Jz nm t3 λW5 k5 t5 z5 hB7=>?_;have ADD:=WU.kp t3 k5;generalize FI:AM prog Tryz.f119 (ib (.bool (BC c x size)) W)=K
 have Ef:∀(W7:CW) (b:Bool) (e:Env),Bw (·=b6) W3 W7→Ai W7→W7.cell b6 0=some (.bool b)→e 6=.pointer (some ⟨b6,0,none⟩)→b=BC c x size→K .ret e [] W7:=by
  intro W7 b e k t hb h6 hbe;rw[←FI];refine Nh gn h6 (AH a4 (a:=⟨b6,0,none⟩) hb) ?_;exact⟨by rw[hbe],Bw.kp kk k λj hj=>by rw[hj];omega,t⟩
 have leaf:∀(b:Bool) (e:Env),e 44=.bool b→e 3=.pointer (some ⟨b3,0,none⟩)→e 4=.pointer (some ⟨b4,0,none⟩)→e 5=.pointer (some ⟨b5,0,none⟩)→e 6=.pointer (some ⟨b6,0,none⟩)→
   (b=true→BC c x size=false)→(b=false→∃i s,A3 c x.type=some i∧c[i]?=some s∧Et c i s x.AO.length=true)→(Mr none K) .normal e [] W5:=by
  intro b e h44 h3 h4 h5 h6 TK my;have AFF:=Mu.ext t3 k5;simp only[Mr,Aj,h44]
  refine AF (λhb=>?_) (λhb=>?_)
  ·rw[h6];refine Ar s4 (a:=⟨b6,0,none⟩) rfl AFF (by simp) λW6 hu hB=>?_;have hu:Ep b6 W5 W6:=hu;have AJK:=AFF.lt t5;simp only[Zm,GL,ZQ,TV];exact Ef W6 false e ((Bw.HY k5).then hu.Dk λ_ _ h=>h) (t5.Ba AJK hu) (hB.cell rfl) h6 (TK hb).symm
  ·obtain⟨i,s,hi,hs,hm⟩:=my hb;have RZ:BC c x size=!CY x.AO.length (VN c i x.AO size):=by rw[Zx hi hs,hm,aa4]
   have ALr:=IG.ext t3 k5;have ALs:=N3.ext t3 k5;simp only[Zm,Aj,h3,h4];rw[DC (vs:=[.map (some r1),.map (some r2)]) a78 k_ rfl (by omega) ALr.cells,DC (vs:=[.string x.type,.slice ax x.AO.length cx]) bG IH rfl (by omega) ALs.cells];simp only[AA];refine(Zw (r1:=r1) (r2:=r2) (ty:=x.type) t5).mono λen W8 ⟨k8,t8,bk,bx,Hx,wh,hbx,hBk,sQ⟩=>?_;subst Hx;simp only[Di];have AJL:=ADD.kp t5 k8;have k38:=k5.trans k8;have AFG:=AFF.ext t5 k8;have AJK:=AFG.lt t8;have ANl:=hBk.lt t8;have ANm:=sQ.lt t8;have ANn:=Mu.lt t3;have ANo:=k5.sz;have hv8:Ab 1 (F9 W8) (.slice ax x.AO.length cx) x.AO:=gp.imp λ_ _ _ hr=>hr.kp ht (kk.trans k38);have hKd:∀W',Kp W8 W'→ze W' bk bx r1 r2 c x.type x.AO.length:=λW' k=>⟨k.cell t8 (hBk.cell rfl),k.cell t8 (hBk.cell rfl),AJL.kp t8 k,k.cell t8 (sQ.cell rfl),_,_,k.cell t8 (sQ.cell rfl)⟩
   refine sO (bk:=bk) (bx:=bx) (r1:=r1) (r2:=r2) (n:=x.AO.length) (ix:=i) (c:=c) (ty:=x.type) (a1:=9) (a2:=10) t8 rfl hi hv (λhe=>by
     have:=TM hs he hm;omega) (λro e0 ds K W=>by rw[ABj]) (by decide)
    (λj W'=>Kp W8 W'∧Ai W'∧W'.obj W8.sz=some .deferred∧W8.sz+1<W'.sz∧∀m,m<j→VN c i x.AO size m=false)
    (λy W'=>y=.ret∧Bw (·=b6) W8 W'∧Ai W'∧W'.obj W8.sz=some .deferred∧W'.cell b6 0=some (.bool false)∧W8.sz+1<W'.sz∧BC c x size=false)
    (λj W' h=>hKd W' h.1) (λj W1 W2 ⟨h1,h2,h3,h4,h5⟩ hu hc=>?_) (λy W1 W2 ⟨h1,h2,h3,h4,h5,h6,h7⟩ hu hc=>?_) (λW2 k2 t2 z2 hd=>⟨k2,t2,hd,by omega,by omega⟩) (λj W1 Kb E hE hE1 hE2 hj ⟨bD,ht1,zg,XE,A5⟩ OB hn hr hx=>?_) (λW' ⟨h1,h2,h3,h4,h5⟩=>?_) (λy W' ⟨y1,y2,y3,y4,y5,y6,y7⟩=>?_)
   ·exact⟨h1.Ba (by omega) hu,h2.Ba h4 hu,by rw[hu.obj _ (by omega)];exact h3,by rw[hu.sz];exact h4,h5⟩
   ·exact⟨h1,h2.then hu.Dk λi hi he=>by omega,h3.Ba h6 hu,by rw[hu.obj _ (by omega)];exact h4,hc _ _ _ h5,by rw[hu.sz];exact h6,h7⟩
   ·have bo:=ck hj;obtain⟨p,e2,pO⟩:=id hv8;have Uo:Ab 1 (F9 W1) (.slice ax x.AO.length cx) x.AO:=hv8.imp λ_ _ _ hr=>hr.kp t8 bD;obtain⟨_,_,e3,hvc⟩:=Uo
    cases e3
    obtain⟨q,rfl,hq⟩:=hvc j _ bo;have k31:=k38.trans bD;have AFH:=AFG.ext t8 bD;have l3:ld prog 3 (.pointer (some ⟨b5,0,none⟩)) W1=some (.int .i64 size):=AH a3 (a:=⟨b5,0,none⟩) (k31.cell t3 (VO.cell rfl));have g4:E 4=.pointer (some ⟨b4,0,none⟩):=(hE 4 (by decide) (by decide) (by decide) (by decide)).trans h4;have g5:E 5=.pointer (some ⟨b5,0,none⟩):=(hE 5 (by decide) (by decide) (by decide) (by decide)).trans h5;have g6:E 6=.pointer (some ⟨b6,0,none⟩):=(hE 6 (by decide) (by decide) (by decide) (by decide)).trans h6;rw[ABk,g4,g5,hE1,hE2];simp only[EF,AA,q4' W1 k31];rw[AY J9 s3 hj];simp only[AA];rw[AH a3 (a:=⟨q.block,q.off+j*1,none⟩) hq.1];simp only[AA,BD]
    have N1:VN c i x.AO size j=((BR c i j==1&& !(decide (-1000000000≤x.AO[j])&&decide (x.AO[j]≤1000000000)))||(BR c i j==2&& !(decide ((0:Int)≤x.AO[j])&&decide (x.AO[j]≤(size:Int))))):=by
     unfold VN;rw[bo];exact pN _ _ _
    have sR:∀(b:Bool) (e2:Env),e2 71=.bool b→e2 6=.pointer (some ⟨b6,0,none⟩)→b=VN c i x.AO size j→(HZ (some (W8.sz+1)) Kb) .normal e2 [] W1:=by
     intro b e2 h71 g6 hb;simp only[HZ,Aj,h71]
     refine AF (λMI=>?_) (λMI=>?_)
     ·rw[g6];refine Ar s4 (a:=⟨b6,0,none⟩) (v:=.bool false) rfl AFH (by simp) λW9 hu hB=>?_;have hu:Ep b6 W1 W9:=hu;refine hr _ _ W9 (hu.obj _ (by omega)) ⟨rfl,(Bw.HY bD).then hu.Dk λ_ _ h=>h,ht1.Ba (by omega) hu,by rw[hu.obj _ (by omega)];exact zg,hB.cell rfl,by rw[hu.sz];exact XE,?_⟩;rw[RZ,Bi hj (by rw[←hb,MI])];rfl
     ·exact hn _ _ W1 rfl ⟨bD,ht1,zg,XE,E_ A5 (by rw[←hb,MI])⟩
    have second:∀(e2:Env),e2 6=.pointer (some ⟨b6,0,none⟩)→True:=λ_ _=>trivial
    refine AF (λhk=>?_) (λhk=>?_)
    ·refine As (rj _ _ _ _) ?_;simp only[AZ,AA];rw[hk,aa4]at N1
     refine AF (λOT=>?_) (λOT=>?_)
     ·exact sR true _ rfl (by exact g6) (by rw[N1,OT];rfl)
     ·have bD:BR c i j=1:=by simpa using hk
      rw[OT,bD,show((1:Int)==2)=false from rfl,abH,acR]at N1;simp only[bD,Int.reduceBEq,AT];exact sR false _ rfl (by exact g6) N1.symm
    ·rw[hk,abH,abJ]at N1
     refine AF (λtS=>?_) (λtS=>?_)
     ·simp only[l3,AA];refine As (rj _ _ _ _) ?_;simp only[AZ,AA];rw[tS,aa4]at N1;exact sR _ _ rfl (by exact g6) N1.symm
     ·exact sR false _ rfl (by exact g6) (by rw[N1,tS,abH])
   ·simp only[Aj,wy,TV];simp only[AG,AJ,Nat.reduceEqDiff,↓reduceIte,h6];have AFH:=AFG.ext t8 h1;refine Ar s4 (a:=⟨b6,0,none⟩) (v:=.bool true) rfl AFH (by simp) λW9 hu hB=>?_;have hu:Ep b6 W' W9:=hu;rw[←FI];have hd9:W9.obj W8.sz=some .deferred:=by rw[hu.obj _ (by omega)];exact h3
    refine Rq hd9 ?_;have QC:Ep W8.sz W9 (W9.Ba W8.sz .dead):=Ep.of _ _ _;have t9:Ai W9:=h2.Ba (by omega) hu;rw[FI];refine Ef _ true _ ((((Bw.HY (k38.trans h1)).then hu.Dk λ_ _ h=>h)).then QC.Dk λj hj he=>by omega) (t9.Ba (by rw[hu.sz];omega) QC) (by rw[QC.cell (by omega)];exact hB.cell rfl) h6 ?_;rw[RZ,CG λm hm=>h5 m hm];rfl
   ·subst y1;simp only[GL,Ib,TV];rw[←FI];refine Rq y4 ?_;have QC:Ep W8.sz W' (W'.Ba W8.sz .dead):=Ep.of _ _ _;rw[FI];exact Ef _ false _ (((Bw.HY k38).then y2 λ_ _ h=>h).then QC.Dk λj hj he=>by omega) (y3.Ba (by omega) QC) (by rw[QC.cell (by omega)];exact y5) h6 y7.symm
 simp only[AZ,AA]
 cases hi:A3 c x.type with
 |none=>
  simp only[abA,aa6,Af];exact leaf true _ rfl rfl rfl rfl rfl (λ_=>by unfold BC;rw[hi]) (λh=>by cases h)
 | some i=>
  have La:=FT hi;have hs:=ck La;simp only[ack,aav,AT];have e7:ld prog 5 (.pointer (some ⟨W3.sz,0+3,none⟩)) W5=some (.int .u8 (elemAt c i)):=AH a5 (a:=⟨W3.sz,0+3,none⟩) (hB7.cell (NG i hi));obtain⟨ar,cr,lr,hrr⟩:=ADD.rw.some hi;have AJM:elemAt c i=c[i].elem:=by unfold elemAt;rw[hs]
  have h60:=(sJ Al La).1;simp only[Ko,EF,L0,AA,e7,q4 W5 k5,q4' W5 k5,q3' W5 k5,lr,AQ J9,AQ LS,BD,BX,Ae]
  refine AF (λhe=>?_) (λhe=>?_)
  ·have he:elemAt c i=0:=by simpa using he
   have hm:Et c i c[i] x.AO.length=decide (x.AO.length=(AX c i).length):=by unfold Et;rw[aad (by rw[←AJM];simpa using he)]
   refine AF (λhn=>?_) (λhn=>?_)
   ·have hn:¬(x.AO.length:Int)=(AX c i).length:=by simpa using hn
    exact leaf true _ rfl rfl rfl rfl rfl (λ_=>by rw[Zx hi hs,hm,decide_eq_false (by omega)];rfl) (λh=>by cases h)
   ·have hn:(x.AO.length:Int)=(AX c i).length:=by simpa using hn
    refine leaf (decide ((x.AO.length:Int)>200)) _ rfl rfl rfl rfl rfl (λh=>by have:=of_decide_eq_true h;omega) (λ_=>⟨i,c[i],hi,hs,by rw[hm];exact decide_eq_true (by omega)⟩)
  ·have he:elemAt c i≠0:=by simpa using he
   have hm:Et c i c[i] x.AO.length=decide (x.AO.length≤200):=by unfold Et;rw[aae (by rw[←AJM];exact he)]
   refine leaf (decide ((x.AO.length:Int)>200)) _ rfl rfl rfl rfl rfl (λh=>?_) (λh=>⟨i,c[i],hi,hs,?_⟩)
   ·have:=of_decide_eq_true h;rw[Zx hi hs,hm,decide_eq_false (by omega)];rfl
   ·have:=of_decide_eq_false h;rw[hm];exact decide_eq_true (by omega)
theorem s24:EM prog 24=some 1:=by kernel_rfl
theorem a24:agg? prog 24=some false:=by kernel_rfl
structure AJN(W:CW)(b2 b3 r1 r2:Nat)(c:List Aq)(h:List CD):Prop where
 k:Cells W b2 0 [.map (some r1),.map (some r2)]
 cat:IB W r1 r2 c
 h:∃a cap,W.cell b3 0=some (.slice a h.length cap)
theorem um{c:List Aq}{r1 r2 b2 b3:Nat}{x:CD}{h:List CD}{vx:Value}{W:CW}(ht:Ai W)(A:AJN W b2 b3 r1 r2 c h)(Al:Bk c=true)(hC:QD c)(gp:Ab 1 (F9 W) vx x.AO)(hv:x.AO.length<100000)(KB:h.length<1000000) :
  Ac prog Bs 118 [.agg #[.string x.type,vx],.pointer (some ⟨b2,0,none⟩),.pointer (some ⟨b3,0,none⟩)] W (ib (.bool (!BC c x h.length)) W):=by
 refine AEz ?_;rw[AEy];refine G8 IH ht λW0 k0 t0 z0 hB=>?_;have hB:A0 W0 W.sz 56 [.string x.type,vx]:=hB;obtain⟨a,cap,h3⟩:=A.h;have Yo:Cells W0 b2 0 [.map (some r1),.map (some r2)]:=A.k.ext ht k0;rw[DC (vs:=[.map (some r1),.map (some r2)]) (a:=⟨b2,0,none⟩) a78 k_ rfl (by omega) Yo,DC (vs:=[.string x.type,vx]) (a:=⟨W.sz,0,none⟩) bG IH rfl (by omega) hB.cells,AH a24 (a:=⟨b3,0,none⟩) (k0.cell ht h3)];simp only[AA,AQ M'];refine JA (ABv t0 (A.cat.kp ht k0) Al hC (gp.imp λ_ _ _ hr=>hr.kp ht k0) hv KB) λW1 k1 t1=>?_;simp only[AZ,AA,pA];exact⟨rfl,k0.trans k1,t1⟩
theorem uo{c:List Aq}{r1 r2 b2 b3:Nat}{v0:Value}{h:List CD}{W:CW}(ht:Ai W)(A:AJN W b2 b3 r1 r2 c h)(Al:Bk c=true)(hC:QD c)(hh:Ab 2 (G2 W) v0 h)(hv:∀x,x∈h→x.AO.length<100000)(KB:h.length<1000000) :
  Ac prog Bs 117 [v0,.func (.func 118) #[] #[.pointer (some ⟨b2,0,none⟩),.pointer (some ⟨b3,0,none⟩)]] W (ib (.int .i64 (Kt h λx=>!BC c x h.length)) W):=by
 refine AEx ?_;rw[AEw];obtain⟨a,cap,rfl,Ah⟩:=hh;simp only[AQ M',AA];refine C2 (λi e ds W'=>Kp W W'∧Ai W'∧ds=[]∧e 0=.slice a h.length cap∧e 1=.func (.func 118) #[] #[.pointer (some ⟨b2,0,none⟩),.pointer (some ⟨b3,0,none⟩)]∧e 7=.int .i64 h.length∧e 8=.int .i64 i∧∀j x,j<i→h[j]?=some x→(!BC c x h.length)=false) h.length ⟨.refl _,ht,rfl,rfl,rfl,rfl,rfl,by omega⟩ ?_;rintro i e ds W' hi ⟨k',t',rfl,h0,h1,h7,h8,A5⟩;rw[ABi,h0,h1,h7,h8];simp only[AP,AA]
 refine Eh (λAd=>?_) (λGZ=>?_)
 ·have hx:=ck Ad;obtain⟨p,rfl,hr⟩:=Ah i _ hx;obtain⟨u,hu,vx,rfl,gp⟩:=(hr.kp ht k').ld;rw[AY M' IH Ad];simp only[AA,hu];obtain⟨ah,ch,h3⟩:=A.h;refine Na Tryz.func118 (by kernel_rfl) (JA (um t' ⟨A.k.ext ht k',A.cat.kp ht k',ah,ch,k'.cell ht h3⟩ Al hC gp (hv _ (aaY Ad)) KB) λW1 k1 t1=>?_)
  refine AF (λhq=>?_) (λhq=>?_)
  ·simp only[dv,GL,Ib,FH,Ng,gd,Zl];refine⟨?_,k'.trans k1,t1⟩;simp only[AG,↓reduceIte];rw[JQ Ad hq A5]
  ·simp only[dv,Aj,FH];simp only[AG,AJ,Nat.reduceEqDiff,↓reduceIte,h0,h1,h7,h8,AK,AA];refine⟨Ad,k'.trans k1,t1,trivial,trivial,trivial,trivial,by rw[CE (by omega)],λj x hj Ht=>?_⟩
   rcases aap.1 hj with h2|rfl
   ·exact A5 j x h2 Ht
   ·rw[hx]at Ht;cases Ht;exact hq
 ·simp only[Aj,LM,Er,Jp,aar,gd,Zl];refine⟨?_,k',t'⟩;simp only[AG,↓reduceIte];rw[JR λj x hj hx=>A5 j x (by omega) hx]
theorem zh{c:List Aq}{r1 r2:Nat}{v1:Value}{h:List CD}{W:CW}(ht:Ai W)(Iw:IB W r1 r2 c)(Al:Bk c=true)(hC:QD c)(hh:Ab 2 (G2 W) v1 h)(hv:∀x,x∈h→x.AO.length<100000)(KB:h.length<1000000) :
  Ac prog Bs 84 [QF r1 r2,v1] W (ib (.int .i64 (FB c h)) W):=by
 refine AIx ?_;rw[AIw];unfold QF;obtain⟨a,cap,rfl,_⟩:=id hh;refine G8 k_ ht λW0 k0 t0 z0 Zd=>?_;refine G8 s24 t0 λW1 k1 t1 z1 Rz=>?_;have kk:=k0.trans k1;rw[AH a24 (a:=⟨W0.sz,0,none⟩) (Rz.cell rfl)];simp only[AA,AQ M',Ae];unfold FB
 refine AF (λhg=>?_) (λhg=>?_)
 ·rw[dt,aae (by have:=of_decide_eq_true hg;omega)];exact⟨rfl,kk,t1⟩
 ·rw[aad (by have:=of_decide_eq_false hg;omega)];refine JA (uo t1 ⟨(Zd.ext t0 k1).cells,Iw.kp ht kk,_,_,Rz.cell rfl⟩ Al hC (hh.imp λ_ _ _ hr=>hr.kp ht kk) hv KB) λW2 k2 t2=>?_;rw[dt];exact⟨rfl,kk.trans k2,t2⟩
def AJO(v0 v1:Value)(K:AD)(W:CW):=by
 have h:E9 54 9 v0 v1 W K=(let a:=eC 6 v1 (G7 5 v0 4);F7 61 v0 v1 W (λb c=>Mc b 0 λd=>GS K (JN v0 v1) (EW 4 d 8 7 b a) c) λb c=>H6 K b v0 v1 a c):=by kernel_rfl
 dsimp at h;exact h
theorem uq(Q:Ending→CW→Prop)(e:Env)(W:CW):AM prog Tryz.f54 Q .ret e [] W=Q (.returned (e 4)) W:=by kernel_rfl
def AJP{Q v0 v1 W}:=FM 54 9 [v0,v1] Tryz.f54 Q W Tryz.func54 (by kernel_rfl)
def pP(ro:Option Nat)(K:AD):AD:=AU (λe ds W=>K .ret (Env.of e [(4,(.int .i64 (-1)))]) ds W) K
def AJQ(v0 v1:Value)(K:AD)(W:CW):=by
 have h:E9 61 19 v0 v1 W K=D7 51 v0 W λa=>Iz 61 19 v0 v1 (BN 8 At 7 a 6 v0 4 At) W (pP none K):=by kernel_rfl
 dsimp at h;exact h
def pQ(ro:Option Nat)(K:AD):AD:=AU (λa b c=>BP a 8 λd=>D1 K a 8 d 18 [] b c) K
def lJ:=by
 have h:=@pQ.eq_1;dsimp at h;exact h
def AFI(ro:Option Nat)(e:Env)(ds:List Deferred)(K:AD)(W:CW):=by
 have h:CV ro 61 19 e ds W K=C' e 8 (BW e) λa=>I0 a (Bp e 8 λb=>Ak b W λc=>JM .eql 9 e 1 c λd=>let a:=eC 16 d (Bq 15 c 14 b 13 (A8 e) 12 e (BN 11 (Ag e) 5 (A8 e) 10 (A8 e) 9 a));Of d (pQ ro K) e (Wu 4 (A8 e) 17 e 8 a) ds W (K4 (pQ ro K) e a ds W)) K 0 e 9 a ds W:=by kernel_rfl
 dsimp at h;exact h
theorem eG(Q:Ending→CW→Prop)(e:Env)(W:CW):AM prog Tryz.f61 Q .ret e [] W=Q (.returned (e 4)) W:=by kernel_rfl
def AJR{Q v0 v1 W}:=FM 61 19 [v0,v1] Tryz.f61 Q W Tryz.func61 (by kernel_rfl)
theorem By(a:Addr):nck (.pointer (some a))=some (.pointer (some a)):=rfl
theorem Hw{fn:Func}(hr:fn.results.toList=[])(Q:Ending→CW→Prop)(x:Exit)(hx:x=.normal∨x=.ret)(e:Env)(W:CW)(h:Q (.returned (.tuple #[])) W):AM prog fn Q x e [] W:=by
 rcases hx with rfl|rfl<;>simp only[AM,Da,hr,Lo]<;>exact h
theorem pR{v:Value}{l:List ByteArray}{s:ByteArray}{W:CW}(hc:Ab 1 (kZ W) v l)(hlen:l.length<1000000):Ac prog Bs 61 [v,.string s] W (FY (.int .i64 (Kt l λx=>decide (x=s))) W):=by
 refine AJR ?_;rw[AJQ];obtain⟨a,cap,rfl,Ah⟩:=hc;simp only[AQ LW,AA];refine C2 (λi e ds W'=>W'=W∧ds=[]∧e 0=.slice a l.length cap∧e 1=.string s∧e 7=.int .i64 l.length∧e 8=.int .i64 i∧∀j x,j<i→l[j]?=some x→decide (x=s)=false) l.length ⟨rfl,rfl,rfl,rfl,rfl,rfl,by omega⟩ ?_;rintro i e ds W' hi ⟨rfl,rfl,h0,h1,h7,h8,A5⟩;rw[AFI,h0,h1,h7,h8];simp only[AP,AA]
 refine Eh (λAd=>?_) (λGZ=>?_)
 ·have hx:=ck Ad;obtain⟨p,rfl,hp⟩:=Ah i _ hx;rw[AY LW s9 Ad];simp only[AA];rw[AH a9 (a:=⟨p.block,p.off+i*1,none⟩) hp];simp only[AA,H_,G1]
  refine AF (λhq=>?_) (λhq=>?_)
  ·have hq:s=l[i]:=by simpa using hq
   simp only[lJ,GL,Ib,FH,Ng,pP,eG];refine⟨?_,rfl⟩;simp only[AG,↓reduceIte];rw[JQ Ad (by simp[hq]) A5]
  ·have hq:¬s=l[i]:=by simpa using hq
   simp only[lJ,Aj,FH];simp only[AG,AJ,Nat.reduceEqDiff,↓reduceIte,h0,h1,h7,h8,AK,AA];refine⟨Ad,trivial,trivial,trivial,trivial,trivial,by rw[CE (by omega)],λj x hj Ht=>?_⟩
   rcases aap.1 hj with h2|rfl
   ·exact A5 j x h2 Ht
   ·rw[hx]at Ht;cases Ht;exact decide_eq_false λe=>hq e.symm
 ·simp only[Aj,LM,Er,Jp,aar,pP,eG];refine⟨?_,rfl⟩;simp only[AG,↓reduceIte];rw[JR λj x hj hx=>A5 j x (by omega) hx]
theorem bw{v:Value}{l:List ByteArray}{s:ByteArray}{W:CW}(hc:Ab 1 (kZ W) v l)(hlen:l.length<1000000):Ac prog Bs 54 [v,.string s] W (FY (.bool (l.any λx=>decide (x=s))) W):=by
 refine AJP ?_;rw[AJO];refine As (pR hc hlen) ?_;simp only[Bt,AA,uq];refine⟨?_,rfl⟩;simp only[AG,↓reduceIte];congr 2
 cases h:l.any λx=>decide (x=s)with
 |false=>exact decide_eq_false (by have:=kq.2 h;omega)
 |true=>
  refine decide_eq_true ?_;have:¬Kt l (λx=>decide (x=s))<0:=λhn=>by rw[kq.1 hn]at h;cases h
  omega
theorem N6{W W':CW}{el n:Nat}{v:Value}{cs:List Value}(h:Bu W el n v cs)(ho:∀i,FA v i→W'.obj i=W.obj i):Bu W' el n v cs:=by
 cases h with
 |nil=>exact Bu.nil
 |some hB hl=>exact Bu.some (hB.congr (ho _ ⟨_,_,_,rfl,rfl⟩)) hl
theorem BE{W:CW}{b:Nat}{e1 e2:TypeId}{v1 v2:List Value}(h1:A0 W b e1 v1)(h2:A0 W b e2 v2):e1=e2:=by
 obtain⟨c,n,z,h,_⟩:=h1;obtain⟨c',n',z',h',_⟩:=h2;rw[h]at h';cases h';rfl
theorem CR{W:CW}{el n:Nat}{v:Value}{cs:List Value}(h:Bu W el n v cs){j:Nat}(hj:FA v j):A0 W j el cs:=by
 obtain⟨b,l,c,e,rfl⟩:=hj
 cases h with
 |nil=>cases e
 |some hB hl=>cases e;exact hB
theorem a51:agg? prog 51=some false:=by kernel_rfl
theorem VP{W W0:CW}{n:Nat}{z:Array Value}{e:TypeId}(h:W0.obj W.sz=some (.cells .nil n z e))(hz:DW (some (.cells .nil n z e)) (some (.cells .nil n z e))=true):tq (.pointer (some ⟨W.sz,0,none⟩)) ((W.new (.cells .nil n z e)).obj W.sz) W0=true:=by
 show DW (W0.obj W.sz) ((W.new (.cells .nil n z e)).obj W.sz)=true;rw[h,Bd,aae rfl];exact hz
theorem ur{t:TypeId}{r:Nat}{k:Value}{ok:Bool}{W W':CW}(h:W'.obj r=W.obj r):Y2 prog t (.map (some r)) k ok W'=Y2 prog t (.map (some r)) k ok W:=by
 unfold Y2
 cases prog.underlying t with
 |none=>rfl
 |some d=>cases d<;>simp only[h]
theorem AFJ:Jo 1=[1]:=by unfold Jo;rfl
theorem z51:Is prog 51=some (.slice none 0 0):=by kernel_rfl
theorem AL{K:Value→CW→Prop}{KP:List PanicEntry→CW→Prop}{v:Value}{W:CW}(h:K v W):Di K KP (.returned v) W:=h
def D5(e:Int):List PanicEntry:=[{v:=.iface 167 (.agg #[.int .i64 e]),recovered:=false}]
theorem AFK(e:Int):wu prog 167 [(0,.int .i64 e)]=some (.agg #[.int .i64 e]):=by kernel_rfl
theorem AFL(v:Value):mki prog 167 v=some (.iface 167 v):=by kernel_rfl
theorem ALt:EM prog 170=some 2:=by kernel_rfl
theorem lK(a:Addr):Uq prog 170 (.pointer (some a)) 0=some (.pointer (some ⟨a.block,a.off,none⟩)):=by kernel_rfl
theorem lL(a:Addr):Uq prog 170 (.pointer (some a)) 1=some (.pointer (some ⟨a.block,a.off+1,none⟩)):=by kernel_rfl
theorem a3':agg? prog 3=some false:=by kernel_rfl
theorem Ev{K:Value→CW→Prop}{KP:List PanicEntry→CW→Prop}{ch:List PanicEntry}{W:CW}(h:KP ch W):Di K KP (.panicked ch) W:=h
theorem AFM(n:Int):jn prog 5 3 (.int .u8 n)=some (.int .i64 (IntKind.i64.wrap n)):=by kernel_rfl
theorem ADE(x:UInt8):jn prog 5 3 (.int .u8 x.toNat)=some (.int .i64 ((x.toNat:Nat):Int)):=by
 have:=x.toNat_lt;rw[AFM,wrap64 (by omega) (by omega)]
theorem Ik{b:Bool}{e:Int}{W:CW}{K:Value→CW→Prop}{KP:List PanicEntry→CW→Prop}(hk:b=true→K (.tuple #[]) W)(hp:b=false→KP (D5 e) W):Ac prog Bs 76 [.bool b,.int .i64 e] W (Di K KP):=by
 refine AIC ?_;rw[AIB];simp only[AZ,AA]
 cases b with
 |true=>
  simp only[aav,AT];exact Hw (by kernel_rfl) _ _ (.inl rfl) _ _ (hk rfl)
 |false=>
  simp only[aa6,Af];refine Ap (AFK _) ?_;refine Ap (AFL _) ?_;exact hp rfl
structure QG(A:CW)(vb:Value)(b:List UInt8):Prop where
 top:Ai A
 sl:∃a cap,vb=.slice a b.length cap∧b.length≤cap∧∀i x,b[i]?=some x→∃p,a=some p∧Lx A p.block (p.off+i*1) x
 Ld:b.length≤100000
structure Rd(A W:CW)(rb:Nat)(vb:Value)(at_:Nat):Prop where
 kp:Kp A W
 top:Ai W
 hb:A.sz≤rb
 Fk:A0 W rb 170 [vb,.int .i64 at_]
def LQ(rb j:Nat):Prop:=j=rb
theorem Rd.ld0{A W:CW}{rb at_:Nat}{vb:Value}(h:Rd A W rb vb at_):ld prog 29 (.pointer (some ⟨rb,0,none⟩)) W=some vb:=AH a29 (a:=⟨rb,0,none⟩) (h.Fk.cell rfl)
theorem Rd.wq{A W:CW}{rb at_:Nat}{vb:Value}(h:Rd A W rb vb at_):ld prog 3 (.pointer (some ⟨rb,0+1,none⟩)) W=some (.int .i64 at_):=AH a3' (a:=⟨rb,0+1,none⟩) (h.Fk.cell rfl)
theorem Rd.X4{A W W':CW}{rb at_:Nat}{vb:Value}(h:Rd A W rb vb at_)(k:Kp W W')(t:Ai W'):Rd A W' rb vb at_:=⟨h.kp.trans k,t,h.hb,h.Fk.ext h.top k⟩
def Il(b:List UInt8)(at_ n:Nat):Except Int Nat:=if at_+n≤b.length then .ok (at_+n)else .error 4
def O9{α:Type}(A:CW)(rb:Nat)(vb:Value)(R:Value→α→CW→Prop)(r:Except Int (α×Nat))(W:CW):Ending→CW→Prop:=λen W'=>Bw (LQ rb) W W'∧Ai W'∧match r with
 | .ok (x,BY)=>∃v,en=.returned v∧R v x W'∧Rd A W' rb vb BY
 | .error e=>en=.panicked (D5 e)
theorem AJS{a:Option Addr}{len cap lo hi:Nat}(h1:lo≤hi)(h2:hi≤cap)(W:CW):∃a',N' prog 29 (.slice a len cap) (some (.int .i64 lo)) (some (.int .i64 hi)) (some (.int .i64 hi)) W=some (.slice a' (hi-lo) (hi-lo))∧(lo<hi→∀p,a=some p→∃p',a'=some p'∧p'.block=p.block∧p'.off=p.off+lo):=by
 refine⟨cond (Nat.beq hi lo) a (a.map λa=>⟨a.block,a.off+lo*1,none⟩),?_,λAd p hp=>?_⟩
 ·have PM:∀n y d:Nat,n≤y→bound (some (.int .i64 (n:Int))) d y=some n:=by
   intro n y d h;simp only[bound];rw[show(decide ((0:Int)≤(n:Int))&&decide ((n:Int)≤(y:Int)))=true by simp;omega];simp
  unfold N';rw[LS];simp only[JD,LS,DI,s5,PM hi cap cap h2,PM hi hi len (aag _),PM lo hi 0 h1];rw[show Nat.ble hi hi=true from aak (by omega)];rfl
 ·have hb:Nat.beq hi lo=false:=by
   cases hq:Nat.beq hi lo with
   |false=>rfl
   |true=>have:=aac hq;omega
  subst hp;rw[hb];exact⟨_,rfl,rfl,by show p.off+lo*1=_;rw[abR]⟩
theorem sS{A W:CW}{rb at_ n:Nat}{vb:Value}{b:List UInt8}(I:QG A vb b)(h:Rd A W rb vb at_)(ha:at_≤b.length)(hn:n≤100000) :
  Ac prog Bs 121 [.pointer (some ⟨rb,0,none⟩),.int .i64 n] W (O9 A rb vb (λv x _=>Ab 1 (Lx A) v x) (match Il b at_ n with| .ok BY=>.ok ((b.drop at_).take n,BY)| .error e=>.error e) W):=by
 have N_:=I.Ld;obtain⟨a,cap,N1,OR,TK⟩:=I.sl;refine AEE ?_;rw[AED];simp only[By,lK,lL,AA,h.ld0,h.wq];subst N1;rw[AQ LS];simp only[AA,Am,Bt];rw[wrap64 (by omega) (by omega)]
 have hd:decide ((b.length:Int)-(at_:Int)≥(n:Int))=decide (at_+n≤b.length):=by
  by_cases hq:at_+n≤b.length
  ·rw[decide_eq_true hq,decide_eq_true (by omega)]
  ·rw[decide_eq_false hq,decide_eq_false (by omega)]
 rw[hd]
 refine Ik (λhb=>?_) (λhb=>?_)
 ·have hle:=of_decide_eq_true hb;have gi:Il b at_ n=.ok (at_+n):=by unfold Il;rw[aae hle]
  refine⟨by simp,trivial,?_⟩;simp only[h.wq,AK,AA];rw[wrap64 (by omega) (by omega)];refine Ar s3 (a:=⟨rb,0+1,none⟩) (v:=.int .i64 ((at_:Int)+(n:Int))) rfl h.Fk (by simp) λW2 hu hB=>?_;have hu:Ep rb W W2:=hu
  have hB:A0 W2 rb 170 [.slice a b.length cap,.int .i64 ((at_+n:Nat):Int)]:=by
   have:((at_+n:Nat):Int)=(at_:Int)+(n:Int):=by omega
   rw[this]
   simpa[putAt]using hB
  have hW2:Rd A W2 rb (.slice a b.length cap) (at_+n):=⟨h.kp.Ba h.hb hu,h.top.Ba (h.Fk.lt h.top) hu,h.hb,hB⟩
  simp only[hW2.ld0,hW2.wq,AA,Am];rw[show(((at_+n:Nat):Int)-(n:Int))=((at_:Nat):Int) by omega,wrap64 (by omega) (by omega)];obtain⟨a',hs,hp⟩:=AJS (a:=a) (len:=b.length) (show at_≤at_+n by omega) (show at_+n≤cap by omega) W2;rw[hs];simp only[AA];refine⟨by simp,trivial,?_⟩;rw[oO,gi];refine⟨hu.Dk,hW2.top,_,rfl,?_,hW2⟩;have hlen:((b.drop at_).take n).length=n:=by rw[aaE,abm];omega
  refine⟨a',n,by rw[hlen,show at_+n-at_=n by omega];rfl,λi x hx=>?_⟩;have hi:i<n:=by have:=(dx.1 hx).1;omega
  rw[aaW,aae hi,abq]at hx;obtain⟨p,hpa,hr⟩:=TK _ x hx;obtain⟨p',TZ,hp2,hp3⟩:=hp (by omega) p hpa;refine⟨p',TZ,?_⟩;rw[hp2,hp3]
  rwa[show p.off+at_+i*1=p.off+(at_+i)*1 by omega]
 ·have hle:=of_decide_eq_false hb;have gi:Il b at_ n=.error 4:=by unfold Il;rw[aad hle]
  refine⟨by simp,?_⟩;rw[gi];exact⟨.refl _ _,h.top,rfl⟩
def EC(b:List UInt8):Nat→Nat→Nat→Nat→Except Int (Nat×Nat)
 |0,_,_,_=>.error 4
 | f+1,at_,n,sh=>match b[at_]? with
  |none=>.error 4
  |some x=>if x.toNat<128 then(if 0<x.toNat∨sh=0 then .ok (n+x.toNat*2^sh,at_+1)else .error 4)
   else EC b f (at_+1) (n+(x.toNat%128)*2^sh) (sh+7)
def ED(b:List UInt8)(at_:Nat)(most:Int):Except Int (Nat×Nat):=match EC b 6 at_ 0 0 with
 | .error e=>.error e
 | .ok (n,BY)=>if(n:Int)≤most then .ok (n,BY)else .error 4
theorem zi(y sh:Nat)(hy:y<128)(hs:sh≤35):DL prog .shl 3 false (.int .i64 y) (.int .i64 sh)=some (.int .i64 ((y*2^sh:Nat):Int)):=by
 have h1:DL prog .shl 3 false (.int .i64 y) (.int .i64 sh)=cond (decide ((sh:Int)<0)) none (some (.int .i64 (IntKind.i64.wrap ((y:Int)*2^(min (sh:Int).toNat 64))))):=rfl;rw[h1,show decide ((sh:Int)<0)=false by simp];have h2:min (sh:Int).toNat 64=sh:=by rw[abT];omega
 rw[h2];have h3:2^sh≤2^35:=aby (by omega) hs;have h4:y*2^sh≤127*2^35:=acy (by omega) h3;have h5:(y:Int)*2^sh=((y*2^sh:Nat):Int):=by simp
 rw[h5];simp only[cond_false];rw[wrap64 (by omega) (by omega)]
theorem ABx(n y sh:Nat)(hn:n<2^sh)(hy:y<128)(hs:sh≤35):DL prog .or 3 false (.int .i64 n) (.int .i64 ((y*2^sh:Nat):Int))=some (.int .i64 ((n+y*2^sh:Nat):Int)):=by
 have h3:2^sh≤2^35:=aby (by omega) hs;have h4:y*2^sh≤127*2^35:=acy (by omega) h3;have h1:DL prog .or 3 false (.int .i64 n) (.int .i64 ((y*2^sh:Nat):Int))=some (.int .i64 (IntKind.i64.wrap ((BitVec.ofInt 64 (n:Int)|||BitVec.ofInt 64 ((y*2^sh:Nat):Int)).toNat))):=rfl;rw[h1]
 have h5:(BitVec.ofInt 64 (n:Int)|||BitVec.ofInt 64 ((y*2^sh:Nat):Int)).toNat=n+y*2^sh:=by
  rw[BitVec.toNat_or,BitVec.ofInt_natCast,BitVec.ofInt_natCast,BitVec.toNat_ofNat,BitVec.toNat_ofNat,ab1 (by omega),ab1 (by omega)];have:=Nat.shiftLeft_add_eq_or_of_lt hn y;rw[Nat.shiftLeft_eq]at this;rw[Nat.or_comm,←this,ac3]
 rw[h5,wrap64 (by omega) (by omega)]
theorem take_one{b:List UInt8}{at_:Nat}{x:UInt8}(hx:b[at_]?=some x):(b.drop at_).take 1=[x]:=by
 have Ad:=(dx.1 hx).1;apply aaN;intro i
 cases i with
 |zero=>rw[aaW,aae (by omega),abq];exact hx
 |succ i=>rw[aaW,aad (by omega)];rfl
theorem L4{A W:CW}{rb at_:Nat}{most:Int}{vb:Value}{b:List UInt8}(I:QG A vb b)(h:Rd A W rb vb at_)(ha:at_≤b.length) :
  Ac prog Bs 110 [.pointer (some ⟨rb,0,none⟩),.int .i64 most] W (O9 A rb vb (λv n _=>v=.int .i64 ((n:Nat):Int)) (ED b at_ most) W):=by
 refine AEC ?_;rw[AEB];generalize FI:AM prog Tryz.f110 (O9 A rb vb (λv n _=>v=.int .i64 ((n:Nat):Int)) (ED b at_ most) W)=KK
 have Iu:∀(e:Env) W',Bw (LQ rb) W W'→Ai W'→ED b at_ most=.error 4→KK (.panic (D5 4)) e [] W':=by
  intro e W' hc ht hn;rw[←FI];show O9 A rb vb (λv n _=>v=.int .i64 ((n:Nat):Int)) (ED b at_ most) W (.panicked (D5 4)) W';rw[hn];exact⟨hc,ht,rfl⟩
 have hgo:∀(e:Env) W' n BY,Bw (LQ rb) W W'→Rd A W' rb vb BY→e 1=.int .i64 most→e 5=.int .i64 (n:Nat)→EC b 6 at_ 0 0=.ok (n,BY)→(XT none KK) .normal e [] W':=by
  intro e W' n BY hc hr h1 h5 hn;simp only[PW,Aj,h1,h5,Dc,AA]
  refine Ik (λhb=>?_) (λhb=>?_)
  ·have hle:=of_decide_eq_true hb;rw[←FI,oN];refine⟨hc,hr.top,?_⟩;have:ED b at_ most=.ok (n,BY):=by unfold ED;rw[hn];simp only;rw[aae (by omega)]
   rw[this];refine⟨_,rfl,?_,hr⟩;simp only[AG,↓reduceIte]
  ·have hle:=of_decide_eq_false hb;refine Iu _ W' hc hr.top ?_;unfold ED;rw[hn];simp only;rw[aad (by omega)]
 refine CX (λk e ds W'=>Bw (LQ rb) W W'∧ds=[]∧1≤k∧k≤6∧∃BY n sh:Nat,Rd A W' rb vb BY∧BY≤b.length∧e 0=.pointer (some ⟨rb,0,none⟩)∧e 1=.int .i64 most∧e 5=.int .i64 n∧e 6=.int .i64 sh∧sh=7*(6-k)∧n<2^sh∧EC b 6 at_ 0 0=EC b k BY n sh) 6 ⟨.refl _ _,rfl,by omega,by omega,at_,0,0,h,ha,rfl,rfl,rfl,rfl,rfl,by omega,rfl⟩ ?_;rintro k e ds W' ⟨hc,rfl,bD,hk6,BY,n,sh,hr,No,h0,h1,h5,h6,pH,hn,hG⟩;obtain⟨f,rfl⟩:∃f,k=f+1:=⟨k-1,by omega⟩
 rw[ABU,h0];refine(sS (n:=1) I hr No (by omega)).mono λen W1 ⟨UM,t1,hp⟩=>?_;have QW:Bw (LQ rb) W W1:=hc.then UM λ_ _ h=>h
 cases hx:b[BY]? with
 | none=>
  have GZ:b.length≤BY:=by
   by_cases hq:b.length≤BY
   ·exact hq
   ·rw[ck (by omega)]at hx;cases hx
  have gi:Il b BY 1=.error 4:=by unfold Il;rw[aad (by omega)]
  rw[gi]at hp;have hp:en=.panicked (D5 4):=hp;subst hp;refine Ev ?_;simp only[tKp,mq,PW,ZQ];refine Iu _ W1 QW t1 ?_;unfold ED;rw[hG,EC,hx]
 | some x=>
  have Ad:=(dx.1 hx).1;have gi:Il b BY 1=.ok (BY+1):=by unfold Il;rw[aae (by omega)]
  rw[gi]at hp;obtain⟨v,rfl,hv,MU⟩:=hp;rw[take_one hx]at hv;obtain⟨a,cap,rfl,hv⟩:=hv;obtain⟨p,rfl,hbx⟩:=hv 0 x rfl;refine AL ?_;have JT:UK prog 29 (.slice (some p) [x].length cap) (.int .i64 0)=some (.pointer (some ⟨p.block,p.off+0*1,none⟩)):=AY (i:=0) LS s5 (by simp);refine Ap JT ?_;have zj:W1.cell p.block (p.off+0*1)=some (.int .u8 x.toNat):=MU.kp.cell I.top hbx;refine Ap (AH a5 (a:=⟨p.block,p.off+0*1,none⟩) zj) ?_;have AJT:x.toNat<256:=x.toNat_lt;refine Ap (v:=.int .i64 ((x.toNat:Nat):Int)) (ADE x) ?_;refine Ap (TA _ _ _ (by decide)) ?_;rw[show((x.toNat:Int).tmod 128)=((x.toNat%128:Nat):Int) by rw[ab0 (by omega)];rfl];have hy:x.toNat%128<128:=ac8 _ (by omega);have AJU:sh≤35:=by omega
  rw[h6,h5];refine Ap (zi _ _ hy AJU) ?_;refine Ap (ABx _ _ _ hn hy AJU) ?_;refine Ap (AK _ _ _) ?_;rw[wrap64 (by omega) (by omega)];refine Ap (AP _ _ _) ?_
  have we:n+x.toNat%128*2^sh<2^(sh+7):=by
   have h1:x.toNat%128*2^sh≤127*2^sh:=aaZ _ (by omega);have h2:2^(sh+7)=128*2^sh:=by rw[acK,ace]
   omega
  have w7:EC b (f+1) BY n sh=if x.toNat<128 then(if 0<x.toNat∨sh=0 then .ok (n+x.toNat*2^sh,BY+1)else .error 4)else EC b f (BY+1) (n+(x.toNat%128)*2^sh) (sh+7):=by
   rw[EC,hx]
  refine AF (λhb=>?_) (λhb=>?_)
  ·have hb:x.toNat<128:=by have:=of_decide_eq_true hb;omega
   have hm:x.toNat%128=x.toNat:=ab1 hb;rw[aae hb]at w7
   have done:∀e1:Env,e1 1=.int .i64 most→e1 5=.int .i64 ((n+x.toNat%128*2^sh:Nat):Int)→(0<x.toNat∨sh=0)→(NY none (EB (λk e ds W'=>Bw (LQ rb) W W'∧ds=[]∧1≤k∧k≤6∧∃BY n sh:Nat,Rd A W' rb vb BY∧BY≤b.length∧e 0=.pointer (some ⟨rb,0,none⟩)∧e 1=.int .i64 most∧e 5=.int .i64 n∧e 6=.int .i64 sh∧sh=7*(6-k)∧n<2^sh∧EC b 6 at_ 0 0=EC b k BY n sh) (f+1) (CB 0 (XT none KK)))) .normal e1 [] W1:=by
    intro e1 g1 g5 UX;simp only[NY,Aj,Er,M7];simp only[aar];refine hgo e1 W1 _ (BY+1) QW MU g1 g5 ?_;rw[hG,w7,aae UX,hm]
   refine Ap (Ae _ _ _) ?_
   refine AF (λhq=>?_) (λhq=>?_)
   ·have hq:0<x.toNat:=by have:=of_decide_eq_true hq;omega
    refine Ik (λ_=>?_) (λhf=>by cases hf);exact done _ (by simp only[AG,AJ,Nat.reduceEqDiff,↓reduceIte,h1]) (by simp only[AG,Nat.reduceEqDiff,↓reduceIte]) (.inl hq)
   ·have hq:¬0<x.toNat:=by have:=of_decide_eq_false hq;omega
    refine Ap (BD _ _ _) ?_
    refine Ik (λhz=>?_) (λhz=>?_)
    ·have hz:sh=0:=by have:=eq_of_beq hz;omega
     exact done _ (by simp only[AG,AJ,Nat.reduceEqDiff,↓reduceIte,h1]) (by simp only[AG,Nat.reduceEqDiff,↓reduceIte]) (.inr hz)
    ·have hz:¬sh=0:=by
      intro e;subst e;simp at hz
     simp only[NY,ZQ,mq,tKp,PW];refine Iu _ W1 QW t1 ?_;unfold ED;rw[hG,w7,aad (by omega)]
  ·have hb:¬x.toNat<128:=by have:=of_decide_eq_false hb;omega
   rw[aad hb]at w7;refine Ap (Ae _ _ _) ?_
   refine AF (λhq=>?_) (λhq=>?_)
   ·have hq:=of_decide_eq_true hq;have hf:f=0:=by omega
    refine Ik (λhf=>by cases hf) (λ_=>?_);simp only[tKp,mq,PW,ZQ];refine Iu _ W1 QW t1 ?_;unfold ED;rw[hG,w7,hf];rfl
   ·have hq:=of_decide_eq_false hq;simp only[Oo];exact⟨f,by omega,QW,trivial,by omega,by omega,BY+1,_,sh+7,MU,by omega,by simp only[AG,AJ,Nat.reduceEqDiff,↓reduceIte,h0],by simp only[AG,AJ,Nat.reduceEqDiff,↓reduceIte,h1],by simp only[AG,Nat.reduceEqDiff,↓reduceIte],by simp only[AG,Nat.reduceEqDiff,↓reduceIte];rfl,by omega,we,by rw[hG,w7]⟩
def strOf(l:List UInt8):ByteArray:=⟨l.toArray⟩
theorem Tm:∀l:List UInt8,K1 (l.map λx=>Value.int .u8 (x.toNat:Int))=some l
 |[]=>rfl
 |x::l=>by
  simp only[abW,K1,Tm l];congr 2;simp
theorem eH{W:CW}{v:Value}{l:List UInt8}(h:Ab 1 (Lx W) v l):cvb prog 29 9 v W=some (.string (strOf l)):=by
 obtain⟨a,cap,rfl,hc⟩:=h;have h5:prog.underlying 5=some (.int .u8):=by kernel_rfl
 unfold cvb;rw[LS,u9]
 have hf:FV a l.length W=some (l.map λx=>Value.int .u8 (x.toNat:Int)):=by
  cases l with
  |nil=>cases a<;>rfl
  | cons x l=>
   obtain⟨p,rfl,_⟩:=hc 0 x rfl
   have:=K7 (W:=W) (a:=p) (cs:=(x::l).map λx=>Value.int .u8 (x.toNat:Int)) λj v hj=>by
    rw[aaz,aat]at hj;obtain⟨y,hy,rfl⟩:=hj;obtain⟨p',ic,hr⟩:=hc j y hy
    cases ic
    rwa[show p.off+j=p.off+j*1 by omega]
   rwa[aaq]at this
 simp only[xE,h5,hf,DI,Tm];rfl
def sT(A:CW)(vf:Value)(ask:ByteArray→Option Int):Prop:=∀s W K KP,Kp A W→Ai W→(ask s=none→∀v W',Kp W W'→Ai W'→K v W')→(∀e,ask s=some e→∀W',Kp W W'→Ai W'→KP (D5 e) W')→GI prog Bs vf [.string s] W K KP
def GG(b:List UInt8)(ask:ByteArray→Option Int):Nat→Nat→List ByteArray→Except Int (List ByteArray×Nat)
 |0,at_,out=>.ok (out,at_)
 | k+1,at_,out=>match ED b at_ 60 with
  | .error e=>.error e
  | .ok (n,a1)=>match Il b a1 n with
   | .error e=>.error e
   | .ok a2=>if Dt (strOf ((b.drop a1).take n))=true∧(out.any λx=>decide (x=strOf ((b.drop a1).take n)))=false then
     (match ask (strOf ((b.drop a1).take n))with
     |some e=>.error e
     |none=>GG b ask k a2 (out++[strOf ((b.drop a1).take n)]))
    else .error 4
def Gt(b:List UInt8)(ask:ByteArray→Option Int)(at_:Nat):Except Int (List ByteArray×Nat):=match ED b at_ 128 with
 | .error e=>.error e
 | .ok (n,a1)=>if n=1 then(match ED b a1 100 with
   | .error e=>.error e
   | .ok (k,a2)=>GG b ask k a2 [])
  else .error 4
theorem Zy{b:List UInt8}{at_ n a:Nat}(h:Il b at_ n=.ok a):a=at_+n∧a≤b.length:=by
 unfold Il at h
 split at h
 ·cases h;exact⟨rfl,by assumption⟩
 ·cases h
theorem uu{b:List UInt8}{at_ n:Nat}{e:Int}(h:Il b at_ n=.error e):e=4:=by
 unfold Il at h
 split at h
 ·cases h
 ·cases h;rfl
theorem L5{b:List UInt8}:∀{f at_ n sh m a:Nat},EC b f at_ n sh=.ok (m,a)→at_<a∧a≤b.length
 |0,_,_,_,_,_,h=>by cases h
 | f+1,at_,n,sh,m,a,h=>by
  unfold EC at h
  split at h
  ·cases h
  ·rename_i x hx;have Ad:=(dx.1 hx).1
   split at h
   ·split at h
    ·cases h;omega
    ·cases h
   ·have:=L5 h;omega
theorem F'{b:List UInt8}{at_ n a:Nat}{most:Int}(h:ED b at_ most=.ok (n,a)):(n:Int)≤most∧at_<a∧a≤b.length:=by
 unfold ED at h
 split at h
 ·cases h
 ·rename_i n' a' hg
  split at h
  ·cases h;exact⟨by assumption,L5 hg⟩
  ·cases h
theorem Bw.rd{rb:Nat}{A B C:CW}(h:Bw (LQ rb) A B)(k:Bw (LQ rb) B C):Bw (LQ rb) A C:=h.then k λ_ _ h=>h
theorem Kp.rd{rb:Nat}{A B:CW}(h:Kp A B):Bw (LQ rb) A B:=Bw.HY h
theorem Lx.kp{A W:CW}{v:Value}{x:List UInt8}(I:Ai A)(k:Kp A W)(h:Ab 1 (Lx A) v x):Ab 1 (Lx W) v x:=h.imp λ_ _ _ hr=>k.cell I hr
theorem sU{A W:CW}{rb at_:Nat}{vb vf:Value}{b:List UInt8}{ask:ByteArray→Option Int}(I:QG A vb b)(h:Rd A W rb vb at_)(ha:at_≤b.length)(QH:sT A vf ask) :
  Ac prog Bs 92 [.pointer (some ⟨rb,0,none⟩),vf] W (O9 A rb vb (λv l W'=>Bu W' 9 1 v (strs l)∧Aw W.sz v) (Gt b ask at_) W):=by
 refine AIH ?_;rw[AIF];generalize lM:O9 A rb vb (λv l W'=>Bu W' 9 1 v (strs l)∧Aw W.sz v) (Gt b ask at_) W=zk;generalize FI:AM prog Tryz.f92 zk=KK
 have Iu:∀(e:Env) W' c,Bw (LQ rb) W W'→Ai W'→Gt b ask at_=.error c→KK (.panic (D5 c)) e [] W':=by
  intro e W' c hc ht hn;rw[←FI];show zk (.panicked (D5 c)) W';rw[←lM];refine⟨hc,ht,?_⟩;rw[hn]
 refine(L4 (most:=128) I h ha).mono λen W1 ⟨UM,t1,hp⟩=>?_
 cases Nx:ED b at_ 128 with
 |error c=>
  rw[Nx]at hp;have hp:en=.panicked (D5 c):=hp;subst hp;exact Ev (Iu _ W1 c UM t1 (by unfold Gt;rw[Nx]))
 | ok r =>
  obtain⟨n,a1⟩:=r;rw[Nx]at hp;obtain⟨v,rfl,rfl,MU⟩:=hp;refine AL ?_;refine Ap (BD _ _ _) ?_;refine Ik (λhb=>?_) (λhb=>?_)
  rotate_left
  ·have hb:¬n=1:=by intro e;subst e;simp at hb
   exact Iu _ W1 4 UM t1 (by unfold Gt;rw[Nx];simp only;rw[aad hb])
  have hb:n=1:=by have:=eq_of_beq hb;omega
  obtain⟨_,_,DS⟩:=F' Nx;refine(L4 (most:=100) I MU DS).mono λen W2 ⟨Yo,t2,hp⟩=>?_;have Yo:=UM.rd Yo
  cases QK:ED b a1 100 with
  |error c=>
   rw[QK]at hp;have hp:en=.panicked (D5 c):=hp;subst hp;refine Ev ?_;simp only[NW,ZQ];exact Iu _ W2 c Yo t2 (by unfold Gt;rw[Nx];simp only;rw[aae hb,QK])
  | ok r =>
   obtain⟨m,a2⟩:=r;rw[QK]at hp;obtain⟨v,rfl,rfl,P2⟩:=hp;obtain⟨ANS,_,Wt⟩:=F' QK;refine AL ?_;have hH:Gt b ask at_=GG b ask m a2 []:=by unfold Gt;rw[Nx];simp only;rw[aae hb,QK]
   refine C2 (λi e ds W'=>ds=[]∧∃BY out vo,Bw (LQ rb) W W'∧Rd A W' rb vb BY∧BY≤b.length∧out.length=i∧e 0=.pointer (some ⟨rb,0,none⟩)∧e 1=vf∧e 5=vo∧e 12=.int .i64 m∧e 13=.int .i64 i∧Bu W' 9 1 vo (strs out)∧Aw W.sz vo∧GG b ask m a2 []=GG b ask (m-i) BY out) m
    ⟨rfl,a2,[],.slice none 0 0,Yo,P2,Wt,rfl,rfl,rfl,rfl,rfl,rfl,Bu.nil,Aw.nil _ _ _,rfl⟩ ?_
   rintro i e ds W' hi ⟨rfl,BY,out,vo,hc,hr,No,hol,h0,h1,h5,df,y9,hO,hN,hG⟩;rw[AEA,h0,h5,df,y9];simp only[AP,AA];refine Eh (λAd=>?_) (λGZ=>?_)
   rotate_left
   ·have:i=m:=by omega
    subst this;simp only[Aj,LM,Er,Jp,Er,aar,NW];rw[←FI,uP,←lM];refine⟨hc,hr.top,?_⟩;rw[hH,hG,abn];exact⟨_,rfl,⟨by simp only[AG,AJ,Nat.reduceEqDiff,↓reduceIte,h5];exact hO,by simp only[AG,AJ,Nat.reduceEqDiff,↓reduceIte,h5];exact hN⟩,hr⟩
   ·obtain⟨f,hf⟩:∃f,m-i=f+1:=⟨m-i-1,by omega⟩
    rw[hf]at hG
    have LC:GG b ask (f+1) BY out=match ED b BY 60 with
      | .error e=>.error e
      | .ok (n,a1)=>match Il b a1 n with
       | .error e=>.error e
       | .ok a2=>if Dt (strOf ((b.drop a1).take n))=true∧(out.any λx=>decide (x=strOf ((b.drop a1).take n)))=false then
         (match ask (strOf ((b.drop a1).take n))with
         |some e=>.error e
         |none=>GG b ask f a2 (out++[strOf ((b.drop a1).take n)]))
        else .error 4:=rfl
    rw[LC]at hG;have bad:∀(e:Env) W1 c,Bw (LQ rb) W' W1→Ai W1→GG b ask m a2 []=.error c→KK (.panic (D5 c)) e [] W1:=λe W1 c c1 t1 hh=>Iu e W1 c (hc.rd c1) t1 (by rw[hH,hh]);refine(L4 (most:=60) I hr No).mono λen W3 ⟨eI,t3,hp⟩=>?_
    cases w5:ED b BY 60 with
    |error c=>
     rw[w5]at hp hG;have hp:en=.panicked (D5 c):=hp;subst hp;refine Ev ?_;simp only[Ml,ZQ,mq,FH,yz,NW];exact bad _ W3 c eI t3 hG
    | ok r=>
     obtain⟨k,a3⟩:=r;rw[w5]at hp hG;obtain⟨v,rfl,rfl,hr3⟩:=hp;obtain⟨ANp,_,ha3⟩:=F' w5;refine AL ?_;simp only at hG;refine(sS I hr3 ha3 (by omega)).mono λen W4 ⟨hc4,t4,hp⟩=>?_;have hc4:=eI.rd hc4
     cases hn4:Il b a3 k with
     |error c=>
      rw[hn4]at hp hG;have hp:en=.panicked (D5 c):=hp;subst hp;refine Ev ?_;simp only[Ml,ZQ,mq,FH,yz,NW];exact bad _ W4 c hc4 t4 hG
     | ok a4=>
      rw[hn4]at hp hG;obtain⟨v,rfl,hv,hr4⟩:=hp;obtain⟨ha4,ALu⟩:=Zy hn4;simp only at hG;generalize hs:strOf ((b.drop a3).take k)=s at hG;refine AL ?_;refine Ap (v:=.string s) (by rw[←hs];exact eH (Lx.kp I.top hr4.kp hv)) ?_
      have zS:s.size<1000000:=by
       rw[←hs];show((b.drop a3).take k).toArray.size<1000000;rw[acr,aaE];omega
      refine(Ox t4 zS).mono λen W5 ⟨he,k5,t5⟩=>?_;subst he;refine AL ?_;have hc5:=hc4.rd (k5.rd (rb:=rb))
      have m8:Bu W5 9 1 vo (strs out):=(hc5).own hr.top hO λj hj e=>by
       have e:j=rb:=e;subst e;have:=BE hr.Fk (CR hO hj);cases this
      have hr5:=hr4.X4 k5 t5;refine AF (λhsy=>?_) (λhsy=>?_)
      rotate_left
      ·refine Ik (λhf=>by cases hf) (λ_=>?_);simp only[U4,Ml,Aj,ZQ,mq,FH,yz,NW];refine bad _ W5 4 hc5 t5 ?_;rw[hG,aad (by rw[hsy];simp)]
      obtain⟨ao,co,hvo,hoc⟩:=O1 (f:=λ(s:ByteArray)=>Value.string s) m8;have ALv:=bw (s:=s) (W:=W5) (v:=vo) (l:=out) ⟨ao,co,hvo,hoc⟩ (by omega);refine As ALv ?_;refine Ap (AZ _) ?_;refine Ik (λhct=>?_) (λhct=>?_)
      rotate_left
      ·simp only[U4,Ml,Aj,ZQ,mq,FH,yz,NW];refine bad _ W5 4 hc5 t5 ?_;rw[hG,aad (by rintro⟨_,h2⟩;rw[h2]at hct;cases hct)]
      have hct:(out.any λx=>decide (x=s))=false:=by
       cases hq:out.any λx=>decide (x=s)with
       |false=>rfl
       |true=>rw[hq]at hct;cases hct
      rw[aae ⟨hsy,hct⟩]at hG;simp only[U4,Aj];simp only[AG,AJ,Nat.reduceEqDiff,↓reduceIte,h1,h5];refine QH s W5 _ _ hr5.kp t5 (λG_ v W6 k6 t6=>?_) (λc MK W6 k6 t6=>?_)
      rotate_left
      ·rw[MK]at hG;simp only[Ml,ZQ,mq,FH,yz,NW];exact bad _ W6 c (hc5.rd k6.rd) t6 hG
      ·rw[G_]at hG;have hO6:Bu W6 9 1 vo (strs out):=(Bw.HY (S:=λ_=>False) k6).own t5 m8 λj hj h=>h;refine Ig LW s9 z9 rfl (by omega) by9 (by omega) (sK _) rfl rfl t6 hO6 (by rw[EY];omega) λu Wa V7 W7 ka ta IF t7 o7 n7=>?_;have hc6:Bw (LQ rb) W' W6:=hc5.rd k6.rd;have hr6:=hr5.X4 k6 t6;have D3:¬FA vo rb:=λhj=>by have:=BE hr6.Fk (CR hO6 hj);cases this
       have AFN:W.sz≤W6.sz:=aa5 hc.sz hc6.sz
       have ALw:Kp A W7:=IF.kp hr6.kp λb' l' c' e=>by
        have:=hN b' l' c' e;have:=h.kp.sz;omega
       have hc7:Bw (LQ rb) W W7:=(hc.rd hc6).then (IF.Dk) λj hj hi=>by
        obtain⟨b',l',c',e1,e2⟩:=hi;have:=hN b' l' c' e1;omega
       simp only[Ml,Aj,FH];simp only[AG,AJ,Nat.reduceEqDiff,↓reduceIte,y9,AK,AA]
       refine⟨Ad,trivial,a4,out++[s],V7,hc7,⟨ALw,t7,hr.hb,IF.Fk t6 hr6.Fk λb' l' c' e hb=>D3 ⟨b',l',c',e,hb⟩⟩,ALu,by simp[hol],?_,?_,?_,?_,?_,by rw[Zk];exact o7,n7 _ AFN,?_⟩
       ·simp only[h0]
       ·simp only[h1]
       ·first|rfl|(simp only[AG,AJ,Lc,Nat.reduceEqDiff,↓reduceIte,Nb,bF,Kn,and_self])
       ·simp only[df]
       ·rw[CE (by omega)]
       ·rw[hG,show m-(i+1)=f by omega]
theorem AJV:EM prog 145=some 3:=by kernel_rfl
theorem Tn(a:Addr):Uq prog 145 (.pointer (some a)) 0=some (.pointer (some ⟨a.block,a.off,none⟩)):=by kernel_rfl
theorem O'(a:Addr):Uq prog 145 (.pointer (some a)) 1=some (.pointer (some ⟨a.block,a.off+1,none⟩)):=by kernel_rfl
theorem CF(a:Addr):Uq prog 145 (.pointer (some a)) 2=some (.pointer (some ⟨a.block,a.off+2,none⟩)):=by kernel_rfl
structure RR(A W:CW)(rb:Nat)(vb:Value)(at_:Nat)(wr:Bool):Prop where
 kp:Kp A W
 top:Ai W
 hb:A.sz≤rb
 Fk:A0 W rb 145 [vb,.int .i64 at_,.bool wr]
theorem RR.ld0{A W:CW}{rb at_:Nat}{vb:Value}{wr:Bool}(h:RR A W rb vb at_ wr):ld prog 29 (.pointer (some ⟨rb,0,none⟩)) W=some vb:=AH a29 (a:=⟨rb,0,none⟩) (h.Fk.cell rfl)
theorem RR.wq{A W:CW}{rb at_:Nat}{vb:Value}{wr:Bool}(h:RR A W rb vb at_ wr):ld prog 3 (.pointer (some ⟨rb,0+1,none⟩)) W=some (.int .i64 at_):=AH a3 (a:=⟨rb,0+1,none⟩) (h.Fk.cell rfl)
theorem RR.ik{A W:CW}{rb at_:Nat}{vb:Value}{wr:Bool}(h:RR A W rb vb at_ wr):ld prog 4 (.pointer (some ⟨rb,0+2,none⟩)) W=some (.bool wr):=AH a4 (a:=⟨rb,0+2,none⟩) (h.Fk.cell rfl)
theorem RR.X4{A W W':CW}{rb at_:Nat}{vb:Value}{wr:Bool}(h:RR A W rb vb at_ wr)(k:Kp W W')(t:Ai W'):RR A W' rb vb at_ wr:=⟨h.kp.trans k,t,h.hb,h.Fk.ext h.top k⟩
theorem RR.Dk{A W W':CW}{rb at_:Nat}{vb:Value}{wr:Bool}{S:Nat→Prop}(h:RR A W rb vb at_ wr)(c:Bw S W W')(t:Ai W')(hS:∀j,S j→A.sz≤j)(hr:¬S rb):RR A W' rb vb at_ wr:=⟨⟨aa5 h.kp.sz c.sz,λb hb=>by rw[c.obj b (abz hb h.kp.sz) λhs=>by have:=hS b hs;omega];exact h.kp.obj b hb⟩,t,h.hb,c.Fk h.top hr h.Fk⟩
theorem RR.bad{A W:CW}{rb at_:Nat}{vb:Value}{wr:Bool}(h:RR A W rb vb at_ wr){K:CW→Prop}(hk:∀W',Bw (LQ rb) W W'→RR A W' rb vb at_ true→K W'):wV (M6 prog 4 (.pointer (some ⟨rb,0+2,none⟩)) (.bool true) W) K:=by
 refine Ar s4 (a:=⟨rb,0+2,none⟩) (v:=.bool true) rfl h.Fk (by simp) λW2 hu hB=>?_;have hu:Ep rb W W2:=hu;refine hk W2 hu.Dk ⟨h.kp.Ba h.hb hu,h.top.Ba (h.Fk.lt h.top) hu,h.hb,?_⟩;have hB:A0 W2 rb 145 (putAt [vb,.int .i64 at_,.bool wr] (0+2) [.bool true]):=hB
 simpa[putAt]using hB
theorem RR.move{A W:CW}{rb at_:Nat}{vb:Value}{wr:Bool}(h:RR A W rb vb at_ wr){n:Nat}{K:CW→Prop}(hk:∀W',Bw (LQ rb) W W'→RR A W' rb vb n wr→K W'):wV (M6 prog 3 (.pointer (some ⟨rb,0+1,none⟩)) (.int .i64 (n:Nat)) W) K:=by
 refine Ar s3 (a:=⟨rb,0+1,none⟩) (v:=.int .i64 (n:Nat)) rfl h.Fk (by simp) λW2 hu hB=>?_;have hu:Ep rb W W2:=hu;refine hk W2 hu.Dk ⟨h.kp.Ba h.hb hu,h.top.Ba (h.Fk.lt h.top) hu,h.hb,?_⟩;have hB:A0 W2 rb 145 (putAt [vb,.int .i64 at_,.bool wr] (0+1) [.int .i64 (n:Nat)]):=hB
 simpa[putAt]using hB
def AJW(A:CW)(rb:Nat)(vb:Value)(b:List UInt8)(at_:Nat)(wr:Bool)(W:CW):Ending→CW→Prop:=λen W'=>Bw (LQ rb) W W'∧match EC b 6 at_ 0 0 with
 | .ok (n,BY)=>en=.returned (.int .i64 ((n:Nat):Int))∧RR A W' rb vb BY wr
 | .error _=>∃(n:Int) (BY:Nat),en=.returned (.int .i64 n)∧BY≤b.length∧RR A W' rb vb BY true
theorem Mv{A W:CW}{rb at_:Nat}{vb:Value}{b:List UInt8}{wr:Bool}(I:QG A vb b)(h:RR A W rb vb at_ wr)(ha:at_≤b.length) :
  Ac prog Bs 87 [.pointer (some ⟨rb,0,none⟩)] W (AJW A rb vb b at_ wr W):=by
 refine AHx ?_;rw[AHw];generalize FI:AM prog Tryz.f87 (AJW A rb vb b at_ wr W)=KK;have N_:=I.Ld
 have D8:∀(e:Env) W' BY,Bw (LQ rb) W W'→RR A W' rb vb BY wr→BY≤b.length→e 0=.pointer (some ⟨rb,0,none⟩)→(∃x,EC b 6 at_ 0 0=.error x)→(oK none KK) .normal e [] W':=by
  intro e W' BY hc hr No h0 ⟨x,hx⟩;simp only[S1,Aj,h0,By,CF,AA];refine hr.bad λW2 c2 r2=>?_;rw[←FI,U1];refine⟨hc.rd c2,?_⟩;rw[hx];exact⟨0,BY,by simp only[AG,↓reduceIte],No,r2⟩
 refine CX (λk e ds W'=>Bw (LQ rb) W W'∧ds=[]∧k≤6∧∃BY n:Nat,RR A W' rb vb BY wr∧BY≤b.length∧e 0=.pointer (some ⟨rb,0,none⟩)∧e 3=.int .i64 n∧e 4=.int .i64 ((2^(7*(6-k)):Nat):Int)∧e 5=.int .i64 ((6-k:Nat):Int)∧n<2^(7*(6-k))∧EC b 6 at_ 0 0=EC b k BY n (7*(6-k))) 6 ⟨.refl _ _,rfl,by omega,at_,0,h,ha,rfl,rfl,rfl,rfl,by omega,rfl⟩ ?_;rintro k e ds W' ⟨hc,rfl,hk6,BY,n,hr,No,h0,h3,h4,h5,hn,hG⟩;rw[AD1,h0,h5];simp only[AP,AA];refine AF (λhb=>?_) (λhb=>?_)
 rotate_left
 ·have hk:k=0:=by have:=of_decide_eq_false hb;omega
  subst hk;simp only[M7,Er,aar];exact D8 _ W' BY hc hr No (by simp only[AG,AJ,Nat.reduceEqDiff,↓reduceIte,h0]) ⟨_,hG⟩
 obtain⟨f,rfl⟩:∃f,k=f+1:=⟨k-1,by have:=of_decide_eq_true hb;omega⟩
 obtain⟨a,cap,N1,OR,TK⟩:=I.sl;have hl0:=hr.ld0;rw[N1]at hl0;simp only[By,Tn,O',AA,hl0,hr.wq];rw[AQ LS];simp only[AA,Bt];refine⟨by simp only[AQ LS,and_self],trivial,?_⟩
 refine AF (λhq=>?_) (λhq=>?_)
 ·have hq:=of_decide_eq_true hq;have zl:b[BY]?=none:=aa0 (by omega);simp only[S7,LM,M7,Er,aar];refine D8 _ W' BY hc hr No (by simp only[AG,AJ,Nat.reduceEqDiff,↓reduceIte,h0]) ⟨4,?_⟩;rw[hG,EC,zl]
 ·have hq:=of_decide_eq_false hq;have Ad:BY<b.length:=by omega
  obtain⟨x,hx⟩:∃x,b[BY]?=some x:=⟨_,ck Ad⟩
  obtain⟨p,rfl,hbx⟩:=TK BY x hx;have JT:UK prog 29 (.slice (some p) b.length cap) (.int .i64 BY)=some (.pointer (some ⟨p.block,p.off+BY*1,none⟩)):=AY (i:=BY) LS s5 Ad;rw[JT];have zj:W'.cell p.block (p.off+BY*1)=some (.int .u8 x.toNat):=hr.kp.cell I.top hbx;have ALx:=AH (P:=prog) a5 (a:=⟨p.block,p.off+BY*1,none⟩) zj;simp only[AA,ALx,ADE x];refine⟨by simp only[and_self],trivial,?_⟩;simp only[AA,AK];rw[CE (by omega)];refine hr.move λW3 c3 r3=>?_;have eI:=hc.rd c3;have AJT:x.toNat<256:=x.toNat_lt;have hy:x.toNat%128<128:=ac8 _ (by omega);have ALy:2^(7*(6-(f+1)))≤2^35:=aby (by omega) (by omega);have hmul:x.toNat%128*2^(7*(6-(f+1)))≤127*2^(7*(6-(f+1))):=aaZ _ (by omega);have ANT:x.toNat%128*2^(7*(6-(f+1)))≤127*2^35:=acy (by omega) ALy
  have hpn:2^(7*(6-f))=128*2^(7*(6-(f+1))):=by
   rw[show 7*(6-f)=7*(6-(f+1))+7 by omega,acK,ace]
  rw[TA _ _ _ (by decide)];rw[show((x.toNat:Int).tmod 128)=((x.toNat%128:Nat):Int) by rw[ab0 (by omega)];rfl];rw[h3,h4];generalize hP:2^(7*(6-(f+1)))=P at*;have e1:((x.toNat%128:Nat):Int)*(P:Int)=((x.toNat%128*P:Nat):Int):=by simp
  simp only[AA,Oq,AK,AP,BD,Ae];rw[e1,wrap64 (x:=((x.toNat%128*P:Nat):Int)) (by omega) (by omega),wrap64 (x:=(n:Int)+_) (by omega) (by omega),wrap64 (x:=(P:Int)*128) (by omega) (by omega)]
  have w7:EC b (f+1) BY n (7*(6-(f+1)))=if x.toNat<128 then(if 0<x.toNat∨7*(6-(f+1))=0 then .ok (n+x.toNat*P,BY+1)else .error 4)else EC b f (BY+1) (n+(x.toNat%128)*P) (7*(6-f)):=by
   rw[EC,hx];simp only[hP];rw[show 7*(6-(f+1))+7=7*(6-f) by omega]
  refine AF (λhb=>?_) (λhb=>?_)
  ·have hb:x.toNat<128:=by have:=of_decide_eq_true hb;omega
   have hm:x.toNat%128=x.toNat:=ab1 hb;rw[aae hb]at w7
   have done:∀e1:Env,e1 0=.pointer (some ⟨rb,0,none⟩)→e1 3=.int .i64 ((n:Int)+((x.toNat%128*P:Nat):Int))→(0<x.toNat∨7*(6-(f+1))=0)→∀(K0:AD),(∀e W,K0 .ret e [] W=KK .ret e [] W)→(RP none K0) .ret (Env.of e1 [(2,(e1 3)),(59,(e1 3))]) [] W3:=by
    intro e1 g0 g3 UX K0 hK0;simp only[S7,GL,hK0];rw[←FI,U1];refine⟨eI,?_⟩;rw[hG,w7,aae UX];refine⟨?_,r3⟩;simp only[AG,↓reduceIte,g3];rw[hm];rfl
   have ALz:∀e1:Env,e1 0=.pointer (some ⟨rb,0,none⟩)→e1 3=.int .i64 ((n:Int)+((x.toNat%128*P:Nat):Int))→¬(0<x.toNat∨7*(6-(f+1))=0)→∀(K0:AD),(∀e W,K0 .ret e [] W=KK .ret e [] W)→wV (M6 prog 4 (.pointer (some ⟨rb,0+2,none⟩)) (.bool true) W3) λW5=>(RP none K0) .ret (Env.of e1 [(2,(e1 3)),(59,(e1 3))]) [] W5:=by
    intro e1 g0 g3 UX K0 hK0;refine r3.bad λW5 c5 r5=>?_;simp only[S7,GL,hK0];rw[←FI,U1];refine⟨eI.rd c5,?_⟩;rw[hG,w7,aad UX];refine⟨(n:Int)+((x.toNat%128*P:Nat):Int),BY+1,?_,Ad,r5⟩;simp only[AG,↓reduceIte,g3]
   refine AF (λhz=>?_) (λhz=>?_)
   ·have hz:x.toNat=0:=by have:=eq_of_beq hz;omega
    simp only[kD,Aj];simp only[AG,AJ,Nat.reduceEqDiff,↓reduceIte]
    refine AF (λhk=>?_) (λhk=>?_)
    ·have hk:=of_decide_eq_true hk;simp only[h0,By,CF,AA,U0,Aj];refine ALz _ (by simp only[AG,AJ,Nat.reduceEqDiff,↓reduceIte,h0]) (by simp only[AG,AJ,Nat.reduceEqDiff,↓reduceIte]) (by omega) _ λe W=>by simp only[kK,Ib,S1,GL]
    ·have hk:=of_decide_eq_false hk;simp only[U0,Aj];exact done _ (by simp only[AG,AJ,Nat.reduceEqDiff,↓reduceIte,h0]) (by simp only[AG,Nat.reduceEqDiff,↓reduceIte]) (.inr (by omega)) _ λe W=>by simp only[kK,Ib,S1,GL]
   ·have hz:x.toNat≠0:=by
     intro e;rw[e]at hz;simp at hz
    simp only[kD,Aj];simp only[AG,AJ,Nat.reduceEqDiff,↓reduceIte,AT];simp only[U0,Aj];exact done _ (by simp only[AG,AJ,Nat.reduceEqDiff,↓reduceIte,h0]) (by simp only[AG,Nat.reduceEqDiff,↓reduceIte]) (.inl (by omega)) _ λe W=>by simp only[kK,Ib,S1,GL]
  ·have hb:¬x.toNat<128:=by have:=of_decide_eq_false hb;omega
   rw[aad hb]at w7;simp only[S7,Aj];simp only[AG,AJ,Nat.reduceEqDiff,↓reduceIte,h5,AK,AA,Oo]
   refine⟨f,by omega,eI,trivial,by omega,BY+1,n+x.toNat%128*P,r3,Ad,by simp only[h0],(by first|rfl|(simp only[AG,AJ,Lc,Nat.reduceEqDiff,↓reduceIte,Nb,bF,Kn,and_self];rfl)),?_,?_,by omega,by rw[hG,w7]⟩
   ·rw[show(P:Int)*128=((128*P:Nat):Int) by omega,←hpn]
   ·rw[wrap64 (by omega) (by omega)];congr 1;omega
theorem AFO{a:Option Addr}{len cap lo hi:Nat}(h1:lo≤hi)(h2:hi≤cap){W:CW}(NG:M_ W a 5=true):∃a' k,N' prog 29 (.slice a len cap) (some (.int .i64 lo)) (some (.int .i64 hi)) none W=some (.slice a' (hi-lo) k)∧(lo<hi→∀p,a=some p→∃p',a'=some p'∧p'.block=p.block∧p'.off=p.off+lo):=by
 refine⟨cond (Nat.beq cap lo) a (a.map λa=>⟨a.block,a.off+lo*1,none⟩),cap-lo,?_,λAd p hp=>?_⟩
 ·have PM:∀n y d:Nat,n≤y→bound (some (.int .i64 (n:Int))) d y=some n:=by
   intro n y d h;simp only[bound];rw[show(decide ((0:Int)≤(n:Int))&&decide ((n:Int)≤(y:Int)))=true by simp;omega];simp
  have hbm:bound none cap cap=some cap:=rfl;unfold N';rw[LS];simp only[JD,LS,DI,s5,PM hi cap len h2,hbm,PM lo hi 0 h1,NG];rw[show Nat.ble hi cap=true from aak h2];rfl
 ·have hb:Nat.beq cap lo=false:=by
   cases hq:Nat.beq cap lo with
   |false=>rfl
   |true=>have:=aac hq;omega
  subst hp;rw[hb];exact⟨_,rfl,rfl,by show p.off+lo*1=_;rw[abR]⟩
def KM(b:List UInt8)(at_:Nat):Option (ByteArray×Nat):=match EC b 6 at_ 0 0 with
 | .error _=>none
 | .ok (n,a1)=>if a1+n≤b.length then some (strOf ((b.drop a1).take n),a1+n)else none
def ADF(A:CW)(rb:Nat)(vb:Value)(b:List UInt8)(at_:Nat)(W:CW):Ending→CW→Prop:=λen W'=>Bw (LQ rb) W W'∧match KM b at_ with
 |some (s,a2)=>en=.returned (.string s)∧a2≤b.length∧RR A W' rb vb a2 false
 |none=>∃(s:ByteArray) (a2:Nat),en=.returned (.string s)∧a2≤b.length∧RR A W' rb vb a2 true
theorem pS{A W:CW}{rb at_:Nat}{vb:Value}{b:List UInt8}(I:QG A vb b)(hE:J8 A 5 vb)(h:RR A W rb vb at_ false)(ha:at_≤b.length) :
  Ac prog Bs 120 [.pointer (some ⟨rb,0,none⟩)] W (ADF A rb vb b at_ W):=by
 refine AD5 ?_;rw[AD4];generalize FI:AM prog Tryz.f120 (ADF A rb vb b at_ W)=KK;have N_:=I.Ld;obtain⟨a,cap,N1,OR,TK⟩:=id I.sl
 have D8:∀(e:Env) W' BY,Bw (LQ rb) W W'→(∃w,RR A W' rb vb BY w)→BY≤b.length→e 0=.pointer (some ⟨rb,0,none⟩)→e 23=.bool true→KM b at_=none→(XR none KK) .normal e [] W':=by
  intro e W' BY hc ⟨w,hr⟩ No h0 h23 hx;simp only[dC,Aj,h23,Af,h0,By,CF,AA];refine hr.bad λW2 c2 r2=>?_;simp only[dB,GL];rw[←FI,ZH];refine⟨hc.rd c2,?_⟩;rw[hx];exact⟨⟨#[]⟩,BY,by simp only[AG,↓reduceIte],No,r2⟩
 refine(Mv I h ha).mono λen W1 ⟨c1,hp⟩=>?_
 cases hn:EC b 6 at_ 0 0 with
 |error x=>
  rw[hn]at hp;obtain⟨n,BY,rfl,No,r1⟩:=hp;refine AL ?_;simp only[By,CF,AA,r1.ik,Af];refine⟨by simp,trivial,?_⟩;exact D8 _ W1 BY c1 ⟨_,r1⟩ No rfl rfl (by unfold KM;rw[hn])
 | ok r=>
  obtain⟨n,a1⟩:=r;rw[hn]at hp;obtain⟨rfl,r1⟩:=hp;obtain⟨_,DS⟩:=L5 hn;refine AL ?_;simp only[By,Tn,O',CF,AA,r1.ld0,r1.wq,r1.ik,AT];rw[N1,AQ LS];simp only[AA,Am,Ae];rw[wrap64 (by omega) (by omega)];refine⟨by simp only[AQ LS,and_self],trivial,?_⟩
  by_cases Oa:(n:Int)>(b.length:Int)-(a1:Int)
  ·exact D8 _ W1 a1 c1 ⟨_,r1⟩ DS rfl (by show Value.bool (decide _)=_;rw[decide_eq_true Oa]) (by unfold KM;rw[hn];simp only;rw[aad (by omega)])
  ·have hle:a1+n≤b.length:=by omega
   have ht:KM b at_=some (strOf ((b.drop a1).take n),a1+n):=by unfold KM;rw[hn];simp only;rw[aae hle]
   rw[decide_eq_false Oa];simp only[dC,Aj];simp only[AG,AJ,Lc,Nat.reduceEqDiff,↓reduceIte,Nb,Kn,AT];simp only[dB,Aj];simp only[AG,AJ,Lc,Nat.reduceEqDiff,↓reduceIte,Nb,Kn,By,Tn,O',AA,r1.wq,AK];rw[wrap64 (by omega) (by omega)];have en:(a1:Int)+(n:Int)=((a1+n:Nat):Int):=by omega
   rw[en];refine r1.move λW2 c2 r2=>?_;have es:((a1+n:Nat):Int)-(n:Int)=((a1:Nat):Int):=by omega
   obtain⟨NG,_⟩:=(hE.kp I.top r2.kp) a b.length cap N1;obtain⟨a',k,hs,hp⟩:=AFO (len:=b.length) (show a1≤a1+n by omega) (show a1+n≤cap by omega) NG;have hlen:((b.drop a1).take n).length=n:=by rw[aaE,abm];omega
   have ID:Ab 1 (Lx W2) (.slice a' (a1+n-a1) k) ((b.drop a1).take n):=by
    refine⟨a',k,by rw[hlen,show a1+n-a1=n by omega],λi x hx=>?_⟩;have hi:i<n:=by have:=(dx.1 hx).1;omega
    rw[aaW,aae hi,abq]at hx;obtain⟨p,hpa,hr⟩:=TK _ x hx;obtain⟨p',TZ,hp2,hp3⟩:=hp (by omega) p hpa;refine⟨p',TZ,?_⟩;rw[hp2,hp3];have hr:A.cell p.block (p.off+(a1+i)*1)=_:=hr;show W2.cell p.block (p.off+a1+i*1)=_;rw[show p.off+a1+i*1=p.off+(a1+i)*1 by omega];exact r2.kp.cell I.top hr
   have hcv:=eH ID;have hl0:ld prog 29 (.pointer (some ⟨rb,0,none⟩)) W2=some (.slice a b.length cap):=by rw[r2.ld0,N1]
   simp only[hl0,r2.wq,AA,Am];rw[es,wrap64 (by omega) (by omega)];simp only[hs,AA,hcv];refine⟨by simp only[and_self],trivial,?_⟩;rw[←FI,ZH];refine⟨c1.rd c2,?_⟩;rw[ht];exact⟨by simp only[AG,↓reduceIte],hle,r2⟩
def D9(b:List UInt8):Nat→Nat→List ByteArray→List ByteArray×Option Nat
 |0,at_,out=>(out,some at_)
 |k+1,at_,out=>match KM b at_ with
  |none=>(out,none)
  |some (s,a2)=>if Dt s=true∧(out.any λx=>decide (x=s))=false then D9 b k a2 (out++[s])else(out,none)
def Au(b:List UInt8):List ByteArray×Option Nat:=match b with
 |[]=>([],none)
 |x::_=>if x.toNat=1 then(match EC b 6 1 0 0 with
  | .error _=>([],none)
  | .ok (n,a1)=>if n≤100 then D9 b n a1 []else([],none))else([],none)
def zm(A:CW)(rb:Nat)(vb:Value)(b:List UInt8)(W:CW):Ending→CW→Prop:=λen W'=>Bw (LQ rb) W W'∧∃v,en=.returned v∧Bu W' 9 1 v (strs (Au b).1)∧Aw W.sz v∧match(Au b).2 with
 |some BY=>BY≤b.length∧RR A W' rb vb BY false
 |none=>∃BY,BY≤b.length∧RR A W' rb vb BY true
theorem Zz{b:List UInt8}{at_ n a:Nat}(h:EC b 6 at_ 0 0=.ok (n,a)):n<2^42:=by
 have key:∀(f at_ m sh:Nat),m<2^sh→sh+7*f≤42→∀n a,EC b f at_ m sh=.ok (n,a)→n<2^42:=by
  intro f
  induction f with
  |zero=>intro at_ m sh _ _ n a h;cases h
  | succ f ih=>
   intro at_ m sh hm hs n a h;unfold EC at h
   split at h
   ·cases h
   ·rename_i x hx;have hp:2^(sh+7)=128*2^sh:=by rw[acK,ace]
    have hq:2^(sh+7)≤2^42:=aby (by omega) (by omega)
    split at h
    ·rename_i hx
     split at h
     ·cases h
      have:x.toNat*2^sh≤127*2^sh:=aaZ _ (by omega);omega
     ·cases h
    ·refine ih _ _ _ ?_ (by omega) _ _ h;have:x.toNat%128*2^sh≤127*2^sh:=aaZ _ (by omega);omega
 exact key 6 at_ 0 0 (by omega) (by omega) n a h
theorem Z0{A W:CW}{rb:Nat}{vb:Value}{b:List UInt8}(I:QG A vb b)(hE:J8 A 5 vb)(h:RR A W rb vb 0 false) :
  Ac prog Bs 85 [.pointer (some ⟨rb,0,none⟩)] W (zm A rb vb b W):=by
 refine AHt ?_;rw[AHs];generalize FI:AM prog Tryz.f85 (zm A rb vb b W)=KK;have N_:=I.Ld;obtain⟨a,cap,N1,OR,TK⟩:=id I.sl
 have D8:∀(e:Env) W' BY,Bw (LQ rb) W W'→RR A W' rb vb BY true→BY≤b.length→e 2=.slice none 0 0→Au b=([],none)→KK .ret e [] W':=by
  intro e W' BY hc hr No h2 hx;rw[←FI,dA];refine⟨hc,_,rfl,?_⟩;rw[hx,h2];exact⟨Bu.nil,Aw.nil _ _ _,BY,No,hr⟩
 have ADG:∀(e:Env),e 0=.pointer (some ⟨rb,0,none⟩)→e 21=.bool true→Au b=([],none)→(fw none KK) .normal e [] W:=by
  intro e h0 h21 hx;simp only[j_,Aj,h21,Af,h0,By,CF,AA];refine h.bad λW2 c2 r2=>?_;simp only[j8,GL];exact D8 _ W2 0 c2 r2 (aa1 _) (by simp only[AG,↓reduceIte]) hx
 simp only[By,Tn,AA,h.ld0];rw[N1,AQ LS];simp only[AA,BD]
 cases cC:b with
 |nil=>
  rw[show(((([]:List UInt8).length:Nat):Int)==0)=true from rfl,Af];refine ADG _ (by simp only[AG,AJ,Lc,Nat.reduceEqDiff,↓reduceIte,Nb,Kn]) (by simp only[AG,↓reduceIte]) (by unfold Au;rw[cC])
 | cons x0 b'=>
  rw[show((((x0::b').length:Nat):Int)==0)=false by rw[beq_eq_false_iff_ne];simp only[aaw];omega,AT];obtain⟨p,rfl,hbx⟩:=TK 0 x0 (by rw[cC];rfl);have Ad:0<b.length:=by rw[cC];simp
  have JT:UK prog 29 (.slice (some p) (x0::b').length cap) (.int .i64 0)=some (.pointer (some ⟨p.block,p.off+0*1,none⟩)):=AY (i:=0) LS s5 (by simp);rw[JT];have zj:W.cell p.block (p.off+0*1)=some (.int .u8 x0.toNat):=h.kp.cell I.top hbx;have hl5:=AH (P:=prog) a5 (a:=⟨p.block,p.off+0*1,none⟩) zj;simp only[AA,hl5,BX];rw[←cC]
  by_cases NK:x0.toNat=1
  rotate_left
  ·refine ADG _ (by simp only[AG,AJ,Lc,Nat.reduceEqDiff,↓reduceIte,Nb,Kn]) ?_ ?_
   ·simp only[AG,↓reduceIte];congr 1;simp;omega
   ·unfold Au;rw[cC];simp only;rw[aad NK]
  have Jz:((x0.toNat:Int) !=1)=false:=by rw[NK];rfl
  rw[Jz];simp only[j_,Aj];simp only[AG,AJ,Lc,Nat.reduceEqDiff,↓reduceIte,Nb,Kn,AT];simp only[j8,Aj];simp only[AG,AJ,Lc,Nat.reduceEqDiff,↓reduceIte,Nb,Kn,By,O',AA];refine h.move (n:=1) λW1 c1 r1=>?_;refine(Mv I r1 (by omega)).mono λen W2 ⟨c2,hp⟩=>?_;have c02:=c1.rd c2
  cases hn:EC b 6 1 0 0 with
  | error x=>
   rw[hn]at hp;obtain⟨n,BY,rfl,No,r2⟩:=hp;have hT:Au b=([],none):=by unfold Au;rw[cC];simp only;rw[aae NK,←cC,hn]
   refine AL ?_;simp only[Ae,AA]
   have go:∀(e:Env) W',(∃BY,BY≤b.length∧RR A W' rb vb BY true)→Bw (LQ rb) W W'→e 0=.pointer (some ⟨rb,0,none⟩)→e 3=.int .i64 n→(fu none KK) .normal e [] W':=by
    intro e W' ⟨BY,No,r⟩ c h0 h3;simp only[ZF,Aj];refine CX (λk e ds W2=>ds=[]∧W2=W'∧e 0=.pointer (some ⟨rb,0,none⟩)∧e 3=.int .i64 n∧e 4=.slice none 0 0∧e 5=.int .i64 0) 0 ⟨rfl,rfl,by simp only[AG,AJ,Nat.reduceEqDiff,↓reduceIte,h0],by simp only[AG,AJ,Nat.reduceEqDiff,↓reduceIte,h3],by simp only[AG,Nat.reduceEqDiff,↓reduceIte],by simp only[AG,↓reduceIte]⟩ ?_;rintro k e ds W2 ⟨rfl,rfl,h0,h3,h4,h5⟩;rw[oI,h0,h3,h5];simp only[AP,AA]
    refine AF (λ_=>?_) (λ_=>?_)
    ·simp only[By,CF,AA,r.ik,AZ,aav,NU,Aj];simp only[AG,↓reduceIte,AT];simp only[Mj,Aj,LM,Er,M7,M7,Er,aar,RO];exact D8 _ W2 BY c r No (by simp only[AG,AJ,Nat.reduceEqDiff,↓reduceIte,h4]) hT
    ·simp only[NU,Aj];simp only[AG,↓reduceIte,AT];simp only[Mj,Aj,LM,Er,M7,M7,Er,aar,RO];exact D8 _ W2 BY c r No (by simp only[AG,AJ,Nat.reduceEqDiff,↓reduceIte,h4]) hT
   refine AF (λ_=>?_) (λ_=>?_)
   ·simp only[CF,AA];refine r2.bad λW3 c3 r3=>?_;exact go _ W3 ⟨BY,No,r3⟩ (c02.rd c3) (by simp only[AG,AJ,Lc,Nat.reduceEqDiff,↓reduceIte,Nb,Kn]) (by simp only[AG,Nat.reduceEqDiff,↓reduceIte])
   ·exact go _ W2 ⟨BY,No,r2⟩ c02 (by simp only[AG,AJ,Lc,Nat.reduceEqDiff,↓reduceIte,Nb,Kn]) (by simp only[AG,Nat.reduceEqDiff,↓reduceIte])
  | ok r=>
   obtain⟨n,a1⟩:=r;rw[hn]at hp;obtain⟨rfl,r2⟩:=hp;obtain⟨_,DS⟩:=L5 hn;refine AL ?_;simp only[Ae,AA]
   refine AF (λhg=>?_) (λhg=>?_)
   ·have hg:¬n≤100:=by have:=of_decide_eq_true hg;omega
    have hT:Au b=([],none):=by unfold Au;rw[cC];simp only;rw[aae NK,←cC,hn];simp only;rw[aad hg]
    simp only[CF,AA];refine r2.bad λW3 c3 r3=>?_;simp only[ZF,Aj];refine CX (λk e ds W2=>ds=[]∧W2=W3∧e 0=.pointer (some ⟨rb,0,none⟩)∧e 3=.int .i64 n∧e 4=.slice none 0 0∧e 5=.int .i64 0) 0 ⟨rfl,rfl,by simp only[AG,AJ,Lc,Nat.reduceEqDiff,↓reduceIte,Nb,Kn],by simp only[AG,AJ,Nat.reduceEqDiff,↓reduceIte],by simp only[AG,Nat.reduceEqDiff,↓reduceIte],by simp only[AG,↓reduceIte]⟩ ?_;rintro k e ds W2 ⟨rfl,rfl,h0,h3,h4,h5⟩;rw[oI,h0,h3,h5];simp only[AP,AA]
    refine AF (λ_=>?_) (λhf=>?_)
    ·simp only[By,CF,AA,r3.ik,AZ,aav,NU,Aj];simp only[AG,↓reduceIte,AT];simp only[Mj,Aj,LM,Er,M7,M7,Er,aar,RO];exact D8 _ W2 a1 (c02.rd c3) r3 DS (by simp only[AG,AJ,Nat.reduceEqDiff,↓reduceIte,h4]) hT
    ·have:=of_decide_eq_false hf;omega
   ·have hg:n≤100:=by have:=of_decide_eq_false hg;omega
    have hT:Au b=D9 b n a1 []:=by unfold Au;rw[cC];simp only;rw[aae NK,←cC,hn];simp only;rw[aae hg]
    simp only[ZF,Aj]
    have done:∀(e:Env) W',Bw (LQ rb) W W'→Bu W' 9 1 (e 2) (strs (Au b).1)→Aw W.sz (e 2)→(match(Au b).2 with
      |some BY=>BY≤b.length∧RR A W' rb vb BY false
      |none=>∃BY,BY≤b.length∧RR A W' rb vb BY true)→KK .ret e [] W':=by
     intro e W' c o nw m;rw[←FI,dA];exact⟨c,_,rfl,o,nw,m⟩
    refine C2 (λi e ds W'=>ds=[]∧∃BY out vo,Bw (LQ rb) W W'∧RR A W' rb vb BY false∧BY≤b.length∧out.length=i∧e 0=.pointer (some ⟨rb,0,none⟩)∧e 3=.int .i64 n∧e 4=vo∧e 5=.int .i64 i∧Bu W' 9 1 vo (strs out)∧Aw W.sz vo∧Au b=D9 b (n-i) BY out) n
     ⟨rfl,a1,[],.slice none 0 0,c02,r2,DS,rfl,by simp only[AG,AJ,Lc,Nat.reduceEqDiff,↓reduceIte,Nb,Kn],by simp only[AG,AJ,Nat.reduceEqDiff,↓reduceIte],by simp only[AG,Nat.reduceEqDiff,↓reduceIte],by simp only[AG,↓reduceIte];rfl,Bu.nil,Aw.nil _ _ _,hT⟩ ?_
    rintro i e ds W' hi ⟨rfl,BY,out,vo,hc,hr,No,hol,h0,h3,h4,h5,hO,hN,hG⟩;rw[oI,h0,h3,h5];simp only[AP,AA];refine Eh (λAd=>?_) (λGZ=>?_)
    rotate_left
    ·have:i=n:=by omega
     subst this;rw[abn]at hG;simp only[NU,Aj];simp only[AG,↓reduceIte,AT];simp only[Mj,Aj,LM,Er,Jp,Er,aar,RO];have hG:Au b=(out,some BY):=hG
     refine done _ W' hc ?_ ?_ ?_
     ·simp only[AG,AJ,Nat.reduceEqDiff,↓reduceIte,h4];rw[hG];exact hO
     ·simp only[AG,AJ,Nat.reduceEqDiff,↓reduceIte,h4];exact hN
     ·rw[hG];exact⟨No,hr⟩
    obtain⟨f,hf⟩:∃f,n-i=f+1:=⟨n-i-1,by omega⟩
    rw[hf]at hG
    have LC:D9 b (f+1) BY out=match KM b BY with
     |none=>(out,none)
     |some (s,a2)=>if Dt s=true∧(out.any λx=>decide (x=s))=false then D9 b f a2 (out++[s])else(out,none):=rfl
    rw[LC]at hG;simp only[By,CF,AA,hr.ik,AZ,aa6,NU,Aj];simp only[AG,↓reduceIte,Af];simp only[Mj,Aj];simp only[AG,AJ,Nat.reduceEqDiff,↓reduceIte,h0];refine(pS I hE hr No).mono λen W3 ⟨c3,hp⟩=>?_;have eI:=hc.rd c3
    have ne3:∀j,FA vo j→¬LQ rb j:=λj hj e=>by
     have e:j=rb:=e;subst e;have:=BE hr.Fk (CR hO hj);cases this
    have lN:Bu W3 9 1 vo (strs out):=c3.own hr.top hO ne3
    have zo:∀(e2:Env) W2 at2 (w:Bool),Bw (LQ rb) W W2→RR A W2 rb vb at2 w→at2≤b.length→Bu W2 9 1 vo (strs out)→e2 0=.pointer (some ⟨rb,0,none⟩)→e2 4=vo→e2 63=.bool true→Au b=(out,none)→(NT none (G4 (λi e ds W'=>ds=[]∧∃BY out vo,Bw (LQ rb) W W'∧RR A W' rb vb BY false∧BY≤b.length∧out.length=i∧e 0=.pointer (some ⟨rb,0,none⟩)∧e 3=.int .i64 n∧e 4=vo∧e 5=.int .i64 i∧Bu W' 9 1 vo (strs out)∧Aw W.sz vo∧Au b=D9 b (n-i) BY out) i n (CB 0 (RO none KK)))) .normal e2 [] W2:=by
     intro e2 W2 at2 w Yo P2 AL0 gq g0 g4 g63 hT2;simp only[c_,Aj,g63,Af,g0,By,CF,AA];refine P2.bad λW4 c4 r4=>?_;simp only[cz,kB,Aj,GL,Ib,FH,Ng,RO];have hO4:Bu W4 9 1 vo (strs out):=c4.own P2.top gq ne3
     refine done _ W4 (Yo.rd c4) ?_ ?_ ?_
     ·simp only[AG,↓reduceIte,g4];rw[hT2];exact hO4
     ·simp only[AG,↓reduceIte,g4];exact hN
     ·rw[hT2];exact⟨at2,AL0,r4⟩
    cases ht:KM b BY with
    |none=>
     rw[ht]at hp hG;obtain⟨s,a2,rfl,Wt,r3⟩:=hp;refine AL ?_;simp only[By,CF,AA,r3.ik,Af];exact zo _ W3 a2 _ eI r3 Wt lN (by simp only[AG,AJ,Nat.reduceEqDiff,↓reduceIte,h0]) (by simp only[AG,AJ,Nat.reduceEqDiff,↓reduceIte,h4]) (by simp only[AG,↓reduceIte]) hG
    | some r=>
     obtain⟨s,a2⟩:=r;rw[ht]at hp hG;obtain⟨rfl,Wt,r3⟩:=hp;simp only at hG;refine AL ?_;simp only[By,CF,AA,r3.ik,AT]
     have zS:s.size<1000000:=by
      unfold KM at ht
      split at ht
      ·cases ht
      ·rename_i n' a1' we
       split at ht
       ·cases ht
        show((b.drop a1').take n').toArray.size<1000000;rw[acr,aaE,abm];omega
       ·cases ht
     refine As (Nd (W:=W3) zS) ?_;simp only[AZ,AA]
     cases hsy:Dt s with
     |false=>
      simp only[aa6,Af];exact zo _ W3 a2 _ eI r3 Wt lN (by simp only[AG,AJ,Nat.reduceEqDiff,↓reduceIte,h0]) (by simp only[AG,AJ,Nat.reduceEqDiff,↓reduceIte,h4]) (by simp only[AG,↓reduceIte]) (by rw[hG,aad (by rw[hsy];simp)])
     | true=>
      simp only[aav,AT];simp only[h4];obtain⟨ao,co,hvo,hoc⟩:=O1 (f:=λ(s:ByteArray)=>Value.string s) lN;refine As (yx (s:=s) (W:=W3) (v:=vo) (l:=out) ⟨ao,co,hvo,hoc⟩ (by omega)) ?_;simp only[Bt,AA]
      have AL1:decide (Kt out (λx=>decide (x=s))≥0)=out.any λx=>decide (x=s):=by
       rw[abt]
       constructor
       ·intro hq;have hq:=of_decide_eq_true hq;unfold Kt at hq
        split at hq
        ·rename_i j hj;obtain⟨mh,rA,_⟩:=aaA.1 hj;exact aaQ.2 ⟨_,aaY mh,rA⟩
        ·omega
       ·intro hq;obtain⟨x,NK,bT⟩:=aaQ.1 hq;refine decide_eq_true ?_;unfold Kt
        split
        ·omega
        ·rename_i hj;rw[aaR]at hj;have:=hj x NK;rw[bT]at this;cases this
      rw[AL1]
      cases AJX:out.any λx=>decide (x=s)with
      |true=>exact zo _ W3 a2 _ eI r3 Wt lN (by simp only[AG,AJ,Nat.reduceEqDiff,↓reduceIte,h0]) (by simp only[AG,AJ,Nat.reduceEqDiff,↓reduceIte,h4]) (by simp only[AG,↓reduceIte]) (by rw[hG,aad (by rw[AJX];simp)])
      |false=>
       rw[aae ⟨hsy,AJX⟩]at hG;simp only[c_,Aj];simp only[AG,AJ,Nat.reduceEqDiff,↓reduceIte,AT];simp only[cz,Aj];simp only[AG,AJ,Nat.reduceEqDiff,↓reduceIte,h4];refine Ig LW s9 z9 rfl (by omega) by9 (by omega) (sK _) rfl rfl r3.top lN (by rw[EY];omega) λu Wa V7 W7 ka ta IF t7 o7 n7=>?_;have AFN:W.sz≤W3.sz:=eI.sz;have c7:Bw (FA vo) W3 W7:=IF.Dk;have D3:¬FA vo rb:=λhj=>ne3 rb hj rfl;have r7:RR A W7 rb vb a2 false:=r3.Dk c7 t7 (λj hj=>aa5 (aa5 (aag _) h.kp.sz) (hN.in hj)) D3;have hc7:Bw (LQ rb) W W7:=eI.then c7 λj hj hi=>by have:=hN.in hi;omega
       simp only[kB,Aj,FH];simp only[AG,AJ,Nat.reduceEqDiff,↓reduceIte,h5,AK,AA]
       refine⟨Ad,trivial,a2,out++[s],V7,hc7,r7,Wt,by simp[hol],by simp only[h0],by simp only[h3],by first|rfl|(simp only[AG,AJ,Lc,Nat.reduceEqDiff,↓reduceIte,Nb,bF,Kn,and_self]),?_,by rw[Zk];exact o7,n7 _ AFN,?_⟩
       ·rw[CE (by omega)]
       ·rw[hG,show n-(i+1)=f by omega]
theorem pT{l bk bx r1 r2 n ix:Nat}{c:List Aq}{ty:ByteArray}(N5:A3 c ty=some ix)(LU:n<100000)(hn:elemAt c ix=0→n≤(AX c ix).length)(J:Nat→CW→Prop)(Bad:List PanicEntry→CW→Prop)(hJ:∀i W,J i W→ze W bk bx r1 r2 c ty n)
  (pM:∀i W,i<n→J i W→LD prog Bs l [.int .i64 i,.int .u8 (BR c ix i)] W λe W'=>(e=.returned (.bool true)∧J (i+1) W')∨∃ch,e=.panicked ch∧Bad ch W') {W:CW} (h0:J 0 W) :
  Ac prog Bs 108 [.func (.yield l) #[] #[],.pointer (some ⟨bk,0,none⟩),.pointer (some ⟨bx,0,none⟩)] W λe W'=>(e=.returned (.tuple #[])∧J n W')∨∃ch,e=.panicked ch∧Bad ch W':=by
 refine zO ?_;rw[zN];have K0:=hJ 0 W h0;obtain⟨a0,ALq,NK⟩:=K0.x1;obtain⟨ea,eb,ef,eg,NG⟩:=K0.cat.sh.elem N5;simp only[Jb,G3,EF,AA];rw[AH a75 (a:=⟨bk,0,none⟩) K0.k0,AH a9 (a:=⟨bx,0,none⟩) K0.x0,AH Ww (a:=⟨bx,0+1,none⟩) NK];simp only[AA,NG,TX,AQ J9];refine C2 (λi e ds W'=>ds=[]∧e 0=.func (.yield l) #[] #[]∧e 1=.pointer (some ⟨bk,0,none⟩)∧e 2=.pointer (some ⟨bx,0,none⟩)∧e 4=.int .u8 (elemAt c ix)∧e 15=.int .i64 n∧e 16=.int .i64 i∧J i W') n ⟨rfl,rfl,rfl,rfl,rfl,rfl,rfl,h0⟩ ?_;rintro i e ds W' hi ⟨rfl,h0,h1,h2,h4,X5,h16,hj⟩;rw[sM,h1,h2,h4,X5,h16];simp only[AP,AA]
 refine Eh (λAd=>?_) (λGZ=>?_)
 ·have Fo:∀(e1:Env),A9 [0,1,2,4,15,16] e e1→e1 5=.int .i64 i→e1 6=.int .u8 (BR c ix i)→
    (TU none (G4 (λi e ds W'=>ds=[]∧e 0=.func (.yield l) #[] #[]∧e 1=.pointer (some ⟨bk,0,none⟩)∧e 2=.pointer (some ⟨bx,0,none⟩)∧e 4=.int .u8 (elemAt c ix)∧e 15=.int .i64 n∧e 16=.int .i64 i∧J i W') i n (CB 0 (AM prog Tryz.f108 λe W'=>(e=.returned (.tuple #[])∧J n W')∨∃ch,e=.panicked ch∧Bad ch W')))) .normal e1 [] W':=by
   intro e1 hA h5 h6;have g0:=(hA 0 (by decide)).trans h0;have g16:=(hA 16 (by decide)).trans h16;simp only[du,Aj,g0,h5,h6];refine TY ((pM i W' Ad hj).mono λen W1 hp=>?_)
   rcases hp with⟨rfl,mh⟩|⟨ch,rfl,FJ⟩
   ·simp only[Di,AZ,AA,aav,AT,P5,Aj,GL,Ib,FH,Ng];simp only[AG,AJ,Nat.reduceEqDiff,↓reduceIte,g16,AK,AA];exact⟨Ad,trivial,g0,(hA 1 (by decide)).trans h1,(hA 2 (by decide)).trans h2,(hA 4 (by decide)).trans h4,(hA 15 (by decide)).trans X5,by rw[CE (by omega)],mh⟩
   ·simp only[Di,P5,ZQ,mq,FH,yz];exact .inr ⟨ch,rfl,FJ⟩
  simp only[BD,AA]
  refine AF (λhe=>?_) (λhe=>?_)
  ·have he:elemAt c ix=0:=by simpa using he
   have Ki:=hJ i W' hj;have La:=FT N5;have WK:i<(AX c ix).length:=by have:=hn he;omega
   obtain⟨ar,cr,lr,hrr⟩:=Ki.cat.rw.some N5;obtain⟨_,_,e3,hrc⟩:=hrr
   cases e3
   obtain⟨pr,rfl,OG⟩:=hrc i _ (ck WK);simp only[L0,G3,AA];rw[AH a76 (a:=⟨bk,0+1,none⟩) Ki.k1,AH a9 (a:=⟨bx,0,none⟩) Ki.x0];simp only[AA,lr];rw[AY LS s5 WK];simp only[AA];rw[AH a5 (a:=⟨pr.block,pr.off+i*1,none⟩) OG];simp only[AA];refine Fo _ (.put rfl) rfl ?_;show Value.int .u8 (AX c ix)[i]=_;rw[O5 he La,ck WK];rfl
  ·have he:elemAt c ix≠0:=by simpa using he
   refine Fo _ (.put rfl) rfl ?_;show Value.int .u8 (elemAt c ix)=_;have La:=FT N5;unfold BR;unfold elemAt at he ⊢;rw[ck La]at he ⊢;simp only at he ⊢;rw[aae he]
 ·simp only[Er,Jp,aar];have hi:i=n:=by omega
  exact O8 _ _ (.inl rfl) _ _ (.inl ⟨rfl,hi▸hj⟩)
theorem zp{fn:FuncId}{nt:Nat}{f:Operand}{p1 p2 a1 a2:Tmp}{A B:Code}{e:Env}{ds:List Deferred}{W:CW}{K:AD}{bk bx r1 r2 n ix:Nat}{c:List Aq}{ty:ByteArray}(ht:Ai W)
  (hf:e.ev f=.func (.func 108) #[] #[.pointer (some ⟨bk,0,none⟩),.pointer (some ⟨bx,0,none⟩)]) (N5:A3 c ty=some ix) (LU:n<100000) (hn:elemAt c ix=0→n≤(AX c ix).length)
  (hA:∀ro e0 ds K W,E6 prog Bs ro fn nt A e0 ds W K=K .normal (Env.of e0 [(a2,e0 p2),(a1,e0 p1)]) ds W) (zf:p1≠p2∧a1≠a2)
  (J:Nat→CW→Prop) (Bad:List PanicEntry→CW→Prop) (hJ:∀i W,J i W→ze W bk bx r1 r2 c ty n)
  (hJl:∀i W1 W2,J i W1→Ep (W.sz+1) W1 W2→(∀b k v,W1.cell b k=some v→W2.cell b k=some v)→J i W2)
  (h0:∀W2,Kp W W2→Ai W2→W2.sz=W.sz+2→W2.obj W.sz=some .deferred→J 0 W2)
  (jf:∀(i:Nat) W1 (Kb:AD) (E:Env),(∀t,t≠p1→t≠p2→t≠a1→t≠a2→E t=e t)→E a1=.int .i64 i→E a2=.int .u8 (BR c ix i)→i<n→J i W1→(∃o,W1.obj (W.sz+1)=some o∧∀a b c d,o≠.cells a b c d)→
   (∀e' EK W3,W3.obj (W.sz+1)=W1.obj (W.sz+1)→J (i+1) W3→Kb .normal e' EK W3)→(∀ch e' W3,W3.obj (W.sz+1)=W1.obj (W.sz+1)→Bad ch W3→Kb (.panic ch) e' [] W3)→
   E6 prog Bs (some (W.sz+1)) fn nt B E [] W1 Kb)
  (Ef:∀W',J n W'→K .normal e (mark W.sz::ds) W') (Iu:∀ch W',Bad ch W'→K (.panic ch) e (mark W.sz::ds) W') :
  FX prog Bs none fn nt (.rangeFunc f #[p1,p2] A B) e ds W K:=by
 have Ah:∀{W1 W2:CW} {st ER XD e' kN kO A' B' d'},Es W1 (W.sz+1) st ER XD e' kN kO A' B' d'→Ep (W.sz+1) W1 W2→∀b k v,W1.cell b k=some v→W2.cell b k=some v:=by
  intro W1 W2 st ER XD e' kN kO A' B' d' hl hu b k v hc;obtain⟨T,ho,_⟩:=hl
  rw[hu.cell]
  ·exact hc
  ·rintro rfl;unfold CW.cell at hc;rw[ho]at hc;cases hc
 refine yt (g:=108) (args:=[.func (.yield (W.sz+1)) #[] #[],.pointer (some ⟨bk,0,none⟩),.pointer (some ⟨bx,0,none⟩)]) ht ?_ λW2 k2 t2 z2 hd hl=>?_
 ·rw[hf];rfl
 ·refine(pT (J:=λi W'=>J i W'∧Es W' (W.sz+1) .ready none fn e nt #[p1,p2] A B W.sz) (Bad:=Bad) N5 LU hn (λi W' h=>hJ i W' h.1) (λi W' hi h=>?_) ⟨h0 W2 k2 t2 z2 hd,hl⟩).mono λen W' hr=>?_
  ·obtain⟨hj,V6⟩:=h;refine rn V6 rfl ?_;rw[hA];refine⟨rfl,none,e,nt,#[p1,p2],A,B,W.sz,V6,λW3 hu sE=>?_⟩;have hj3:=hJl i W' W3 hj hu (Ah V6 hu);obtain⟨zg,hd2⟩:=zf
   refine jf i W3 _ _ (λt h1 h2 h3 h4=>by simp only[AG,AJ,abp,acd,Env.GK,aad h1,aad h2,aad h3,aad h4]) (by simp only[AG,AJ,abp,acd,Env.GK,aad zg,aad hd2,aar]) (by simp only[AG,AJ,abp,acd,Env.GK,aar,aad (ab8 zg)]) hi hj3 (by obtain⟨T,ho,_⟩:=sE;exact⟨_,ho,λ_ _ _ _ h=>by cases h⟩) (λe' EK W4 ho hj4=>?_) (λch e' W4 ho hb4=>?_)
   ·refine⟨.busy,none,fn,e,nt,#[p1,p2],A,B,W.sz,sE.congr ho,λW5 eF hl5=>.inl ⟨rfl,?_,hl5⟩⟩;exact hJl _ W4 W5 hj4 eF (Ah (sE.congr ho) eF)
   ·exact⟨.busy,none,fn,e,nt,#[p1,p2],A,B,W.sz,sE.congr ho,rfl,.inr ⟨ch,rfl,hb4⟩⟩
  ·rcases hr with⟨rfl,hj,V6⟩|⟨ch,rfl,hb⟩
   ·refine⟨⟨_,rfl⟩,.ready,none,fn,e,nt,#[p1,p2],A,B,W.sz,V6,(by intro h;cases h),λW5 eF=>Ef W5 ?_⟩;exact hJl _ W' W5 hj eF (Ah V6 eF)
   ·exact Iu ch W' hb
def J_(n:Nat):Int:=if n%2=1 then -((((n+1)/2:Nat)):Int)else((n/2:Nat):Int)
def DR(b:List UInt8)(c:List Aq)(ix many:Nat):Nat→Nat→Nat→Nat→List Int→Except Int (List Int×Nat×Nat)
 |0,_,at_,fd,vs=>.ok (vs,fd,at_)
 | m+1,k,at_,fd,vs=>if BR c ix k=2 then
   (match ED b at_ ((min (fd+1) many:Nat):Int)with
   | .error e=>.error e
   | .ok (n,a)=>DR b c ix many m (k+1) a (max fd n) (vs++[(n:Int)]))
  else
   (match ED b at_ 2000000000 with
   | .error e=>.error e
   | .ok (n,a)=>DR b c ix many m (k+1) a fd (vs++[J_ n]))
theorem eJ(a b:Int)(W:CW):blt prog .min [3,3] [.int .i64 a,.int .i64 b] W=some (.int .i64 (min a b),W):=by
 have h:blt prog .min [3,3] [.int .i64 a,.int .i64 b] W=some (.int .i64 (cond (decide (b<a)) b a),W):=rfl;rw[h]
 by_cases hq:b<a
 ·rw[decide_eq_true hq,Int.min_eq_right (by omega)];rfl
 ·rw[decide_eq_false hq,Int.min_eq_left (by omega)];rfl
theorem zr(a b:Int)(W:CW):blt prog .max [3,3] [.int .i64 a,.int .i64 b] W=some (.int .i64 (max a b),W):=by
 have h:blt prog .max [3,3] [.int .i64 a,.int .i64 b] W=some (.int .i64 (cond (decide (a<b)) b a),W):=rfl;rw[h]
 by_cases hq:a<b
 ·rw[decide_eq_true hq,Int.max_eq_right (by omega)];rfl
 ·rw[decide_eq_false hq,Int.max_eq_left (by omega)];rfl
theorem AFP:agg? prog 124=some false:=by kernel_rfl
def MM(n:Nat)(vs:List Int):List Value:=DA (vs++List.replicate (n-vs.length) 0)
theorem O_{n:Nat}{vs:List Int}(h:vs.length≤n):(MM n vs).length=n:=by
 unfold MM DA;rw[aaq,aas,ab7];omega
theorem zs{n:Nat}{vs:List Int}(h:vs.length<n)(x:Int):putAt (MM n vs) (0+vs.length*1) [.int .i64 x]=MM n (vs++[x]):=by
 have h1:0+vs.length*1=vs.length:=by omega
 have hl:=O_ (Nat.le_of_lt h);have MV:=O_ (n:=n) (vs:=vs++[x]) (by simp;omega);rw[h1];apply aaN;intro j;rw[JP (by rw[hl];simp;omega)];unfold MM DA;simp only[aaH,aaz]
 by_cases e:vs.length≤j∧j<vs.length+1
 ·have:j=vs.length:=by omega
  subst this;rw[aae e,abn];rw[aay (by simp),aaC (by omega),abn];rfl
 ·rw[aad e]
  by_cases hj:j<vs.length
  ·rw[aay hj,aay (by simp;omega),aay hj]
  ·rw[aaC (by omega),aaC (by simp;omega)];simp only[aas,aaH,List.getElem?_replicate]
   by_cases h2:j-vs.length<n-vs.length
   ·rw[aae h2,aae (by omega)]
   ·rw[aad h2,aad (by omega)]
theorem uv{n:Nat}{vs:List Int}(h:vs.length<n)(x y:Int):putAt (MM n (vs++[x])) (0+vs.length*1) [.int .i64 y]=MM n (vs++[y]):=by
 have h1:0+vs.length*1=vs.length:=by omega
 have hl:=O_ (n:=n) (vs:=vs++[x]) (by simp;omega);rw[h1];apply aaN;intro j;rw[JP (by rw[hl];simp;omega)];unfold MM DA;simp only[aaH,aaz]
 by_cases e:vs.length≤j∧j<vs.length+1
 ·have:j=vs.length:=by omega
  subst this;rw[aae e,abn];rw[aay (by simp),aaC (by omega),abn];rfl
 ·rw[aad e]
  by_cases hj:j<vs.length
  ·rw[aay (by simp;omega),aay hj,aay (by simp;omega),aay hj]
  ·rw[aaC (by simp;omega),aaC (by simp;omega)];simp only[aas,aaH]
def S3(rb Ge bv j:Nat):Prop:=j=rb∨j=Ge∨j=bv
structure VIn(A WI:CW)(rb b3 b8 Ge X6 bv n many:Nat)(ty:ByteArray):Prop where
 top:Ai WI
 c3:A0 WI b3 124 [.pointer (some ⟨rb,0,none⟩)]
 c8:A0 WI b8 3 [.int .i64 many]
 x:A0 WI X6 56 [.string ty,.slice (some ⟨bv,0,none⟩) n n]
 mz:A.sz≤rb∧A.sz≤Ge∧A.sz≤bv
 ne:b8≠Ge∧b8≠bv∧Ge≠bv
 many:many≤1000
structure VJ(A WI:CW)(rb Ge bv n:Nat)(vb:Value)(W:CW)(at_ fd:Nat)(vs:List Int):Prop where
 Dk:Bw (S3 rb Ge bv) WI W
 rd:Rd A W rb vb at_
 f:A0 W Ge 3 [.int .i64 fd]
 v:A0 W bv 3 (MM n vs)
theorem gu{rb Ge bv:Nat}{WI:CW}{b:Nat}{el:TypeId}{vs x y z:List Value}(h:A0 WI b el vs)(hr:A0 WI rb 170 x)(hf:A0 WI Ge 3 y)(hv:A0 WI bv 3 z)(h1:el≠170)(h2:el≠3):¬S3 rb Ge bv b:=by
 rintro(rfl|rfl|rfl)
 ·exact h1 (BE h hr)
 ·exact h2 (BE h hf)
 ·exact h2 (BE h hv)
theorem zt{A WI W:CW}{K:AD}{E:Env}{rb b3 b8 Ge X6 bv n many ix at_ fd i:Nat}{vb:Value}{b:List UInt8}{c:List Aq}{ty:ByteArray}{vs:List Int}{ro:Option Nat}
  (I:QG A vb b) (V:VIn A WI rb b3 b8 Ge X6 bv n many ty) {xr yf zv:List Value} (hr0:A0 WI rb 170 xr) (hf0:A0 WI Ge 3 yf) (hv0:A0 WI bv 3 zv) (J:VJ A WI rb Ge bv n vb W at_ fd vs) (No:at_≤b.length) (eK:vs.length=i) (hi:i<n) (tO:fd≤1000)
  (q3:E 3=.pointer (some ⟨b3,0,none⟩)) (q8:E 8=.pointer (some ⟨b8,0,none⟩)) (w8:E 10=.pointer (some ⟨Ge,0,none⟩)) (q14:E 14=.pointer (some ⟨X6,0,none⟩)) (q16:E 16=.int .i64 i) (q17:E 17=.int .u8 (BR c ix i)) {G:Except Int (List Int×Nat×Nat)} {m:Nat}
  (hG:G=DR b c ix many (m+1) i at_ fd vs)
  (Al:∀e' W' BY Fl vs',Bw (S3 rb Ge bv) W W'→VJ A WI rb Ge bv n vb W' BY Fl vs'→BY≤b.length→Fl≤1000→vs'.length=i+1→G=DR b c ix many m (i+1) BY Fl vs'→K .normal e' [] W')
  (D8:∀e' W' x,Bw (S3 rb Ge bv) W W'→Bw (S3 rb Ge bv) WI W'→Ai W'→G=.error x→K (.panic (D5 x)) e' [] W') :
  E6 prog Bs ro 74 140 (rfB prog 74 0) E [] W K:=by
 obtain⟨Nx,QK,w5⟩:=V.ne;have nb3:=gu V.c3 hr0 hf0 hv0 (by decide) (by decide);have nbx:=gu V.x hr0 hf0 hv0 (by decide) (by decide)
 have nb8:¬S3 rb Ge bv b8:=by
  rintro(e|e|e)
  ·have h8:=V.c8;rw[e]at h8;have:=BE h8 hr0;cases this
  ·exact Nx e
  ·exact QK e
 have lO:bv≠rb:=by
  rintro rfl;have:=BE hv0 hr0;cases this
 have pU:Ge≠rb:=by
  rintro rfl;have:=BE hf0 hr0;cases this
 have atW:∀W',Bw (S3 rb Ge bv) WI W'→ld prog 124 (.pointer (some ⟨b3,0,none⟩)) W'=some (.pointer (some ⟨rb,0,none⟩))∧ld prog 3 (.pointer (some ⟨b8,0,none⟩)) W'=some (.int .i64 many)∧ld prog 40 (.pointer (some ⟨X6,0+1,none⟩)) W'=some (.slice (some ⟨bv,0,none⟩) n n):=λW' h=>
  ⟨AH AFP (a:=⟨b3,0,none⟩) ((h.Fk V.top nb3 V.c3).cell rfl),AH a3 (a:=⟨b8,0,none⟩) ((h.Fk V.top nb8 V.c8).cell rfl),AH Ww (a:=⟨X6,0+1,none⟩) ((h.Fk V.top nbx V.x).cell rfl)⟩
 have Wk:(MM n vs).length=n:=O_ (by omega);have lP:=V.many;obtain⟨l3,l8,lx⟩:=atW W J.Dk;have l10:ld prog 3 (.pointer (some ⟨Ge,0,none⟩)) W=some (.int .i64 fd):=AH a3 (a:=⟨Ge,0,none⟩) (J.f.cell rfl);rw[DR]at hG
 have put:∀(W1:CW) (x:Int),Bw (S3 rb Ge bv) WI W1→Ai W1→A0 W1 bv 3 (MM n vs)→∀{Kx:CW→Prop},(∀W2,Ep bv W1 W2→Bw (S3 rb Ge bv) WI W2→Ai W2→A0 W2 bv 3 (MM n (vs++[x]))→Kx W2)→wV (M6 prog 3 (.pointer (some ⟨bv,0+i*1,none⟩)) (.int .i64 x) W1) Kx:=by
  intro W1 x hc ht hB Kx hk;refine Ar s3 (a:=⟨bv,0+i*1,none⟩) (v:=.int .i64 x) rfl hB (by rw[Wk];simp;omega) λW2 hu HD=>?_;have hu:Ep bv W1 W2:=hu;refine hk W2 hu (hc.then hu.Dk λj _ h=>.inr (.inr h)) (ht.Ba (hB.lt ht) hu) ?_;have:=zs (n:=n) (vs:=vs) (by omega) x;rw[eK]at this;rw[←this];exact HD
 have JT:UK prog 40 (.slice (some ⟨bv,0,none⟩) n n) (.int .i64 i)=some (.pointer (some ⟨bv,0+i*1,none⟩)):=AY (i:=i) J9 s3 hi;rw[AD',q17];simp only[BD,AA]
 refine AF (λhk=>?_) (λhk=>?_)
 ·have hk:BR c ix i=2:=by simpa using hk
  rw[aae hk]at hG;rw[q14,q3,w8,q8,q16];simp only[EF,AA];rw[lx,l3,l10,l8];simp only[AK,AA];rw[show((fd:Int)+1)=((fd+1:Nat):Int) by omega,wrap64 (by omega) (by omega)];refine F8 (eJ _ _ W) ?_;rw[show min ((fd+1:Nat):Int) (many:Int)=((min (fd+1) many:Nat):Int) by omega];refine(L4 I J.rd No).mono λen W1 ⟨UM,t1,hp⟩=>?_;have hC1:Bw (S3 rb Ge bv) WI W1:=J.Dk.then UM λj _ h=>.inl h;obtain⟨l3',l8',lx'⟩:=atW W1 hC1
  cases hn:ED b at_ ((min (fd+1) many:Nat):Int)with
  |error x=>
   rw[hn]at hp hG;have hp:en=.panicked (D5 x):=hp;subst hp;refine Ev ?_;exact⟨by simp only[l3,lx,and_self],D8 _ W1 x (Bw.refl (S3 rb Ge bv) W|>.then UM λj _ h=>.inl h) hC1 t1 hG⟩
  | ok r=>
   obtain⟨x,a1⟩:=r;rw[hn]at hp hG;obtain⟨v,rfl,rfl,MU⟩:=hp;obtain⟨NK,_,DS⟩:=F' hn;refine AL ?_;rw[JT];simp only[AA];have Uo:=UM.Fk J.rd.top lO J.v;have hf1:=UM.Fk J.rd.top pU J.f;refine put W1 x hC1 t1 Uo λW2 hu uw t2 HD=>?_;obtain⟨AFQ,AL2,AFR⟩:=atW W2 uw;refine⟨by simp only[l3,lx,lx',and_self],trivial,?_⟩;have xV:A0 W2 Ge 3 [.int .i64 fd]:=hf1.congr (hu.obj _ w5);have AL3:ld prog 3 (.pointer (some ⟨Ge,0,none⟩)) W2=some (.int .i64 fd):=AH a3 (a:=⟨Ge,0,none⟩) (xV.cell rfl)
   have lv:ld prog 3 (.pointer (some ⟨bv,0+i*1,none⟩)) W2=some (.int .i64 x):=by
    refine AH a3 (a:=⟨bv,0+i*1,none⟩) (HD.cell ?_);show(MM n (vs++[(x:Int)]))[0+i*1]?=_;unfold MM DA;rw[aaz,aay (by simp;omega),aaC (by omega),show 0+i*1-vs.length=0 by omega];rfl
   rw[AL3,AFR];simp only[AA];rw[JT];simp only[AA];rw[lv];simp only[AA];refine F8 (zr _ _ W2) ?_;rw[show max (fd:Int) (x:Int)=((max fd x:Nat):Int) by omega];refine Ar s3 (a:=⟨Ge,0,none⟩) (v:=.int .i64 ((max fd x:Nat):Int)) rfl xV (by simp) λW3 UN IG=>?_;have UN:Ep Ge W2 W3:=UN;have IG:A0 W3 Ge 3 [.int .i64 ((max fd x:Nat):Int)]:=IG;have hC3:Bw (S3 rb Ge bv) WI W3:=uw.then UN.Dk λj _ h=>.inr (.inl h);have t3:=t2.Ba (xV.lt t2) UN;refine⟨by simp only[and_self],trivial,?_⟩;refine Al _ W3 a1 (max fd x) (vs++[(x:Int)]) (((Bw.refl (S3 rb Ge bv) W|>.then UM λj _ h=>.inl h).then hu.Dk λj _ h=>.inr (.inr h)).then UN.Dk λj _ h=>.inr (.inl h)) ⟨hC3,⟨(MU.kp.Ba V.mz.2.2 hu).Ba V.mz.2.1 UN,t3,MU.hb,(MU.Fk.congr (hu.obj _ (ab8 lO))).congr (UN.obj _ (ab8 pU))⟩,IG,HD.congr (UN.obj _ (ab8 w5))⟩ DS (by omega) (by simp[eK]) hG
 ·have hk:BR c ix i≠2:=by simpa using hk
  rw[aad hk]at hG;rw[q14,q3,q16,l3];simp only[AA];refine(L4 (most:=2000000000) I J.rd No).mono λen W1 ⟨UM,t1,hp⟩=>?_;have hC1:Bw (S3 rb Ge bv) WI W1:=J.Dk.then UM λj _ h=>.inl h;obtain⟨l3',l8',lx'⟩:=atW W1 hC1
  cases hn:ED b at_ 2000000000 with
  |error x=>
   rw[hn]at hp hG;have hp:en=.panicked (D5 x):=hp;subst hp;refine Ev ?_;exact D8 _ W1 x (Bw.refl (S3 rb Ge bv) W|>.then UM λj _ h=>.inl h) hC1 t1 hG
  | ok r=>
   obtain⟨x,a1⟩:=r;rw[hn]at hp hG;obtain⟨v,rfl,rfl,MU⟩:=hp;obtain⟨NK,_,DS⟩:=F' hn;refine AL ?_;simp only[EF,AA];rw[lx'];simp only[AA];refine Ap (Ot _ _ _ (by decide)) ?_;rw[show((x:Int).tdiv 2)=((x/2:Nat):Int) by rw[abN (by omega)];omega,wrap64 (by omega) (by omega)];rw[JT];simp only[AA];have Uo:=UM.Fk J.rd.top lO J.v;have hf1:=UM.Fk J.rd.top pU J.f;refine put W1 _ hC1 t1 Uo λW2 hu uw t2 HD=>?_;obtain⟨AFQ,AL2,AFR⟩:=atW W2 uw;have xV:A0 W2 Ge 3 [.int .i64 fd]:=hf1.congr (hu.obj _ w5);have P2:Rd A W2 rb vb a1:=⟨MU.kp.Ba V.mz.2.2 hu,t2,MU.hb,MU.Fk.congr (hu.obj _ (ab8 lO))⟩
   refine Ap (TA _ _ _ (by decide)) ?_;rw[show((x:Int).tmod 2)=((x%2:Nat):Int) by rw[ab0 (by omega)];rfl];refine Ap (BD _ _ _) ?_
   refine AF (λho=>?_) (λho=>?_)
   ·have ho:x%2=1:=by have:=eq_of_beq ho;omega
    rw[AFR];simp only[AK,AA];rw[show((x:Int)+1)=((x+1:Nat):Int) by omega,wrap64 (by omega) (by omega)]
    refine Ap (v:=.int .i64 (-((x+1:Nat):Int))) (by
     show some (Value.int .i64 (IntKind.i64.wrap (0-((x+1:Nat):Int))))=_
     rw[wrap64 (by omega) (by omega),Int.zero_sub]) ?_
    refine Ap (Ot _ _ _ (by decide)) ?_;rw[show((-((x+1:Nat):Int)).tdiv 2)=-(((x+1)/2:Nat):Int) by rw[Int.neg_tdiv,abN (by omega)];omega,wrap64 (by omega) (by omega)];rw[JT];simp only[AA];have MV:=O_ (n:=n) (vs:=vs++[((x/2:Nat):Int)]) (by simp;omega);refine Ar s3 (a:=⟨bv,0+i*1,none⟩) (v:=.int .i64 (-(((x+1)/2:Nat):Int))) rfl HD (by rw[MV];simp;omega) λW3 UN IG=>?_;have UN:Ep bv W2 W3:=UN;have hov:=uv (n:=n) (vs:=vs) (by omega) ((x/2:Nat):Int) (-(((x+1)/2:Nat):Int));rw[eK]at hov;have IG:A0 W3 bv 3 (MM n (vs++[-(((x+1)/2:Nat):Int)])):=by rw[←hov];exact IG
    have t3:=t2.Ba (HD.lt t2) UN;have YT:J_ x=-(((x+1)/2:Nat):Int):=by unfold J_;rw[aae ho]
    refine Al _ W3 a1 fd (vs++[-(((x+1)/2:Nat):Int)]) (((Bw.refl (S3 rb Ge bv) W|>.then UM λj _ h=>.inl h).then hu.Dk λj _ h=>.inr (.inr h)).then UN.Dk λj _ h=>.inr (.inr h)) ⟨uw.then UN.Dk λj _ h=>.inr (.inr h),⟨P2.kp.Ba V.mz.2.2 UN,t3,MU.hb,P2.Fk.congr (UN.obj _ (ab8 lO))⟩,xV.congr (UN.obj _ w5),IG⟩ DS tO (by simp[eK]) (by rw[hG];show DR b c ix many m (i+1) a1 fd (vs++[J_ x])=_;rw[YT])
   ·have ho:¬x%2=1:=by
     intro e;rw[e]at ho;simp at ho
    have YT:J_ x=((x/2:Nat):Int):=by unfold J_;rw[aad ho]
    exact Al _ W2 a1 fd (vs++[((x/2:Nat):Int)]) ((Bw.refl (S3 rb Ge bv) W|>.then UM λj _ h=>.inl h).then hu.Dk λj _ h=>.inr (.inr h)) ⟨uw,P2,xV,HD⟩ DS tO (by simp[eK]) (by rw[hG];show DR b c ix many m (i+1) a1 fd (vs++[J_ x])=_;rw[YT])
def Marks(B:Nat)(W:CW)(ds:List Deferred):Prop:=∃rs:List Nat,ds=rs.map mark∧rs.Nodup∧∀r,r∈rs→W.obj r=some .deferred∧B≤r
theorem Marks.nil(B:Nat)(W:CW):Marks B W []:=⟨[],rfl,acN,λr h=>by cases h⟩
theorem PA{P:Program}{fn:Func}{Q:Ending→CW→Prop}{x:Exit}{e:Env}{B:Nat}{W:CW}(ht:Ai W){ds:List Deferred}(h:Marks B W ds)(hq:∀W',(∀j o,W.obj j=some o→o≠.deferred→W'.obj j=some o)→(∀j,j<B→W'.obj j=W.obj j)→W'.sz=W.sz→Ai W'→AM P fn Q x e [] W'):AM P fn Q x e ds W:=by
 obtain⟨rs,rfl,WG,hr⟩:=h
 suffices key:∀(rs:List Nat) (W0:CW),Ai W0→rs.Nodup→(∀r,r∈rs→W0.obj r=some .deferred∧B≤r)→(∀W',(∀j o,W0.obj j=some o→o≠.deferred→W'.obj j=some o)→(∀j,j<B→W'.obj j=W0.obj j)→W'.sz=W0.sz→Ai W'→AM P fn Q x e [] W')→AM P fn Q x e (rs.map mark) W0 from key rs W ht WG hr hq
 intro rs
 induction rs with
 |nil=>intro W0 ht _ _ hq;exact hq W0 (λj o h _=>h) (λj _=>rfl) rfl ht
 | cons r rs ih=>
  intro W0 ht WG hr hq;obtain⟨MU,P2⟩:=hr r (by simp);obtain⟨Nx,QK⟩:=List.nodup_cons.1 WG
  refine Rq MU (ih (W0.Ba r .dead) (ht.Ba (ht _ _ MU) (Ep.of _ _ _)) QK (λr' h'=>?_) λW' h1 h2 h3 h4=>hq W' (λj o hj ho=>?_) (λj hj=>?_) h3 h4)
  ·obtain⟨a,b⟩:=hr r' (by simp[h']);exact⟨by rw[Gz,aad (by rintro rfl;exact Nx h')];exact a,b⟩
  ·refine h1 j o ?_ ho
   rw[Gz,aad]
   ·exact hj
   ·rintro rfl;rw[MU]at hj;cases hj;exact ho rfl
  ·rw[h2 j hj,Gz,aad (by omega)]
theorem Marks.Dk{B:Nat}{W W':CW}{ds:List Deferred}(h:Marks B W ds)(ho:∀j,W.obj j=some .deferred→B≤j→W'.obj j=some .deferred):Marks B W' ds:=by
 obtain⟨rs,h1,h2,h3⟩:=h;exact⟨rs,h1,h2,λr hr=>⟨ho r (h3 r hr).1 (h3 r hr).2,(h3 r hr).2⟩⟩
theorem Marks.push{B:Nat}{W:CW}{ds:List Deferred}{r:Nat}(h:Marks B W ds)(hr:W.obj r=some .deferred)(hB:B≤r)(hn:mark r∉ds):Marks B W (mark r::ds):=by
 obtain⟨rs,rfl,h2,h3⟩:=h;refine⟨r::rs,rfl,List.nodup_cons.2 ⟨λhm=>hn (aaM.2 ⟨r,hm,rfl⟩),h2⟩,λr' JY=>?_⟩
 rcases aaJ.1 JY with rfl|hm
 ·exact⟨hr,hB⟩
 ·exact h3 r' hm
def CZ (b:List UInt8)(c:List Aq)(ts:List ByteArray)(many:Nat):Nat→Nat→Nat→Nat→Nat→List CD→Except Int (List CD×Nat×Nat×Nat)
 |0,_,at_,used,fd,out=>.ok (out,used,fd,at_)
 | m+1,i,at_,used,fd,out=>if i<fd then
   (match ED b at_ (min (used:Int) ((ts.length:Int)-1))with
   | .error e=>.error e
   | .ok (t,a1)=>match ts[t]? with
    |none=>.error 4
    | some ty=>match A3 c ty with
     |none=>.error 4
     | some ix=>match(if elemAt c ix≠0 then ED b a1 200 else .ok ((AX c ix).length,a1))with
      | .error e=>.error e
      | .ok (n,a2)=>match DR b c ix many n 0 a2 fd []with
       | .error e=>.error e
       | .ok (vs,Fl,a3)=>CZ b c ts many m (i+1) a3 (if t=used then used+1 else used) Fl (out++[⟨ty,vs⟩]))
  else .error 4
def Bf(b:List UInt8)(c:List Aq)(ask:ByteArray→Option Int)(at_:Nat):Except Int (List CD×Nat):=match Gt b ask at_ with
 | .error e=>.error e
 | .ok (ts,a1)=>match ED b a1 1000 with
  | .error e=>.error e
  | .ok (many,a2)=>match CZ b c ts many many 0 a2 0 (min many 1) []with
   | .error e=>.error e
   | .ok (out,used,fd,a3)=>if fd=many∧used=ts.length∧a3=b.length then .ok (out,a3)else .error 4
def DV(p:CD×Value):List Value:=[.string p.1.type,p.2]
def AL4(B:Nat)(W:CW)(ps:List (CD×Value)):Prop:=∀p,p∈ps→∃bv,p.2=.slice (some ⟨bv,0,none⟩) p.1.AO.length p.1.AO.length∧A0 W bv 3 (DA p.1.AO)∧B≤bv
structure GN(B:Nat)(W:CW)(v:Value)(ps:List (CD×Value)):Prop where
 own:Bu W 56 2 v (ps.flatMap DV)
 new:Aw B v
 pv:AL4 B W ps
 nd:(ps.map (·.2)).Nodup
theorem GN.of{B:Nat}{W W':CW}{v:Value}{ps:List (CD×Value)}(h:GN B W v ps)(ho:∀j o,B≤j→W.obj j=some o→o≠.deferred→W'.obj j=some o):GN B W' v ps:=by
 refine⟨N6 h.own λj hj=>?_,h.new,λp hp=>?_,h.nd⟩
 ·obtain⟨c,n,z,WE,_⟩:=CR h.own hj;rw[WE];exact ho j _ (h.new.in hj) WE (by simp)
 ·obtain⟨bv,h1,hB,h3⟩:=h.pv p hp;refine⟨bv,h1,?_,h3⟩;obtain⟨c,n,z,WE,hx⟩:=hB;exact⟨c,n,z,ho bv _ h3 WE (by simp),hx⟩
structure TP where
 A:CW
 L:CW
 rb:Nat
 b3:Nat
 b4:Nat
 b8:Nat
 Ge:Nat
 r1:Nat
 r2:Nat
 vb:Value
 vt:Value
 b:List UInt8
 c:List Aq
 ts:List ByteArray
 many:Nat
 G:Except Int (List CD×Nat×Nat×Nat)
structure TIn(p:TP):Prop where
 rd:QG p.A p.vb p.b
 cat:IB p.A p.r1 p.r2 p.c
 ok:Bk p.c=true
 C:QD p.c
 top:Ai p.L
 kA:Kp p.A p.L
 c3:A0 p.L p.b3 124 [.pointer (some ⟨p.rb,0,none⟩)]
 c4:A0 p.L p.b4 78 [.map (some p.r1),.map (some p.r2)]
 c8:A0 p.L p.b8 3 [.int .i64 p.many]
 vt:Bu p.L 9 1 p.vt (strs p.ts)
 tl:p.ts.length≤100
 known:∀s,s∈p.ts→(A3 p.c s).isSome=true
 xr:∃v,A0 p.L p.rb 170 v
 xf:∃v,A0 p.L p.Ge 3 v
 mz:p.A.sz≤p.rb∧p.A.sz≤p.Ge
 ne:p.b8≠p.Ge
 many:p.many≤1000
def S2(rb Ge j:Nat):Prop:=j=rb∨j=Ge
structure TJ(p:TP)(W:CW)(at_ fd:Nat)(vo:Value)(ps:List (CD×Value))(ds:List Deferred):Prop where
 Dk:Bw (S2 p.rb p.Ge) p.L W
 rd:Rd p.A W p.rb p.vb at_
 f:A0 W p.Ge 3 [.int .i64 fd]
 heap:GN p.L.sz W vo ps
 marks:Marks p.L.sz W ds
structure TE(p:TP)(e:Env)(i used:Nat)(vo:Value):Prop where
 e3:e 3=.pointer (some ⟨p.b3,0,none⟩)
 e4:e 4=.pointer (some ⟨p.b4,0,none⟩)
 e7:e 7=p.vt
 e8:e 8=.pointer (some ⟨p.b8,0,none⟩)
 e9:e 9=.int .i64 used
 zu:e 10=.pointer (some ⟨p.Ge,0,none⟩)
 lI:e 11=vo
 e26:e 26=.int .i64 p.many
 e27:e 27=.int .i64 i
def TP.J(p:TP)(i:Nat)(e:Env)(ds:List Deferred)(W:CW):Prop:=∃at_ fd used vo ps,TJ p W at_ fd vo ps ds∧TE p e i used vo∧at_≤p.b.length∧fd≤1000∧used≤p.ts.length∧ps.length=i∧p.G=CZ p.b p.c p.ts p.many (p.many-i) i at_ used fd (ps.map (·.1))
section
variable {p:TP}(I:TIn p)
include I
theorem TIn.lts:p.rb<p.L.sz∧p.Ge<p.L.sz:=by
 obtain⟨_,h1⟩:=I.xr;obtain⟨_,h2⟩:=I.xf;exact⟨h1.lt I.top,h2.lt I.top⟩
theorem TIn.rne:p.rb≠p.Ge:=by
 obtain⟨_,h1⟩:=I.xr;obtain⟨_,h2⟩:=I.xf;intro e;rw[e]at h1;have:=BE h1 h2;cases this
theorem TIn.AFS{b:Nat}{el:TypeId}{vs:List Value}(h:A0 p.L b el vs)(h1:el≠170)(h2:el≠3):¬S2 p.rb p.Ge b:=by
 obtain⟨_,k1⟩:=I.xr;obtain⟨_,k2⟩:=I.xf
 rintro(rfl|rfl)
 ·exact h1 (BE h k1)
 ·exact h2 (BE h k2)
theorem TIn.at{W:CW}(h:Bw (S2 p.rb p.Ge) p.L W):ld prog 124 (.pointer (some ⟨p.b3,0,none⟩)) W=some (.pointer (some ⟨p.rb,0,none⟩))∧A0 W p.b4 78 [.map (some p.r1),.map (some p.r2)]∧A0 W p.b3 124 [.pointer (some ⟨p.rb,0,none⟩)]∧A0 W p.b8 3 [.int .i64 p.many]∧Bu W 9 1 p.vt (strs p.ts):=by
 have h3:=h.Fk I.top (I.AFS I.c3 (by decide) (by decide)) I.c3;refine⟨AH AFP (a:=⟨p.b3,0,none⟩) (h3.cell rfl),h.Fk I.top (I.AFS I.c4 (by decide) (by decide)) I.c4,h3,h.Fk I.top ?_ I.c8,h.own I.top I.vt λj hj=>I.AFS (CR I.vt hj) (by decide) (by decide)⟩
 rintro(e|e)
 ·obtain⟨_,k1⟩:=I.xr;have h8:=I.c8;rw[e]at h8;have:=BE h8 k1;cases this
 ·exact I.ne e
theorem TJ.step{W W':CW}{at_ fd BY:Nat}{vo:Value}{ps:List (CD×Value)}{ds:List Deferred}(J:TJ p W at_ fd vo ps ds)(hc:Bw (LQ p.rb) W W')(hr:Rd p.A W' p.rb p.vb BY):TJ p W' BY fd vo ps ds:=by
 have hl:=I.lts;have hs:=J.Dk.sz;have WE:∀j o,W.obj j=some o→j≠p.rb→W'.obj j=some o:=λj o hj D3=>by rw[hc.obj j (J.rd.top _ _ hj) D3];exact hj
 exact⟨J.Dk.then hc λj _ h=>.inl h,hr,J.f.congr (hc.obj _ (by omega) (ab8 I.rne)),J.heap.of λj o hB hj _=>WE j o hj (by omega),J.marks.Dk λj hj hB=>WE j _ hj (by omega)⟩
end
theorem pV:(prog.info? 56).map (·.bytes)=some 40:=by kernel_rfl
theorem AJY(s:ByteArray)(a:Addr)(n m:Nat)(W:CW):tk prog 24 1 [(0,.agg [.string s,.slice (some a) n m].toArray)] W=some (.slice (some ⟨W.sz,0,none⟩) 1 1,W.new (.cells (Tr.nil.AW 0 [.string s,.slice (some a) n m]) [Value.string s,.slice (some a) n m].length #[] 56)):=by kernel_rfl
theorem AL5:EM prog 40=some 1:=by kernel_rfl
theorem zw(n:Nat):MM n []=List.replicate n (.int .i64 0):=by
 unfold MM DA;simp
theorem zx{n:Nat}{vs:List Int}(h:vs.length=n):MM n vs=DA vs:=by
 unfold MM;rw[h,abn];simp
theorem DE:∀ps:List (CD×Value),(ps.flatMap DV).length=ps.length*2
 |[]=>rfl
 |q::ps=>by
  have ih:=DE ps;simp only[aaO,aas,ih,aaw,DV,abI];omega
theorem lQ{a b:Nat}(h:mark a=mark b):a=b:=by
 unfold mark at h
 injection h with h1 h2
 injection h1
theorem pW{p:TP}(I:TIn p){K:AD}{W:CW}{e:Env}{ds:List Deferred}{i n ix X6 at_ fd used m:Nat}{vo:Value}{ps:List (CD×Value)}{ty:ByteArray}(J:TJ p W at_ fd vo ps ds)(E:TE p e i used vo)
  (w9:e 14=.pointer (some ⟨X6,0,none⟩)) (X5:e 15=.int .i64 n) (hx:A0 W X6 56 [.string ty,.slice none 0 0]) (ABy:p.L.sz≤X6) (D3:∀j,FA vo j→j≠X6) (N5:A3 p.c ty=some ix) (Mt:elemAt p.c ix=0→n≤(AX p.c ix).length) (hn:n≤20100) (No:at_≤p.b.length) (tO:fd≤1000) (hi:i<1000)
  (hlen:ps.length=i)
  (hG:p.G=match DR p.b p.c ix p.many n 0 at_ fd []with| .error e=>.error e| .ok (vs,Fl,a3)=>CZ p.b p.c p.ts p.many m (i+1) a3 used Fl (ps.map (·.1)++[⟨ty,vs⟩]))
  (Iu:∀e' EK W' x,Marks p.L.sz W' EK→Bw (S2 p.rb p.Ge) p.L W'→Ai W'→p.G=.error x→K (.panic (D5 x)) e' EK W')
  (Al:∀e' EK W' BY Fl vo' q,TJ p W' BY Fl vo' (ps++[q]) EK→TE p e' (i+1) used vo'→BY≤p.b.length→Fl≤1000→p.G=CZ p.b p.c p.ts p.many m (i+1) BY used Fl ((ps++[q]).map (·.1))→K .normal e' EK W') :
  (PV none K) .normal e ds W:=by
 obtain⟨XE,MV⟩:=I.lts;have hs:=J.Dk.sz;simp only[dG,Aj];rw[X5,w9];refine sD J9 s3 z3 rfl by3 (by omega) (n:=n) (by omega) J.rd.top λW1 k1 t1 z1 hBv=>?_;simp only[EF,AA];have NK:=hx.ext J.rd.top k1;refine Ar AL5 (a:=⟨X6,0+1,none⟩) (v:=.slice (some ⟨W.sz,0,none⟩) n n) rfl NK (by simp) λW2 hu HD=>?_;have hu:Ep X6 W1 W2:=hu;have HD:A0 W2 X6 56 [.string ty,.slice (some ⟨W.sz,0,none⟩) n n]:=by simpa[putAt]using HD
 have ANq:=hx.lt J.rd.top;have t2:=t1.Ba (NK.lt t1) hu;have QC:∀j,j<W.sz→j≠X6→W2.obj j=W.obj j:=λj hj D3=>by rw[hu.obj j D3,k1.obj j hj]
 have uw:Bw (S2 p.rb p.Ge) p.L W2:=⟨by rw[hu.sz];have:=k1.sz;omega,λj hj hS=>by rw[QC j (by omega) (by omega)];exact J.Dk.obj j hj hS⟩
 have P2:Rd p.A W2 p.rb p.vb at_:=⟨(J.rd.kp.trans k1).Ba (by have:=I.kA.sz;omega) hu,t2,J.rd.hb,J.rd.Fk.congr (QC _ (by omega) (by omega))⟩
 have AL6:A0 W2 W.sz 3 (MM n []):=by
  rw[zw];exact hBv.congr (hu.obj _ (by omega))
 have J2:TJ p W2 at_ fd vo ps ds:=by
  refine⟨uw,P2,J.f.congr (QC _ (by omega) (by omega)),⟨N6 J.heap.own λj hj=>QC j (Zc J.rd.top J.heap.own hj) (D3 j hj),J.heap.new,λq hq=>?_,J.heap.nd⟩,J.marks.Dk λj hj hB=>?_⟩
  ·obtain⟨bv,h1,h2,h3⟩:=J.heap.pv q hq;exact⟨bv,h1,h2.congr (QC _ (h2.lt J.rd.top) (by rintro rfl;have:=BE h2 hx;cases this)),h3⟩
  ·rw[QC j (J.rd.top _ _ hj) (by
    rintro rfl;obtain⟨c,nn,z,ho,_⟩:=hx
    rw[ho]at hj;cases hj)]
   exact hj
 obtain⟨l3,B4,B3,B8,BT⟩:=I.at uw;rw[E.e4,VH B4,DC (vs:=[.string ty,.slice (some ⟨W.sz,0,none⟩) n n]) (a:=⟨X6,0,none⟩) bG IH rfl (by omega) HD.cells];simp only[AA];refine(Zw (r1:=p.r1) (r2:=p.r2) (ty:=ty) (vx:=.slice (some ⟨W.sz,0,none⟩) n n) t2).mono λen W3 ⟨k3,t3,bk,bx,Hx,wh,hbx,hBk,sQ⟩=>?_;subst Hx;refine AL ?_;have z2:W.sz<W2.sz:=by rw[hu.sz,z1];omega
 have ug:=k3.sz;have J3:TJ p W3 at_ fd vo ps ds:=J2.step I k3.rd (P2.X4 k3 t3);have hC3:=J3.Dk;obtain⟨l3',B4',B3',B8',BT'⟩:=I.at hC3;have ux:A0 W3 X6 56 [.string ty,.slice (some ⟨W.sz,0,none⟩) n n]:=HD.ext t2 k3;have ABz:A0 W3 W.sz 3 (MM n []):=AL6.ext t2 k3;have V:VIn p.A W3 p.rb p.b3 p.b8 p.Ge X6 W.sz n p.many ty:=⟨t3,B3',B8',ux,⟨I.mz.1,I.mz.2,by have:=I.kA.sz;omega⟩,⟨I.ne,by have:=I.c8.lt I.top;omega,by omega⟩,I.many⟩
 have nS:∀j,W3.sz≤j→¬S3 p.rb p.Ge W.sz j:=by
  rintro j hj (rfl|rfl|rfl)<;>omega
 have mk:∀W',Bw (S3 p.rb p.Ge W.sz) W3 W'→W'.obj W3.sz=some .deferred→(∀j o,W.obj j=some o→p.L.sz≤j→j≠X6→W'.obj j=some o)∧Marks p.L.sz W' (mark W3.sz::ds)∧Bw (S2 p.rb p.Ge) p.L W':=by
  intro W' hc hd
  have WE:∀j o,W.obj j=some o→p.L.sz≤j→j≠X6→W'.obj j=some o:=by
   intro j o hj hB AL7;have UL:=J.rd.top _ _ hj;rw[hc.obj j (by omega) (by rintro(rfl|rfl|rfl)<;>omega),k3.obj j (by omega),QC j UL AL7];exact hj
  refine⟨WE,Marks.push (J.marks.Dk λj hj hB=>?_) hd (by omega) λhm=>?_,⟨by have:=hc.sz;omega,λj hj hS=>by rw[hc.obj j (by omega) (by rintro(e|e|e);exact hS (.inl e);exact hS (.inr e);omega)];exact hC3.obj j hj hS⟩⟩
  ·exact WE j _ hj hB (by
    rintro rfl;obtain⟨c,nn,z,ho,_⟩:=hx
    rw[ho]at hj;cases hj)
  ·obtain⟨rs,mj,_,hr⟩:=J.marks;rw[mj]at hm;obtain⟨r,MU,P2⟩:=aaM.1 hm;have:=lQ P2;subst this;have:=J.rd.top _ _ (hr _ MU).1;omega
 have fin:∀(W':CW) BY Fl vs,VJ p.A W3 p.rb p.Ge W.sz n p.vb W' BY Fl vs→W'.obj W3.sz=some .deferred→vs.length=n→TJ p W' BY Fl vo ps (mark W3.sz::ds)∧A0 W' W.sz 3 (DA vs)∧A0 W' X6 56 [.string ty,.slice (some ⟨W.sz,0,none⟩) n n]:=by
  intro W' BY Fl vs hv hd eK;obtain⟨WE,hmk,hcL⟩:=mk W' hv.Dk hd
  refine⟨⟨hcL,hv.rd,hv.f,⟨N6 J.heap.own λj hj=>?_,J.heap.new,λq hq=>?_,J.heap.nd⟩,hmk⟩,?_,?_⟩
  ·obtain⟨c,nn,z,ho,_⟩:=CR J.heap.own hj;rw[ho];exact WE j _ ho (J.heap.new.in hj) (D3 j hj)
  ·obtain⟨bv,h1,h2,h3⟩:=J.heap.pv q hq;refine⟨bv,h1,?_,h3⟩;obtain⟨c,nn,z,ho,Ht⟩:=h2
   exact⟨c,nn,z,WE bv _ ho h3 (by
    rintro rfl
    have:=BE (⟨c,nn,z,ho,Ht⟩:A0 W bv 3 _) hx;cases this),Ht⟩
  ·rw[←zx eK];exact hv.v
  ·refine ux.congr (hv.Dk.obj _ (by omega) ?_);rintro(e|e|e)<;>omega
 have xr3:=J3.rd.Fk;have xf3:=J3.f
 refine zp (bk:=bk) (bx:=bx) (r1:=p.r1) (r2:=p.r2) (n:=n) (ix:=ix) (c:=p.c) (ty:=ty) t3 rfl N5 (by omega) Mt (λro e0 ds K W=>AD9 ro e0 ds K W) ⟨by decide,by decide⟩
  (λj W'=>W'.obj W3.sz=some .deferred∧W3.sz+2≤W'.sz∧∃BY Fl vs,VJ p.A W3 p.rb p.Ge W.sz n p.vb W' BY Fl vs∧BY≤p.b.length∧Fl≤1000∧vs.length=j∧DR p.b p.c ix p.many n 0 at_ fd []=DR p.b p.c ix p.many (n-j) j BY Fl vs)
  (λch W'=>W'.obj W3.sz=some .deferred∧∃x,ch=D5 x∧Bw (S3 p.rb p.Ge W.sz) W3 W'∧Ai W'∧DR p.b p.c ix p.many n 0 at_ fd []=.error x)
  ?_ ?_ ?_ ?_ ?_ ?_
 ·rintro j W' ⟨_,_,BY,Fl,vs,hv,_⟩;have hk:=hv.Dk.Fk t3 (gu hBk xr3 xf3 ABz (by decide) (by decide)) hBk;have hxx:=hv.Dk.Fk t3 (gu sQ xr3 xf3 ABz (by decide) (by decide)) sQ;exact⟨hk.cell rfl,hk.cell rfl,I.cat.kp I.rd.top hv.rd.kp,hxx.cell rfl,_,_,hxx.cell rfl⟩
 ·rintro j iZ W2' ⟨hd,KB,BY,Fl,vs,hv,h1,h2,h3,h4⟩ hul _;refine⟨by rw[hul.obj _ (by omega)];exact hd,by rw[hul.sz];exact KB,BY,Fl,vs,⟨⟨by rw[hul.sz];exact hv.Dk.sz,λj hj hS=>by rw[hul.obj j (by omega)];exact hv.Dk.obj j hj hS⟩,⟨hv.rd.kp.Ba (by have:=I.kA.sz;omega) hul,hv.rd.top.Ba (by omega) hul,hv.rd.hb,hv.rd.Fk.congr (hul.obj _ (by omega))⟩,hv.f.congr (hul.obj _ (by omega)),hv.v.congr (hul.obj _ (by omega))⟩,h1,h2,h3,h4⟩
 ·rintro W4 k4 t4 z4 hd4;exact⟨hd4,by omega,at_,fd,[],⟨Bw.HY k4,J3.rd.X4 k4 t4,xf3.ext t3 k4,ABz.ext t3 k4⟩,No,tO,rfl,rfl⟩
 ·rintro j W1 Kb E' hE DS Wt hj ⟨hd,KB,BY,Fl,vs,hv,gv,lR,eK,OH⟩ OB AJZ AJa
  refine zt (m:=n-j-1) (G:=DR p.b p.c ix p.many n 0 at_ fd []) I.rd V xr3 xf3 ABz hv gv eK hj lR ((hE 3 (by decide) (by decide) (by decide) (by decide)).trans (by simp only[AG,AJ,Nat.reduceEqDiff,↓reduceIte,E.e3])) ((hE 8 (by decide) (by decide) (by decide) (by decide)).trans (by simp only[AG,AJ,Nat.reduceEqDiff,↓reduceIte,E.e8])) ((hE 10 (by decide) (by decide) (by decide) (by decide)).trans (by simp only[AG,AJ,Nat.reduceEqDiff,↓reduceIte,E.zu])) ((hE 14 (by decide) (by decide) (by decide) (by decide)).trans (by simp only[AG,AJ,Nat.reduceEqDiff,↓reduceIte,w9])) DS Wt (by rw[OH,Nat.sub_add_cancel (show 1≤n-j by omega)]) (λe' W' AL8 AL9 AL' hcw ID AL_ AMA AMB AMC=>?_) (λe' W' x hcw QW uU Ht=>?_)
  ·have:=hcw.sz;exact AJZ e' [] W' (hcw.obj _ (by omega) (nS _ (by omega))) ⟨by rw[hcw.obj _ (by omega) (nS _ (by omega))];exact hd,by omega,AL8,AL9,AL',ID,AL_,AMA,AMB,by rw[AMC,show n-j-1=n-(j+1) by omega]⟩
  ·exact AJa _ e' W' (hcw.obj _ (by omega) (nS _ (by omega))) ⟨by rw[hcw.obj _ (by omega) (nS _ (by omega))];exact hd,x,rfl,QW,uU,Ht⟩
 ·rintro W' ⟨hd,KB,BY,Fl,vs,hv,gv,lR,eK,OH⟩;rw[abn]at OH;obtain⟨JF,gx,AMD⟩:=fin W' BY Fl vs hv hd eK;have OH:DR p.b p.c ix p.many n 0 at_ fd []=.ok (vs,Fl,BY):=OH;rw[OH]at hG;simp only[dF,Aj,wy];simp only[AG,AJ,Nat.reduceEqDiff,↓reduceIte,w9,E.lI];rw[DC (vs:=[.string ty,.slice (some ⟨W.sz,0,none⟩) n n]) (a:=⟨X6,0,none⟩) bG IH rfl (by omega) AMD.cells];simp only[AA];have Hp:=DE ps;refine Ig M' IH m0 rfl (by omega) pV (by omega) (AJY _ _ _ _) rfl rfl hv.rd.top JF.heap.own (by rw[Hp];omega) λu Wa V7 bE ka ta IF t10 o10 n10=>?_;have ANr:=IF.sz;have hzv:=hv.Dk.sz;have hpo:∀j o,W'.obj j=some o→¬FA vo j→bE.obj j=some o:=λj o hj hS=>by rw[IF.Dk.obj j (hv.rd.top _ _ hj) hS];exact hj
  have hnS:∀j,j<p.L.sz→¬FA vo j:=λj hj hi=>by have:=J.heap.new.in hi;omega
  have hnB:∀{j:Nat} {el:TypeId} {ws:List Value},A0 W' j el ws→el≠56→¬FA vo j:=λhB he hi=>he (BE hB (CR JF.heap.own hi))
  have zy:∀{j:Nat} {ws:List Value},A0 W' j 3 ws→A0 bE j 3 ws:=λ{j ws} hB=>by
   obtain⟨c,nn,z,ho,Ht⟩:=hB;exact⟨c,nn,z,hpo j _ ho (hnB (⟨c,nn,z,ho,Ht⟩:A0 W' j 3 ws) (by decide)),Ht⟩
  simp only[Mk,Aj];simp only[AG,AJ,Nat.reduceEqDiff,↓reduceIte,E.e27,AK,AA]
  refine Al _ _ bE BY Fl V7 (⟨ty,vs⟩,.slice (some ⟨W.sz,0,none⟩) n n) ⟨?_,⟨?_,t10,hv.rd.hb,?_⟩,zy hv.f,⟨?_,n10 _ (by omega),λq hq=>?_,?_⟩,JF.marks.Dk λj hj hB=>?_⟩ ⟨?_,?_,?_,?_,?_,?_,?_,?_,?_⟩ gv lR ?_
  ·exact JF.Dk.then IF.Dk λj hj hi=>(hnS j hj hi).elim
  ·exact IF.kp hv.rd.kp λb' l' c' e'=>by have:=J.heap.new b' l' c' e';have:=I.kA.sz;omega
  ·exact hv.rd.Fk.congr (IF.Dk.obj _ (by omega) (hnS _ XE))
  ·rw[abd]
   simpa[DV]using o10
  ·rcases aaB.1 hq with hq|hq
   ·obtain⟨bv,h1,h2,h3⟩:=JF.heap.pv q hq;exact⟨bv,h1,zy h2,h3⟩
   ·cases dy.1 hq
    exact⟨W.sz,by rw[←eK],zy gx,by omega⟩
  ·rw[aaI,List.nodup_append];refine⟨JF.heap.nd,abM _ _,λx hx y hy=>?_⟩;rw[dy.1 hy];rintro rfl;obtain⟨q,hq,he⟩:=aaM.1 hx;obtain⟨bv,h1,h2,_⟩:=J.heap.pv q hq;have h3:=h2.lt J.rd.top;rw[h1]at he
   cases he
   omega
  ·refine hpo j _ hj λhi=>?_;obtain⟨c,nn,z,ho,_⟩:=CR JF.heap.own hi;rw[ho]at hj;cases hj
  ·simp only[AG,AJ,Nat.reduceEqDiff,↓reduceIte,E.e3]
  ·simp only[AG,AJ,Nat.reduceEqDiff,↓reduceIte,E.e4]
  ·simp only[AG,AJ,Nat.reduceEqDiff,↓reduceIte,E.e7]
  ·simp only[AG,AJ,Nat.reduceEqDiff,↓reduceIte,E.e8]
  ·simp only[AG,AJ,Nat.reduceEqDiff,↓reduceIte,E.e9]
  ·simp only[AG,AJ,Nat.reduceEqDiff,↓reduceIte,E.zu]
  ·first|rfl|(simp only[AG,AJ,Lc,Nat.reduceEqDiff,↓reduceIte,Nb,bF,Kn,and_self])
  ·simp only[AG,AJ,Nat.reduceEqDiff,↓reduceIte,E.e26]
  ·rw[CE (by omega)];rfl
  ·rw[hG,aaI];rfl
 ·rintro ch W' ⟨hd,x,rfl,hc,uU,Ht⟩;obtain⟨_,hmk,hcL⟩:=mk W' hc hd;simp only[dF,Mk,Aj,ZQ,mq];exact Iu _ _ W' x hmk hcL uU (by rw[hG,Ht])
theorem z_(s:ByteArray):wu prog 56 [(0,.string s)]=some (.agg [.string s,.slice none 0 0].toArray):=by kernel_rfl
theorem AME:EM prog 124=some 1:=by kernel_rfl
theorem To{c:List Aq}(C:QD c)(i:Nat):(AX c i).length≤20100:=by
 unfold AX;rw[aaq];exact IA C.len C.fields i
theorem eL{b:List UInt8}{ask:ByteArray→Option Int}:∀{k at_:Nat} {out ts:List ByteArray} {a:Nat},GG b ask k at_ out=.ok (ts,a)→at_≤b.length→(∀s,s∈ts→s∈out∨ask s=none)∧ts.length=k+out.length∧a≤b.length
 |0,at_,out,ts,a,h,ha=>by cases h;exact⟨λs hs=>.inl hs,by omega,ha⟩
 | k+1,at_,out,ts,a,h,ha=>by
  unfold GG at h
  split at h
  ·cases h
  ·rename_i n a1 hn
   split at h
   ·cases h
   ·rename_i a2 ht
    split at h
    ·split at h
     ·cases h
     ·rename_i QH;obtain⟨h1,h2,h3⟩:=eL h (Zy ht).2;refine⟨λs hs=>?_,by rw[h2];simp;omega,h3⟩
      rcases h1 s hs with h|h
      ·rcases aaB.1 h with h|h
       ·exact .inl h
       ·rw[dy.1 h];exact .inr QH
      ·exact .inr h
    ·cases h
theorem uy{b:List UInt8}{ask:ByteArray→Option Int}{at_:Nat}{ts:List ByteArray}{a:Nat}(h:Gt b ask at_=.ok (ts,a)):(∀s,s∈ts→ask s=none)∧ts.length≤100∧a≤b.length:=by
 unfold Gt at h
 split at h
 ·cases h
 ·split at h
  ·split at h
   ·cases h
   ·rename_i k a2 hn;obtain⟨h1,h2,h3⟩:=F' hn;obtain⟨h4,h5,h6⟩:=eL h h3;refine⟨λs hs=>?_,by simp at h5;omega,h6⟩
    rcases h4 s hs with h|h
    ·cases h
    ·exact h
  ·cases h
theorem AAA{p:TP}(I:TIn p){K:AD}{e:Env}{W:CW}(h0:p.J 0 e [] W)
  (Iu:∀e' EK W' x,Marks p.L.sz W' EK→Bw (S2 p.rb p.Ge) p.L W'→Ai W'→p.G=.error x→K (.panic (D5 x)) e' EK W')
  (Ef:∀e' EK W',p.J p.many e' EK W'→K (.exit 0) e' EK W'):FX prog Bs none 74 140 (.loop (D6 prog 74 0)) e [] W K:=by
 obtain⟨XE,MV⟩:=I.lts;have lP:=I.many;refine C2 p.J p.many h0 ?_;rintro i e ds W hi ⟨at_,fd,used,vo,ps,J,E,No,tO,hus,hlen,hG⟩;rw[AD8,E.e27,E.e26];simp only[AP,AA];refine Eh (λAd=>?_) (λGZ=>?_)
 rotate_left
 ·have:i=p.many:=by omega
  subst this;simp only[Jp];exact Ef _ ds W ⟨at_,fd,used,vo,ps,J,⟨by simp only[AG,AJ,Nat.reduceEqDiff,↓reduceIte,E.e3],by simp only[AG,AJ,Nat.reduceEqDiff,↓reduceIte,E.e4],by simp only[AG,AJ,Nat.reduceEqDiff,↓reduceIte,E.e7],by simp only[AG,AJ,Nat.reduceEqDiff,↓reduceIte,E.e8],by simp only[AG,AJ,Nat.reduceEqDiff,↓reduceIte,E.e9],by simp only[AG,AJ,Nat.reduceEqDiff,↓reduceIte,E.zu],by simp only[AG,AJ,Nat.reduceEqDiff,↓reduceIte,E.lI],by simp only[AG,AJ,Nat.reduceEqDiff,↓reduceIte,E.e26],by simp only[AG,AJ,Nat.reduceEqDiff,↓reduceIte,E.e27]⟩,No,tO,hus,hlen,hG⟩
 ·obtain⟨m,hm⟩:∃m,p.many-i=m+1:=⟨p.many-i-1,by omega⟩
  rw[hm,CZ]at hG;have pan:∀e' W' x,Marks p.L.sz W' ds→Bw (S2 p.rb p.Ge) p.L W'→Ai W'→p.G=.error x→(G4 p.J i p.many K) (.panic (D5 x)) e' ds W':=λe' W' x h1 h2 h3 h4=>Iu e' ds W' x h1 h2 h3 h4;obtain⟨l3,B4,B3,B8,BT⟩:=I.at J.Dk;have l10:ld prog 3 (.pointer (some ⟨p.Ge,0,none⟩)) W=some (.int .i64 fd):=AH a3 (a:=⟨p.Ge,0,none⟩) (J.f.cell rfl);rw[E.zu,l10];simp only[AP,AA];refine Ik (λhb=>?_) (λhb=>?_)
  rotate_left
  ·have hb:¬i<fd:=by have:=of_decide_eq_false hb;omega
   rw[aad hb]at hG;simp only[Mk,ZQ,FH,yz];exact Iu _ ds W 4 J.marks J.Dk J.rd.top hG
  have hb:i<fd:=by have:=of_decide_eq_true hb;omega
  rw[aae hb]at hG;rw[E.e3,l3,E.e7,TG LW BT,EY];simp only[Am,AA];have ie:=I.tl;rw[wrap64 (by omega) (by omega),E.e9];refine F8 (eJ _ _ W) ?_;refine(L4 I.rd J.rd No).mono λen W1 ⟨UM,t1,hp⟩=>?_
  cases hn:ED p.b at_ (min (used:Int) ((p.ts.length:Int)-1))with
  |error x=>
   rw[hn]at hp hG;have hp:en=.panicked (D5 x):=hp;subst hp;refine Ev ?_;simp only[Mk,ZQ,FH,yz];refine Iu _ ds W1 x (J.marks.Dk λj hj hB=>?_) (J.Dk.then UM λj _ h=>.inl h) t1 hG;rw[UM.obj j (J.rd.top _ _ hj) (λh=>by have h:j=p.rb:=h;omega)];exact hj
  | ok r=>
   obtain⟨t,a1⟩:=r;rw[hn]at hp hG;obtain⟨v,rfl,rfl,MU⟩:=hp;obtain⟨htm,_,DS⟩:=F' hn;have AFT:t<p.ts.length:=by omega
   have mg:t≤used:=by omega
   refine AL ?_;have J1:TJ p W1 a1 fd vo ps ds:=J.step I UM MU;obtain⟨l3',B4',B3',B8',BT'⟩:=I.at J1.Dk;simp only at hG;have Wy:=ck AFT;rw[Wy]at hG;simp only at hG;obtain⟨ix,N5⟩:=abr.1 (I.known _ (aaY AFT));rw[N5]at hG;simp only at hG;generalize Oa:p.ts[t]=ty at hG N5
   have k36:∀(e1:Env) (JC:Nat),TE p e1 i JC vo→e1 13=.int .i64 t→JC=(if t=used then used+1 else used)→(XS none (G4 p.J i p.many K)) .normal e1 ds W1:=by
    intro e1 JC E1 y9 YT;rw[←YT]at hG;have AJb:JC≤p.ts.length:=by rw[YT];split<;>omega
    simp only[uM,Aj];obtain⟨ao,co,hvt,hoc⟩:=O1 (f:=λ(s:ByteArray)=>Value.string s) BT';obtain⟨q,rfl,hq⟩:=hoc t _ Wy;rw[Oa]at hq;rw[E1.e7,y9,hvt,AY LW s9 AFT];simp only[AA];rw[AH a9 (a:=⟨q.block,q.off+t*1,none⟩) hq];simp only[AA];refine Ap (z_ _) ?_;refine EH (ws:=[.string ty,.slice none 0 0]) m0 IH rfl rfl rfl t1 λW2 k2 t2 z2 ABy=>?_;have P2:=MU.X4 k2 t2;have J2:TJ p W2 a1 fd vo ps ds:=J1.step I k2.rd P2;obtain⟨AFQ,AJc,ANs,ANt,ANu⟩:=I.at J2.Dk;have AJd:=I.cat.kp I.rd.top P2.kp;obtain⟨ea,eb,ef,eg,NG⟩:=AJd.sh.elem N5;obtain⟨ar,cr,lr,hrr⟩:=AJd.rw.some N5;have l9:ld prog 9 (.pointer (some ⟨W1.sz,0,none⟩)) W2=some (.string ty):=AH a9 (a:=⟨W1.sz,0,none⟩) (ABy.cell rfl);have l76:ld prog 76 (.pointer (some ⟨p.b4,0+1,none⟩)) W2=some (.map (some p.r2)):=AH a76 (a:=⟨p.b4,0+1,none⟩) (AJc.cell rfl);have l75:ld prog 75 (.pointer (some ⟨p.b4,0,none⟩)) W2=some (.map (some p.r1)):=AH a75 (a:=⟨p.b4,0,none⟩) (AJc.cell rfl);rw[E1.e4];simp only[L0,Jb,G3,AA,l76,l75,l9,lr,NG,AQ LS,TX,BX];have AJe:∀j,FA vo j→j≠W1.sz:=λj hj e=>by have:=Zc t1 J1.heap.own hj;omega
    have AMF:p.L.sz≤W1.sz:=J1.Dk.sz
    have go:∀(e2:Env) (W3:CW) (a2 n:Nat),TJ p W3 a2 fd vo ps ds→TE p e2 i JC vo→e2 14=.pointer (some ⟨W1.sz,0,none⟩)→e2 15=.int .i64 n→A0 W3 W1.sz 56 [.string ty,.slice none 0 0]→a2≤p.b.length→(elemAt p.c ix=0→n≤(AX p.c ix).length)→n≤20100→
      (if elemAt p.c ix≠0 then ED p.b a1 200 else .ok ((AX p.c ix).length,a1))=.ok (n,a2)→(PV none (G4 p.J i p.many K)) .normal e2 ds W3:=by
     intro e2 W3 a2 n J3 E2 w9 X5 IG Wt Mt AMG AMH;rw[AMH]at hG;refine pW I (m:=m) J3 E2 w9 X5 IG AMF AJe N5 Mt AMG Wt tO (by omega) hlen hG (λe' EK W' x h1 h2 h3 h4=>Iu e' EK W' x h1 h2 h3 h4) (λe' EK W' BY Fl vo' q hJ' hE' ha' mi hG'=>?_);refine⟨Ad,BY,Fl,JC,vo',ps++[q],hJ',hE',ha',mi,AJb,by simp[hlen],?_⟩;rw[hG',show p.many-(i+1)=m by omega]
    refine AF (λgy=>?_) (λgy=>?_)
    ·have gy:elemAt p.c ix≠0:=by simpa using gy
     rw[E1.e3,AFQ];simp only[AA];refine(L4 (most:=200) I.rd P2 DS).mono λen W3 ⟨eI,t3,hp⟩=>?_
     cases QK:ED p.b a1 200 with
     |error x=>
      rw[QK]at hp;have hp:en=.panicked (D5 x):=hp;subst hp;rw[aae gy,QK]at hG;refine Ev ?_;simp only[dG,Mk,ZQ,mq,FH,yz];refine Iu _ ds W3 x (J2.marks.Dk λj hj hB=>?_) (J2.Dk.then eI λj _ h=>.inl h) t3 hG;rw[eI.obj j (t2 _ _ hj) (λh=>by have h:j=p.rb:=h;omega)];exact hj
     |ok r=>
      obtain⟨n,a2⟩:=r;rw[QK]at hp;obtain⟨v,rfl,rfl,hr3⟩:=hp;obtain⟨ANU,_,Wt⟩:=F' QK;refine AL ?_;refine go _ W3 a2 n (J2.step I eI hr3) ⟨by simp only[AG,AJ,Nat.reduceEqDiff,↓reduceIte,E1.e3],by simp only[AG,AJ,Nat.reduceEqDiff,↓reduceIte,E1.e4],by simp only[AG,AJ,Nat.reduceEqDiff,↓reduceIte,E1.e7],by simp only[AG,AJ,Nat.reduceEqDiff,↓reduceIte,E1.e8],by simp only[AG,AJ,Nat.reduceEqDiff,↓reduceIte,E1.e9],by simp only[AG,AJ,Nat.reduceEqDiff,↓reduceIte,E1.zu],by simp only[AG,AJ,Nat.reduceEqDiff,↓reduceIte,E1.lI],by simp only[AG,AJ,Nat.reduceEqDiff,↓reduceIte,E1.e26],by simp only[AG,AJ,Nat.reduceEqDiff,↓reduceIte,E1.e27]⟩ (by simp only[AG,Nat.reduceEqDiff,↓reduceIte]) (by simp only[AG,↓reduceIte]) (ABy.congr (eI.obj _ (by omega) (λh=>by have h:W1.sz=p.rb:=h;omega))) Wt (λh=>(gy h).elim) (by omega) (by rw[aae gy,QK])
    ·have gy:elemAt p.c ix=0:=by simpa using gy
     refine go _ W2 a1 _ J2 ⟨by simp only[AG,AJ,Nat.reduceEqDiff,↓reduceIte,E1.e3],by simp only[AG,AJ,Nat.reduceEqDiff,↓reduceIte,E1.e4],by simp only[AG,AJ,Nat.reduceEqDiff,↓reduceIte,E1.e7],by simp only[AG,AJ,Nat.reduceEqDiff,↓reduceIte,E1.e8],by simp only[AG,AJ,Nat.reduceEqDiff,↓reduceIte,E1.e9],by simp only[AG,AJ,Nat.reduceEqDiff,↓reduceIte,E1.zu],by simp only[AG,AJ,Nat.reduceEqDiff,↓reduceIte,E1.lI],by simp only[AG,AJ,Nat.reduceEqDiff,↓reduceIte,E1.e26],by simp only[AG,AJ,Nat.reduceEqDiff,↓reduceIte,E1.e27]⟩ (by simp only[AG,Nat.reduceEqDiff,↓reduceIte]) (by simp only[AG,Nat.reduceEqDiff,↓reduceIte]) ABy DS (λ_=>aag _) (To I.C ix) (by rw[aad (by simp[gy])])
   refine Ap (BD _ _ _) ?_
   refine AF (λhq=>?_) (λhq=>?_)
   ·have hq:t=used:=by have:=eq_of_beq hq;omega
    simp only[AK,AA];refine k36 _ (used+1) ⟨by simp only[AG,AJ,Nat.reduceEqDiff,↓reduceIte,E.e3],by simp only[AG,AJ,Nat.reduceEqDiff,↓reduceIte,E.e4],by simp only[AG,AJ,Nat.reduceEqDiff,↓reduceIte,E.e7],by simp only[AG,AJ,Nat.reduceEqDiff,↓reduceIte,E.e8],?_,by simp only[AG,AJ,Nat.reduceEqDiff,↓reduceIte,E.zu],by simp only[AG,AJ,Nat.reduceEqDiff,↓reduceIte,E.lI],by simp only[AG,AJ,Nat.reduceEqDiff,↓reduceIte,E.e26],by simp only[AG,AJ,Nat.reduceEqDiff,↓reduceIte,E.e27]⟩ (by simp only[AG,Nat.reduceEqDiff,↓reduceIte]) (by rw[aae hq]);rw[CE (by omega)];rfl
   ·have hq:¬t=used:=by rintro rfl;simp at hq
    exact k36 _ used ⟨by simp only[AG,AJ,Nat.reduceEqDiff,↓reduceIte,E.e3],by simp only[AG,AJ,Nat.reduceEqDiff,↓reduceIte,E.e4],by simp only[AG,AJ,Nat.reduceEqDiff,↓reduceIte,E.e7],by simp only[AG,AJ,Nat.reduceEqDiff,↓reduceIte,E.e8],by simp only[AG,AJ,Nat.reduceEqDiff,↓reduceIte,E.e9],by simp only[AG,AJ,Nat.reduceEqDiff,↓reduceIte,E.zu],by simp only[AG,AJ,Nat.reduceEqDiff,↓reduceIte,E.lI],by simp only[AG,AJ,Nat.reduceEqDiff,↓reduceIte,E.e26],by simp only[AG,AJ,Nat.reduceEqDiff,↓reduceIte,E.e27]⟩ (by simp only[AG,Nat.reduceEqDiff,↓reduceIte]) (by rw[aad hq])
theorem uz{W W':CW}{v:Value}{ts:List ByteArray}(h:Bu W 9 1 v (strs ts)):It prog 51 v W'=some (.int .i64 ts.length):=by
 rw[TG LW h,EY]
theorem lS{A W:CW}{rb at_ r1 r2:Nat}{vb vf:Value}{b:List UInt8}{c:List Aq}{ask:ByteArray→Option Int}(I:QG A vb b)(h:Rd A W rb vb at_)(ha:at_≤b.length)(QH:sT A vf ask)(hak:∀s,ask s=none→(A3 c s).isSome=true)(Iw:IB A r1 r2 c)(Al:Bk c=true)(hC:QD c) :
  Ac prog Bs 74 [.pointer (some ⟨rb,0,none⟩),QF r1 r2,vf] W (O9 A rb vb (λv xs W'=>∃ps,ps.map (·.1)=xs∧GN W.sz W' v ps) (Bf b c ask at_) W):=by
 refine AH' ?_;rw[AH9];generalize lM:O9 A rb vb (λv xs W'=>∃ps,ps.map (·.1)=xs∧GN W.sz W' v ps) (Bf b c ask at_) W=zk;generalize FI:AM prog Tryz.f74 zk=KK;have ANv:=h.Fk.lt h.top
 have Iu:∀(e:Env) (ds:List Deferred) W' x,Marks W.sz W' ds→Bw (LQ rb) W W'→Ai W'→Bf b c ask at_=.error x→KK (.panic (D5 x)) e ds W':=by
  intro e ds W' x hm hc ht hn;rw[←FI];refine PA ht hm λW2 h1 h2 h3 t2=>?_;show zk (.panicked (D5 x)) W2;rw[←lM];refine⟨⟨by rw[h3];exact hc.sz,λj hj hS=>by rw[h2 j hj];exact hc.obj j hj hS⟩,t2,?_⟩;rw[hn]
 unfold QF;refine G8 AME h.top λW0 k0 t0 z0 IG=>?_;have IG:A0 W0 W.sz 124 [.pointer (some ⟨rb,0,none⟩)]:=IG;refine G8 k_ t0 λW1 k1 t1 z1 N3=>?_;have N3:A0 W1 W0.sz 78 [.map (some r1),.map (some r2)]:=N3;have MU:=(h.X4 k0 t0).X4 k1 t1;have IG:=IG.ext t0 k1;have l3:∀W',W'.obj W.sz=W1.obj W.sz→ld prog 124 (.pointer (some ⟨W.sz,0,none⟩)) W'=some (.pointer (some ⟨rb,0,none⟩)):=λW' ho=>AH AFP (a:=⟨W.sz,0,none⟩) ((IG.congr ho).cell rfl);rw[l3 W1 rfl];simp only[AA];have UM:Bw (LQ rb) W W1:=(k0.trans k1).rd;refine(sU I MU ha QH).mono λen W2 ⟨Yo,t2,hp⟩=>?_;have uw:=UM.rd Yo
 cases hh:Gt b ask at_ with
 |error x=>
  rw[hh]at hp;have hp:en=.panicked (D5 x):=hp;subst hp;refine Ev ?_;exact Iu _ [] W2 x (.nil _ _) uw t2 (by unfold Bf;rw[hh])
 | ok r =>
  obtain⟨ts,a1⟩:=r;rw[hh]at hp;obtain⟨vt,rfl,⟨hvt,Nv⟩,P2⟩:=hp;obtain⟨M5,ie,DS⟩:=uy hh;refine AL ?_;have df:∀j,j<W1.sz→j≠rb→W2.obj j=W1.obj j:=λj hj D3=>Yo.obj j hj D3;rw[l3 W2 (df _ (by omega) (by omega))];simp only[AA];refine(L4 (most:=1000) I P2 DS).mono λen W4 ⟨hc4,t4,hp⟩=>?_;have hC4:=uw.rd hc4
  cases hn:ED b a1 1000 with
  |error x=>
   rw[hn]at hp;have hp:en=.panicked (D5 x):=hp;subst hp;refine Ev ?_;exact Iu _ [] W4 x (.nil _ _) hC4 t4 (by unfold Bf;rw[hh];simp only;rw[hn])
  | ok r=>
   obtain⟨many,a2⟩:=r;rw[hn]at hp;obtain⟨v,rfl,rfl,hr4⟩:=hp;obtain⟨lP,_,Wt⟩:=F' hn;have bU:W.sz<W1.sz:=by omega
   have UJ:=Yo.sz;have fY:=hc4.sz;refine AL ?_;refine LL z3 s3 t4 λW6 k6 t6 z6 N2=>?_;have N2:A0 W6 W4.sz 3 [.int .i64 0]:=N2;refine Ar s3 (a:=⟨W4.sz,0,none⟩) (v:=.int .i64 many) rfl N2 (by simp) λW7 hu7 N2=>?_;have hu7:Ep W4.sz W6 W7:=hu7;have N2:A0 W7 W4.sz 3 [.int .i64 many]:=N2;have t7:=t6.Ba (by omega) hu7;have z7:W7.sz=W4.sz+1:=by rw[hu7.sz,z6]
   have kn:Kp W7 (W7.new (.cells .nil 1 #[.int .i64 0] 3)):=.new _;have tn:=t7.new (.cells .nil 1 #[.int .i64 0] 3);have lT:(W7.new (.cells .nil 1 #[.int .i64 0] 3)).obj W7.sz=some (.cells .nil 1 #[.int .i64 0] 3):=by rw[Bd,aae rfl]
   have hBn:A0 (W7.new (.cells .nil 1 #[.int .i64 0] 3)) W7.sz 3 [.int .i64 0]:=⟨.nil,1,_,lT,rfl,λk v hk=>by
    match k,hk with
    |0,hk=>cases hk;rfl⟩
   have u3:(W7.new (.cells .nil 1 #[.int .i64 0] 3)).sz=W7.sz+1:=rfl;have Ny:tq (.pointer (some ⟨W7.sz,0,none⟩)) ((W7.new (.cells .nil 1 #[.int .i64 0] 3)).obj W7.sz) (W7.new (.cells .nil 1 #[.int .i64 0] 3))=true:=VP lT rfl;generalize hAn:W7.new (.cells .nil 1 #[.int .i64 0] 3)=An at kn tn lT hBn u3 Ny ⊢;have l8:∀W',W'.obj W4.sz=W7.obj W4.sz→ld prog 3 (.pointer (some ⟨W4.sz,0,none⟩)) W'=some (.int .i64 many):=λW' ho=>AH a3 (a:=⟨W4.sz,0,none⟩) ((N2.congr ho).cell rfl);have ho8:=kn.obj W4.sz (by omega);rw[l8 An ho8];simp only[AA];refine F8 (eJ _ _ An) ?_;rw[show min (many:Int) 1=((min many 1:Nat):Int) by omega];refine⟨trivial,?_⟩;refine Ar s3 (a:=⟨W7.sz,0,none⟩) (v:=.int .i64 ((min many 1:Nat):Int)) rfl hBn (by simp) λL hu9 AB0=>?_;have hu9:Ep W7.sz An L:=hu9;have AB0:A0 L W7.sz 3 [.int .i64 ((min many 1:Nat):Int)]:=AB0;refine⟨by simp only[l8 An ho8,and_self],by simp only[Ny,and_self],?_⟩;have hoL:∀j,j<W7.sz→L.obj j=W7.obj j:=λj hj=>by rw[hu9.obj j (by omega),kn.obj j hj]
   rw[l8 L (hoL _ (by omega))];simp only[AA];have tL:=tn.Ba (by omega) hu9;have zL:L.sz=W7.sz+1:=by rw[hu9.sz,u3]
   have ho4:∀j,j<W4.sz→L.obj j=W4.obj j:=λj hj=>by rw[hoL j (by omega),hu7.obj j (by omega),k6.obj j hj]
   have k4L:Kp W4 L:=⟨by omega,ho4⟩
   have hCL:Bw (LQ rb) W L:=hC4.rd k4L.rd;have hrL:=hr4.X4 k4L tL;have w9:∀j,j<W1.sz→j≠rb→L.obj j=W1.obj j:=λj hj D3=>by rw[ho4 j (by omega),hc4.obj j (by omega) D3,df j hj D3]
   have AMI:Bu L 9 1 vt (strs ts):=N6 hvt λj hj=>by
    have:=Zc t2 hvt hj;have D3:j≠rb:=by rintro rfl;have:=BE P2.Fk (CR hvt hj);cases this
    rw[ho4 j (by omega),hc4.obj j this D3]
   let p:TP:={A:=A,L:=L,rb:=rb,b3:=W.sz,b4:=W0.sz,b8:=W4.sz,Ge:=W7.sz,r1:=r1,r2:=r2,vb:=vb,vt:=vt,b:=b,c:=c,ts:=ts,many:=many,G:=CZ b c ts many many 0 a2 0 (min many 1) []}
   have hAW:=h.kp.sz;have IN:TIn p:=⟨I,Iw,Al,hC,tL,hrL.kp,IG.congr (w9 _ (by omega) (by omega)),N3.congr (w9 _ (by omega) (by omega)),N2.congr (hoL _ (by omega)),AMI,ie,λs hs=>hak s (M5 s hs),⟨_,hrL.Fk⟩,⟨_,AB0⟩,⟨h.hb,by show A.sz≤W7.sz;omega⟩,by show W4.sz≠W7.sz;omega,by show many≤1000;omega⟩
   have J0:TJ p L a2 (min many 1) (.slice none 0 0) [] []:=⟨.refl _ _,hrL,AB0,⟨Bu.nil,Aw.nil _ _ _,λq hq=>(by cases hq),acN⟩,.nil _ _⟩
   have kX:∀W',Bw (S2 p.rb p.Ge) p.L W'→Bw (LQ rb) W W':=λW' hc=>⟨by have:=hc.sz;have:L.sz≤W'.sz:=this;omega,λj hj hS=>by
    rw[hc.obj j (show j<L.sz by omega) (by
     rintro(e|e)
     ·exact hS e
     ·have e:j=W7.sz:=e
      omega),]
    exact hCL.obj j hj hS⟩
   have hmW:∀W' ds,Marks p.L.sz W' ds→Marks W.sz W' ds:=λW' ds ⟨rs,h1,h2,h3⟩=>⟨rs,h1,h2,λr hr=>⟨(h3 r hr).1,by have:L.sz≤r:=(h3 r hr).2;omega⟩⟩
   have hR:Bf b c ask at_=match p.G with| .error e=>.error e| .ok (out,used,fd,a3)=>if fd=many∧used=ts.length∧a3=b.length then .ok (out,a3)else .error 4:=by
    unfold Bf;rw[hh];simp only;rw[hn]<;>rfl
   refine AAA IN ⟨a2,min many 1,0,.slice none 0 0,[],J0,⟨rfl,rfl,rfl,rfl,rfl,rfl,rfl,rfl,rfl⟩,Wt,by omega,aa1 _,rfl,rfl⟩ (λe' EK W' x h1 h2 h3 h4=>?_) (λe' EK W' hj=>?_)
   ·simp only[mq,dE,ZQ];exact Iu e' EK W' x (hmW _ _ h1) (kX _ h2) h3 (by rw[hR,h4])
   ·obtain⟨BY,Fl,JC,vo,ps,J,E,gv,lR,AJb,Wk,hG⟩:=hj;have hG:p.G=CZ b c ts many (many-many) many BY JC Fl (ps.map (·.1)):=hG;rw[abn]at hG;have hG:p.G=.ok (ps.map (·.1),JC,Fl,BY):=hG;rw[hG]at hR;have hR:Bf b c ask at_=if Fl=many∧JC=ts.length∧BY=b.length then .ok (ps.map (·.1),BY)else .error 4:=hR;obtain⟨q3,Q4,Q3,Q8,QT⟩:=IN.at J.Dk;have w8:ld prog 3 (.pointer (some ⟨W7.sz,0,none⟩)) W'=some (.int .i64 Fl):=AH a3 (a:=⟨W7.sz,0,none⟩) (J.f.cell rfl);have q8:ld prog 3 (.pointer (some ⟨W4.sz,0,none⟩)) W'=some (.int .i64 many):=AH a3 (a:=⟨W4.sz,0,none⟩) (Q8.cell rfl);have q3:ld prog 124 (.pointer (some ⟨W.sz,0,none⟩)) W'=some (.pointer (some ⟨rb,0,none⟩)):=q3;have e3:e' 3=.pointer (some ⟨W.sz,0,none⟩):=E.e3;have e7:e' 7=vt:=E.e7;have e8:e' 8=.pointer (some ⟨W4.sz,0,none⟩):=E.e8;have zu:e' 10=.pointer (some ⟨W7.sz,0,none⟩):=E.zu;have qT:It prog 51 vt W'=some (.int .i64 ts.length):=uz QT;simp only[Er,aar,dE,Aj,e3,e7,e8,zu,E.e9,w8,q8,BD,AA]
    have bad:∀e2,¬(Fl=many∧JC=ts.length∧BY=b.length)→(Km none KK) (.panic (D5 4)) e2 EK W':=by
     intro e2 G_;simp only[Km,ZQ];exact Iu _ EK W' 4 (hmW _ _ J.marks) (kX _ J.Dk) J.rd.top (by rw[hR,aad G_])
    refine AF (λh1=>?_) (λh1=>?_)
    ·have h1:Fl=many:=by have:=eq_of_beq h1;omega
     simp only[qT,AA,BD]
     refine AF (λh2=>?_) (λh2=>?_)
     ·have h2:JC=ts.length:=by have:=eq_of_beq h2;omega
      obtain⟨av,cv,N1,_,_⟩:=I.sl;have lb:It prog 29 vb W'=some (.int .i64 b.length):=by rw[N1];exact AQ LS _ _ _ _
      have AMJ:ld prog 29 (.pointer (some ⟨rb,0,none⟩)) W'=some vb:=J.rd.ld0;have AMK:ld prog 3 (.pointer (some ⟨rb,0+1,none⟩)) W'=some (.int .i64 BY):=J.rd.wq;simp only[q3,By,lK,lL,AA,AMJ,AMK,lb,BD]
      refine Ik (λh3=>?_) (λh3=>?_)
      ·have h3:BY=b.length:=by have:=eq_of_beq h3;omega
       refine⟨by simp only[and_self],trivial,?_⟩;simp only[Km,Aj];rw[←FI];refine PA J.rd.top (hmW _ _ J.marks) λW2 g1 g2 g3 t2'=>?_;rw[uN,←lM];have AJf:=kX _ J.Dk;refine⟨⟨by rw[g3];exact AJf.sz,λj hj hS=>by rw[g2 j hj];exact AJf.obj j hj hS⟩,t2',?_⟩;rw[hR,aae ⟨h1,h2,h3⟩];have hz:p.L.sz=L.sz:=rfl
       refine⟨_,rfl,⟨ps,rfl,?_⟩,⟨⟨by rw[g3];exact J.rd.kp.sz,λj hj=>by rw[g2 j (by omega)];exact J.rd.kp.obj j hj⟩,t2',h.hb,?_⟩⟩
       ·have hH:=J.heap.of λj o hB hj ho=>g1 j o hj ho;simp only[AG,AJ,Nat.reduceEqDiff,↓reduceIte,E.lI]
        refine⟨hH.own,λb' l' c' e=>?_,λq hq=>?_,hH.nd⟩
        ·have:=hH.new b' l' c' e;omega
        ·obtain⟨bv,k1,k2,k3⟩:=hH.pv q hq;exact⟨bv,k1,k2,by omega⟩
       ·obtain⟨cc,nn,zz,ho,hx⟩:=J.rd.Fk;exact⟨cc,nn,zz,g1 _ _ ho (by simp),hx⟩
      ·have h3:¬BY=b.length:=by rintro rfl;simp at h3
       exact⟨by simp only[and_self],bad _ λhh=>h3 hh.2.2⟩
     ·have h2:¬JC=ts.length:=by rintro rfl;simp at h2
      refine Ik (λhf=>by cases hf) (λ_=>?_);exact⟨by simp only[and_self],bad _ λhh=>h2 hh.2.1⟩
    ·have h1:¬Fl=many:=by rintro rfl;simp at h1
     refine Ik (λhf=>by cases hf) (λ_=>?_);exact⟨by simp only[and_self],bad _ λhh=>h1 hh.1⟩
theorem AFU(v:Value):DL prog .neq 20 true (.iface 167 v) .nilIface=some (.bool true):=by kernel_rfl
theorem AFV:DL prog .neq 20 true .nilIface .nilIface=some (.bool false):=by kernel_rfl
theorem AFW(v:Value):tas prog 167 (.iface 167 v) true=some (.tuple #[v,.bool true]):=by kernel_rfl
theorem AML:Is prog 167=some (.agg #[.int .i64 0]):=by kernel_rfl
theorem AMM:EM prog 167=some 1:=by kernel_rfl
theorem AFX(a:Addr):Uq prog 167 (.pointer (some a)) 0=some (.pointer (some ⟨a.block,a.off,none⟩)):=by kernel_rfl
theorem a30:agg? prog 30=some false:=by kernel_rfl
theorem s30:EM prog 30=some 1:=by kernel_rfl
theorem z30:Is prog 30=some (.int .i64 0):=by kernel_rfl
theorem AFY(v:Value)(a:Option Addr)(n m:Nat)(h:v=.slice a n m):wu prog 170 [(0,v)]=some (.agg [v,.int .i64 0].toArray):=by subst h;kernel_rfl
theorem Tp:Tryz.f109.results.toList=[]:=by kernel_rfl
theorem lU:∃ty,Tryz.f72.results.toList=[.cell 4 ty]∧ty=30:=⟨30,by kernel_rfl,rfl⟩
theorem AJg(x:Int)(K:Value→FrameMode→Prop):yd (.panicking (D5 x)) K=K (.iface 167 (.agg #[.int .i64 x])) (.panicking [{v:=.iface 167 (.agg #[.int .i64 x]),recovered:=true}]):=rfl
theorem AJh(K:Value→FrameMode→Prop):yd .returning K=K .nilIface .returning:=rfl
structure u5(b:Nat)(W W':CW):Prop where
 sz:W.sz≤W'.sz
 obj:∀j,j<W.sz→j≠b→W'.obj j=W.obj j
theorem AFZ{W:CW}{b:Nat}{x y:Int}(ht:Ai W)(hB:A0 W b 30 [.int .i64 y]){Q:FrameMode→CW→Prop}(hq:∀W',u5 b W W'→Ai W'→A0 W' b 30 [.int .i64 x]→Q (.panicking [{v:=.iface 167 (.agg #[.int .i64 x]),recovered:=true}]) W'):Om prog Bs 109 [.pointer (some ⟨b,0,none⟩)] (.panicking (D5 x)) W Q:=by
 refine dD (fn:=Tryz.f109) (c:=Hr prog 109) (by kernel_rfl) Tryz.func109 (by kernel_rfl) (by kernel_rfl) ?_;have:=yl (.pointer (some ⟨b,0,none⟩)) (.panicking (D5 x)) (λx e u W=>(x=.normal∨x=.ret)∧(∃v,Da prog Tryz.f109.results.toList e W=some v)∧Q u W) W;refine this.mpr ?_;rw[AJg];refine Ap (AFU _) ?_;simp only[Af];refine Ap (AFW _) ?_;refine Ap (CN _ _) ?_;refine Ap (CO _ _) ?_;refine EH (ws:=[.int .i64 x]) AML AMM rfl rfl rfl ht λW2 k2 t2 z2 HD=>?_;simp only[AZ,AA,aav,AT,AFX];refine⟨by first|rfl|trivial,?_⟩;rw[AH a30 (a:=⟨W.sz,0,none⟩) (HD.cell rfl)];simp only[AA];have hb:=hB.lt ht;have hB':=hB.ext ht k2;refine Ar s30 (a:=⟨b,0,none⟩) (v:=.int .i64 x) rfl hB' (by simp) λW3 hu IG=>?_;have hu:Ep b W2 W3:=hu;refine⟨.inl (by first|rfl|trivial),⟨.tuple #[],by simp only[Da,Tp,Lo]⟩,hq W3 ⟨by rw[hu.sz];exact k2.sz,λj hj D3=>by rw[hu.obj j D3,k2.obj j hj]⟩ (t2.Ba (hB'.lt t2) hu) IG⟩
theorem AB1{W:CW}{b:Nat}{Q:FrameMode→CW→Prop}(hq:Q .returning W):Om prog Bs 109 [.pointer (some ⟨b,0,none⟩)] .returning W Q:=by
 refine dD (fn:=Tryz.f109) (c:=Hr prog 109) (by kernel_rfl) Tryz.func109 (by kernel_rfl) (by kernel_rfl) ?_;have:=yl (.pointer (some ⟨b,0,none⟩)) .returning (λx e u W=>(x=.normal∨x=.ret)∧(∃v,Da prog Tryz.f109.results.toList e W=some v)∧Q u W) W;refine this.mpr ?_;rw[AJh];refine Ap AFV ?_;simp only[AT];exact⟨by first|rfl|trivial,.inl (by first|rfl|trivial),⟨.tuple #[],by simp only[Da,Tp,Lo]⟩,hq⟩
theorem Z1{W:CW}{a:Option Addr}{n cap:Nat}{vf:Value}(ht:Ai W){Q:Ending→CW→Prop}
  (LX:100000<n→∀W',Kp W W'→Ai W'→Q (.returned (.int .i64 2)) W')
  (hdo:n≤100000→∀W0,Kp W W0→Ai W0→W0.sz=W.sz+2→A0 W0 W.sz 30 [.int .i64 0]→A0 W0 (W.sz+1) 170 [.slice a n cap,.int .i64 0]→GI prog Bs vf [.pointer (some ⟨W.sz+1,0,none⟩)] W0
   (λ_ W3=>Ai W3∧A0 W3 W.sz 30 [.int .i64 0]∧∀W',u5 W.sz W3 W'→Ai W'→Q (.returned (.int .i64 0)) W')
   (λch W4=>∃x,ch=D5 x∧Ai W4∧A0 W4 W.sz 30 [.int .i64 0]∧∀W',u5 W.sz W4 W'→Ai W'→Q (.returned (.int .i64 x)) W')) :
  Ac prog Bs 72 [.slice a n cap,vf] W Q:=by
 obtain⟨ty,MW,rfl⟩:=lU;refine yk (fn:=Tryz.f72) (c:=Hr prog 72) (by kernel_rfl) (by kernel_rfl) (by kernel_rfl) Tryz.func72 (by kernel_rfl) (by kernel_rfl) ?_;refine(AH6 (.slice a n cap) vf _ W).mpr ?_
 have ret:∀(e:Env) W' x,e 4=.pointer (some ⟨W.sz,0,none⟩)→A0 W' W.sz 30 [.int .i64 x]→Q (.returned (.int .i64 x)) W'→yj prog Bs Tryz.f72 Q e [] .returning W':=by
  intro e W' x h4 hB hq;have hv:MO prog 30 ⟨W.sz,0,none⟩ W'=some (.int .i64 x):=AH a30 (a:=⟨W.sz,0,none⟩) (hB.cell rfl);simp only[yj,Da,MW,Lo,tu,h4,hv,AA];exact hq
 refine LL z30 s30 ht λW1 k1 t1 z1 hB=>?_;have hB:A0 W1 W.sz 30 [.int .i64 0]:=hB;rw[AQ LS];simp only[Ae,AA]
 refine AF (λhb=>?_) (λhb=>?_)
 ·have hb:100000<n:=by have:=of_decide_eq_true hb;omega
  refine Ar s30 (a:=⟨W.sz,0,none⟩) (v:=.int .i64 2) rfl hB (by simp) λW2 hu HD=>?_;have hu:Ep W.sz W1 W2:=hu;exact ret _ W2 2 rfl HD (LX hb W2 (k1.Ba (aag _) hu) (t1.Ba (hB.lt t1) hu))
 ·have hb:n≤100000:=by have:=of_decide_eq_false hb;omega
  refine Ap (AFY _ a n cap rfl) ?_;refine G8 ALt t1 λW2 k2 t2 z2 sV=>?_;rw[z1]at sV z2 ⊢;have sV:A0 W2 (W.sz+1) 170 [.slice a n cap,.int .i64 0]:=sV;have HD:=hB.ext t1 k2
  have OR:∀(d:Deferred) (l:List Value) (m:FrameMode) W' Q',d=({target:=.fn (.func 109) #[.pointer (some ⟨W.sz,0,none⟩)],args:=#[]}:Deferred)→Om prog Bs 109 [.pointer (some ⟨W.sz,0,none⟩)] m W' Q'→Om prog Bs 109 (d.args.toList++[Value.pointer (some ⟨W.sz,0,none⟩)]) m W' Q':=by
   intro d l m W' Q' hd h;subst hd;exact h
  have Fo:=hdo hb W2 (k1.trans k2) t2 (by rw[z2]) HD sV;unfold GI at Fo ⊢
  have AFa:∀(v:Value) (W3:CW),(Ai W3∧A0 W3 W.sz 30 [.int .i64 0]∧∀W',u5 W.sz W3 W'→Ai W'→Q (.returned (.int .i64 0)) W')→∀(e:Env),e 4=.pointer (some ⟨W.sz,0,none⟩)→wV (M6 prog 30 (.pointer (some ⟨W.sz,0,none⟩)) (.int .i64 0) W3) λW5=>yj prog Bs Tryz.f72 Q e [({target:=.fn (.func 109) #[.pointer (some ⟨W.sz,0,none⟩)],args:=#[]}:Deferred)] .returning W5:=by
   rintro v W3 ⟨t3,IG,hq⟩ e h4;refine Ar s30 (a:=⟨W.sz,0,none⟩) (v:=.int .i64 0) rfl IG (by simp) λW5 hu VO=>?_;have hu:Ep W.sz W3 W5:=hu;show Om _ _ _ _ _ _ _;refine AB1 ?_;exact ret e W5 0 h4 VO (hq W5 ⟨by rw[hu.sz];exact aag _,λj hj D3=>hu.obj j D3⟩ (t3.Ba (IG.lt t3) hu))
  have bad:∀ch W4,(∃x,ch=D5 x∧Ai W4∧A0 W4 W.sz 30 [.int .i64 0]∧∀W',u5 W.sz W4 W'→Ai W'→Q (.returned (.int .i64 x)) W')→∀(e:Env),e 4=.pointer (some ⟨W.sz,0,none⟩)→yj prog Bs Tryz.f72 Q e [({target:=.fn (.func 109) #[.pointer (some ⟨W.sz,0,none⟩)],args:=#[]}:Deferred)] (.panicking ch) W4:=by
   rintro ch W4 ⟨x,rfl,t4,N3,hq⟩ e h4;show Om _ _ _ _ _ _ _;refine AFZ t4 N3 λW' hu t' hB'=>?_;exact ret e W' x h4 hB' (hq W' hu t')
  have AJi:∀{f:FuncId} {xs:List Value} {K K':Value→CW→Prop} {KP KP':List PanicEntry→CW→Prop},Ac prog Bs f xs W2 (Di K KP)→(∀v W,K v W→K' v W)→(∀v W,KP v W→KP' v W)→Ac prog Bs f xs W2 (Di K' KP'):=λh h1 h2=>h.mono λen W' he=>by
   cases en with
   |returned v=>exact h1 _ _ he
   |panicked ch=>exact h2 _ _ he
   |outgrown=>exact he
  have AFb:∀{f:Nat} {xs:List Value} {K K':Value→CW→Prop} {KP KP':List PanicEntry→CW→Prop},LD prog Bs f xs W2 (Di K KP)→(∀v W,K v W→K' v W)→(∀v W,KP v W→KP' v W)→LD prog Bs f xs W2 (Di K' KP'):=λh h1 h2=>h.mono λen W' he=>by
   cases en with
   |returned v=>exact h1 _ _ he
   |panicked ch=>exact h2 _ _ he
   |outgrown=>exact he
  split at Fo
  ·split at Fo
   ·exact AFa (.bool false) _ Fo _ rfl
   ·exact AJi Fo (λv W h=>AFa v W h _ rfl) (λch W h=>⟨λk n m hh=>(by cases hh),bad ch W h _ rfl⟩)
  ·exact AFb Fo (λv W h=>AFa v W h _ rfl) (λch W h=>⟨λk n m hh=>(by cases hh),bad ch W h _ rfl⟩)
  ·exact Fo.elim
end Go.Ce
