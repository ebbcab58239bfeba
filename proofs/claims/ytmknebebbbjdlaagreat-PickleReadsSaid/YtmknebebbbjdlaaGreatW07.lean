/- A part of the proof: Tk, ShV3, Ug, Uh, Vh, Xm, Tl, Xn. -/
import Derived.Test.YtmknebebbbjdlaaGreatW02
import Derived.Test.YtmknebebbbjdlaaGreatW05
import Derived.Test.YtmknebebbbjdlaaGreatW06
import Derived.Test.YtmknebebbbjdlaaGreatProg
set_option linter.unusedSectionVars false
set_option linter.unusedVariables false
set_option linter.unusedSimpArgs false
set_option linter.defProp false
set_option maxRecDepth 200000
namespace Go.Ce
open Go Go.Proofs Go.Proofs.Tryz
def G9(c:List Aq)(l:List DD)(h:List CD)(b:List UInt8):List CD×Int×Int :=
 if Bk c=false then([],0,210)else if Be c l=false then([],0,212)else if FB c h≥0 then([],0,211)else if(Br c l b).2.2≠0 then([],0,(Br c l b).2.2)else if 1000<h.length+(Br c l b).1.length then([],0,2)else(KN c h (Br c l b).1,WZ h (Br c l b).2.1,0)
def mY(r:List CD×Int×Int)(W:CW):Ending→CW→Prop:=λen W'=>Kp W W'∧Ai W'∧∃v ps,en=.returned (.tuple #[v,.int .i64 r.2.1,.int .i64 r.2.2])∧FO W.sz W' v ps∧ps.map (·.1)=r.1
theorem FO.of{B:Nat}{W W':CW}{v:Value}{ps:List (CD×Value)}(h:FO B W v ps)(ho:∀j o,W.obj j=some o→o≠.deferred→W'.obj j=some o):FO B W' v ps:=by
 have WE:∀{el n:Nat} {v:Value} {cs:List Value},Bu W el n v cs→Bu W' el n v cs:=λ{el n v cs} hO=>N6 hO λj hj=>by
  obtain⟨x,y,z,hq,_⟩:=CR hO hj;rw[ho j _ hq (by simp),hq]
 exact⟨WE h.own,h.new,λp hp=>WE (h.pv p hp)⟩
theorem ACo{W:CW}{b:Nat}{e e':TypeId}{vs ws:List Value}(h:A0 W b e vs)(h':A0 W b e' ws):vs.length=ws.length:=by
 obtain⟨c,n,z,h1,h2,_⟩:=h;obtain⟨c',n',z',h1',h2',_⟩:=h';rw[h1]at h1'
 cases h1'
 omega
theorem ak(c:List Aq)(n:Nat)(y:CD):(Io c n y).AO.length=y.AO.length:=by
 unfold Io
 split
 ·simp
 ·rfl
theorem YN{c:List Aq}{l:List DD}{b:List UInt8}(h:(Br c l b).2.2=0):(∀x,x∈(Br c l b).1→BC c x (Br c l b).1.length=true)∧(Br c l b).1.length≤1000∧0≤(Br c l b).2.1∧(Br c l b).2.1≤(Br c l b).1.length:=by
 rcases WY c l b with⟨x,hx,hr⟩|⟨ts,xs,Al,hs,hCa,hbe,hr⟩
 ·rw[hr]at h;exact(hx h).elim
 ·obtain⟨p1,_⟩:=lu Al hs hCa;obtain⟨_,_,ACp,h0,h1⟩:=di p1;obtain⟨h2,h3⟩:=Nk ACp;rw[hr];exact⟨h3,h2,h0,h1⟩
theorem wR{v0 v1 v2 vb:Value}{c:List Aq}{l:List DD}{h:List CD}{b:List UInt8}{W:CW}(ht:Ai W)(hc:Ab 5 (EI W) v0 c)(hC:QD c)(hl:Ab 3 (Hs W) v1 l)(OU:l.length<100000)(M9:∀s,s∈l→s.map.length<100000)(hh:Ab 2 (G2 W) v2 h)(hhv:∀x,x∈h→x.AO.length<100000)(hhl:h.length<1000000)(hb:Ts W vb b) :
  Ac prog Bs 30 [v0,v1,v2,vb] W (mY (G9 c l h b) W):=by
 refine AJz ?_;rw[AJy];generalize FI:AM prog Tryz.f30 (mY (G9 c l h b) W)=KK;obtain⟨a2,Wx,rfl,_⟩:=id hh
 have DU:∀(e':Env) ds W' v n m ps,Kp W W'→Ai W'→Marks W.sz W' ds→e' 8=v→e' 9=.int .i64 n→e' 10=.int .i64 m→FO W.sz W' v ps→G9 c l h b=(ps.map (·.1),n,m)→KK .ret e' ds W':=by
  intro e' ds W' v n m ps k t hm h8 h9 OI hO hn;rw[←FI];refine PA t hm λW2 g1 g2 g3 t2=>?_;rw[vW,h8,h9,OI,hn];exact⟨⟨by rw[g3];exact k.sz,λj hj=>by rw[g2 j hj];exact k.obj j hj⟩,t2,v,ps,rfl,hO.of g1,rfl⟩
 have GY:∀W',FO W.sz W' (.slice none 0 0) []:=λW'=>⟨Bu.nil,Aw.nil _ _ _,λp hp=>(by cases hp)⟩
 refine G8 s24 ht λW0 k0 t0 z0 Mu=>?_;have Mu:A0 W0 W.sz 24 [.slice a2 h.length Wx]:=Mu;refine(Zs t0 (hc.imp λ_ _ _ hr=>hr.kp ht k0) hC).mono λen W1 ⟨k1,t1,r1,r2,Hx,MU,P2,Iw⟩=>?_;subst Hx;refine AL ?_;refine Ap (CN _ _) ?_;refine Ap (CO _ _) ?_;unfold QF;refine EH (ws:=[.map (some r1),.map (some r2)]) z78 k_ rfl rfl rfl t1 λW4 k4 t4 z4 pK=>?_;have k14:=k1.trans k4;have k04:=k0.trans k14;simp only[AZ,AA]
 cases Al:Bk c with
 |false=>
  simp only[aa6,Af];exact DU _ _ W4 _ 0 210 [] k04 t4 (.nil _ _) rfl rfl rfl (GY _) (by unfold G9;rw[aae Al];rfl)
 | true=>
  simp only[aav,AT];have AA7:=(Iw Al).kp t1 k4;rw[VH pK];simp only[AA];refine(lG t4 AA7 hC (hl.imp λ_ _ _ hr=>hr.kp ht k04) OU M9).mono λen W5 ⟨k5,t5,w,r,Hx,Js⟩=>?_;subst Hx;refine AL ?_;refine Ap (CN _ _) ?_;refine Ap (CO _ _) ?_;refine EH (ws:=[.map (some w),.map (some r)]) z83 s83 rfl rfl rfl t5 λW8 k8 t8 z8 ALm=>?_;have k48:=k5.trans k8;have k08:=k04.trans k48;simp only[AZ,AA]
  cases hs:Be c l with
  |false=>
   simp only[aa6,Af];exact DU _ _ W8 _ 0 212 [] k08 t8 (.nil _ _) rfl rfl rfl (GY _) (by unfold G9;rw[aad (by rw[Al];simp),aae hs];rfl)
  | true=>
   simp only[aav,AT];have l6:∀W',Kp W0 W'→ld prog 24 (.pointer (some ⟨W.sz,0,none⟩)) W'=some (.slice a2 h.length Wx):=λW' kk=>AH a24 (a:=⟨W.sz,0,none⟩) (kk.cell t0 (Mu.cell rfl));have ACq:=k14.trans k48;rw[VH (pK.ext t4 k48),l6 W8 ACq];simp only[AA];refine(zh (r1:=r1) (r2:=r2) t8 (AA7.kp t4 k48) Al hC (hh.imp λ_ _ _ hr=>hr.kp ht k08) hhv hhl).mono λen A ⟨Hx,k9,tA⟩=>?_;subst Hx;refine AL ?_;have Z8:=k08.trans k9;simp only[Bt,AA]
   refine AF (λhi=>?_) (λhi=>?_)
   ·have hi:FB c h≥0:=by simpa using hi
    exact DU _ _ A _ 0 211 [] Z8 tA (.nil _ _) rfl rfl rfl (GY _) (by unfold G9;rw[aad (by rw[Al];simp),aad (by rw[hs];simp),aae hi];rfl)
   have hi:¬FB c h≥0:=by simpa using hi
   obtain⟨Q7,RZ⟩:=Nk hi
   have hP:G9 c l h b=if(Br c l b).2.2≠0 then([],0,(Br c l b).2.2)else if 1000<h.length+(Br c l b).1.length then([],0,2)else(KN c h (Br c l b).1,WZ h (Br c l b).2.1,0):=by
    unfold G9;rw[aad (by rw[Al];simp),aad (by rw[hs];simp),aad hi]
   refine(eO tA (hc.imp λ_ _ _ hr=>hr.kp ht Z8) hC (hl.imp λ_ _ _ hr=>hr.kp ht Z8) OU M9 (hb.kp ht Z8)).mono λen W11 ⟨k11,t11,v,qs,Hx,hH,hq,PM⟩=>?_;subst Hx;have hro:=YN (c:=c) (l:=l) (b:=b);generalize Br c l b=R at hP hq hro ⊢;obtain⟨ys,rt,er⟩:=R;simp only at hP hq hro ⊢;refine AL ?_;refine Ap (Vk _ _ _) ?_;refine Ap (Vl _ _ _) ?_;refine Ap (Vm _ _ _) ?_;simp only[BX,AA];have tD:=Z8.trans k11
   refine AF (λhe=>?_) (λhe=>?_)
   ·have he:er≠0:=by simpa using he
    exact DU _ _ W11 _ 0 er [] tD t11 (.nil _ _) rfl rfl rfl (GY _) (by rw[hP,aae he];rfl)
   have he:er=0:=by simpa using he
   subst he;obtain⟨cA,hyl,hr0,AN_⟩:=hro rfl;have hql:qs.length=ys.length:=by rw[←hq,aaq]
   have AKZ:=(ACq.trans k9).trans k11;have Hp:=DE qs;have lv:∀W',It prog 24 v W'=some (.int .i64 qs.length):=λW'=>Hu (m:=qs.length) M' hH.own (by omega) Hp;rw[l6 W11 AKZ];simp only[AA,AQ M',lv,AK,Ae];rw[wrap64 (by omega) (by omega)]
   refine AF (λhg=>?_) (λhg=>?_)
   ·have hg:(h.length:Int)+(qs.length:Int)>1000:=by simpa using hg
    exact DU _ _ W11 _ 0 2 [] tD t11 (.nil _ _) rfl rfl rfl (GY _) (by rw[hP,aad (by simp),aae (by omega)];rfl)
   have hg:¬(h.length:Int)+(qs.length:Int)>1000:=by simpa using hg
   refine vd (b6:=W.sz) (bK:=W1.sz) (v:=v) (r:=rt) t11 (hh.imp λ_ _ _ hr=>hr.kp ht tD) Q7 (λx hx=>by have:=hhv x hx;omega) ⟨rfl,rfl,rfl,rfl⟩ rfl rfl rfl rfl λe' L vo ps kL tL E h18 hO SV Zp=>?_;simp only[Er,aar,vR,Aj,E.e15,lv,AA];have Wk:ps.length=h.length:=by rw[←Zp,aaq]
   have kAL:=k11.trans kL;have zA:=k11.sz;have hHL:=hH.of (W':=L) λj o _ hj _=>by rw[kL.obj j (t11 _ _ hj)];exact hj
   have I:LIn A L W11.sz W.sz W1.sz r1 r2 0 v (.slice a2 h.length Wx) c h qs ps:=by
    refine⟨tA,kAL,tL,Mu.ext t0 (ACq.trans k9),pK.ext t4 (k48.trans k9),AA7.kp t4 (k48.trans k9),Al,hC,⟨_,_,rfl⟩,λq vi=>?_,λq vi=>?_,λj hj=>Zc t11 hH.own hj,kL.sz,zA,λi j q q' b b' m m' hi hj hqi hqj D3 MI=>?_,by omega,Wk,SV⟩
    ·rw[hql];exact cA _ (by rw[←hq];exact aaS vi)
    ·obtain⟨bv,g1,g2,g3⟩:=hH.pv q vi;exact⟨bv,g1,g3,g2.lt t11⟩
    ·subst MI;obtain⟨bv,g1,g2,_⟩:=hH.pv q (aan hi);obtain⟨bv',g1',g2',_⟩:=hH.pv q' (aan hj);rw[hqi]at g1;rw[hqj]at g1';have e1:b=bv:=by injection g1 with e1;injection e1 with e1;injection e1
     have e2:b=bv':=by injection g1' with e1;injection e1 with e1;injection e1
     have m1:m=q.1.AO.length:=by injection g1
     have m2:m'=q'.1.AO.length:=by injection g1'
     subst e1;subst e2;have hle:=ACo g2 g2';rw[Ij,Ij]at hle;have V':q.2=q'.2:=by rw[hqi,hqj,m1,m2,hle]
     have WG:=hH.nd;unfold List.Nodup at WG;rw[acA]at WG;obtain⟨La,hie⟩:=dx.1 hi;obtain⟨UL,hje⟩:=dx.1 hj
     rcases Nat.lt_or_gt_of_ne D3 with Ad|Ad
     ·refine WG i j (by rw[aaq];exact La) (by rw[aaq];exact UL) Ad ?_;rw[acU,acU,hie,hje];exact V'
     ·refine WG j i (by rw[aaq];exact UL) (by rw[aaq];exact La) Ad ?_;rw[acU,acU,hie,hje];exact V'.symm
   have S:SI A L W11.sz v vo c h.length qs ps 0:=by
    refine⟨kAL,tL,kL.sz,hHL.own,λj q bv m hj hqv=>?_,by simpa using hO.own,hO.new,hO.pv⟩;rw[aad (Nat.not_lt_zero _)];obtain⟨bv',g1,g2,_⟩:=hHL.pv q (aan hj);rw[hqv]at g1;have e1:bv=bv':=by injection g1 with e1;injection e1 with e1;injection e1
    rw[e1];exact g2
   refine wQ I (r:=rt) S ⟨by simp only[AG,AJ,Nat.reduceEqDiff,↓reduceIte,E.e6],by simp only[AG,AJ,Nat.reduceEqDiff,↓reduceIte,E.lI],by simp only[AG,AJ,Nat.reduceEqDiff,↓reduceIte,E.e15],by simp only[AG,AJ,Nat.reduceEqDiff,↓reduceIte,E.e16]⟩ (by simp only[AG,Nat.reduceEqDiff,↓reduceIte]) (by simp only[AG,Nat.reduceEqDiff,↓reduceIte]) (by simp only[AG,↓reduceIte]) (by simp only[AG,AJ,Nat.reduceEqDiff,↓reduceIte,h18]) λe5 ds5 W5 vo5 S5 hm5 E5 g18=>?_;have k05:=Z8.trans S5.k
   have hmW:Marks W.sz W5 ds5:=by
    obtain⟨rs,g1,g2,g3⟩:=hm5;exact⟨rs,g1,g2,λr hr=>⟨(g3 r hr).1,by have:=(g3 r hr).2;have:=Z8.sz;omega⟩⟩
   have hl6:ld prog 24 (.pointer (some ⟨W.sz,0,none⟩)) W5=some (.slice a2 h.length Wx):=l6 W5 ((ACq.trans k9).trans S5.k)
   have GJ:FO W.sz W5 vo5 (ps++(qs.take qs.length).map (qi c h.length)):=by
    have zz:=tD.sz;refine⟨S5.out,λb' l' c' e1=>by have:=S5.new b' l' c' e1;omega,λp hp=>?_⟩
    rcases aaB.1 hp with hp|hp
    ·exact S5.pv p hp
    ·obtain⟨q,vi,rfl⟩:=aaM.1 hp;rw[aa_]at vi;obtain⟨j,hj⟩:=abg vi;obtain⟨bv,g1,_,_⟩:=I.sl q vi;have hB:=S5.Fk j q bv _ hj g1;rw[aae (dx.1 hj).1]at hB;show Bu W5 3 1 q.2 _;rw[g1];exact Bu.some hB (by show(DA (Io c h.length q.1).AO).length=_;rw[Ij,ak,abR])
   have Ze:(ps++(qs.take qs.length).map (qi c h.length)).map (·.1)=KN c h ys:=by
    rw[aa_,aaI,Zp,ac7];unfold KN;rw[←hq,ac7];rfl
   simp only[Er,aar,vQ,Aj,E5.e16,E5.e6,Ae,AA];have hPf:G9 c l h b=(KN c h ys,WZ h rt,0):=by rw[hP,aad (by simp),aad (by omega)]
   refine AF (λhp=>?_) (λhp=>?_)
   ·have hp:rt>0:=by simpa using hp
    rw[hl6];simp only[AA,AQ M',AK];rw[wrap64 (by omega) (by omega)];simp only[X8,Aj];refine DU _ ds5 W5 vo5 (rt+(h.length:Int)) 0 _ k05 S5.t hmW (by simp only[AG,AJ,Nat.reduceEqDiff,↓reduceIte,g18]) (by simp only[AG,AJ,Nat.reduceEqDiff,↓reduceIte]) (by simp only[AG,AJ,Nat.reduceEqDiff,↓reduceIte]) GJ ?_;rw[hPf,Ze];unfold WZ;rw[aae hp]
   ·have hp:¬rt>0:=by simpa using hp
    simp only[X8,Aj];refine DU _ ds5 W5 vo5 rt 0 _ k05 S5.t hmW (by simp only[AG,AJ,Nat.reduceEqDiff,↓reduceIte,g18]) (by simp only[AG,AJ,Nat.reduceEqDiff,↓reduceIte,E5.e16]) (by simp only[AG,AJ,Nat.reduceEqDiff,↓reduceIte]) GJ ?_;rw[hPf,Ze];unfold WZ;rw[aad hp]
theorem wT{O:List Int}{n v:Nat}(h:v<n):(HF O n)[v]?=some (.int .i64 (placeOf O (v:Nat))):=by
 unfold HF;rw[aaz,ac1 h];rfl
theorem mZ{W:CW}{bp n:Nat}{O:List Int}(h:A0 W bp 3 (HF O n)){v:Nat}(hv:v<n):UK prog 40 (.slice (some ⟨bp,0,none⟩) n n) (.int .i64 v)=some (.pointer (some ⟨bp,0+v*1,none⟩))∧ld prog 3 (.pointer (some ⟨bp,0+v*1,none⟩)) W=some (.int .i64 (placeOf O (v:Nat))):=by
 refine⟨AY J9 s3 hv,AH a3 (a:=⟨bp,0+v*1,none⟩) ?_⟩;show W.cell bp (0+v*1)=_;rw[show 0+v*1=v by omega];exact h.cell (wT hv)
theorem ma:Tryz.f90.results.toList=[.cell 6 56]:=by kernel_rfl
theorem qj{W:CW}{v0 vx:Value}{c:List Aq}{O:List Int}{x:CD}{N ix bp:Nat}{s:Aq}(ht:Ai W)(hc:Ab 5 (EI W) v0 c)(hC:QD c)(Al:Bk c=true)(X:dh c x N ix s)(gp:Ab 1 (F9 W) vx x.AO)(hp:A0 W bp 3 (HF O (N+1))) :
  Ac prog Bs 90 [v0,.agg #[.string x.type,vx],.slice (some ⟨bp,0,none⟩) (N+1) (N+1)] W (λen W'=>Kp W W'∧Ai W'∧∃a n m,en=.returned (.agg #[.string x.type,.slice a n m])∧Bu W' 3 1 (.slice a n m) (DA (aE c ix O 0 x.AO))∧Aw W.sz (.slice a n m)):=by
 refine AKR ?_;rw[AKQ];generalize FI:AM prog Tryz.f90 _=KK;obtain⟨ax,cx,rfl,_⟩:=id gp;have M9:=Xw hC X.many;have uw:=hC.len;have La:=FT X.ti;refine G8 IH ht λW0 k0 t0 z0 N3=>?_;have N3:A0 W0 W.sz 56 [.string x.type,.slice ax x.AO.length cx]:=N3;refine LL m0 IH t0 λW1 k1 t1 z1 Mu=>?_;have Mu:A0 W1 W0.sz 56 [.string ⟨#[]⟩,.slice none 0 0]:=Mu;have N3:=N3.ext t0 k1;have k01:=k0.trans k1;simp only[G3,AA];rw[AH a9 (a:=⟨W.sz,0,none⟩) (N3.cell rfl)];simp only[AA];refine As (Ks (hc.imp λ_ _ _ hr=>hr.kp ht k01) (by omega)) ?_;rw[Ni X.ti,AH a9 (a:=⟨W.sz,0,none⟩) (N3.cell rfl)];simp only[AA];refine Ap (z_ _) ?_;refine EH (ws:=[.string x.type,.slice none 0 0]) m0 IH rfl rfl rfl t1 λW5 k5 t5 z5 N2=>?_;have k05:=k01.trans k5;have WK:=ly (c:=c) (ix:=ix) (O:=O) x.AO 0;refine C2 (λi e' EK W'=>EK=[]∧Kp W W'∧Ai W'∧e' 0=v0∧e' 2=.slice (some ⟨bp,0,none⟩) (N+1) (N+1)∧e' 4=.pointer (some ⟨W.sz,0,none⟩)∧e' 6=.pointer (some ⟨W0.sz,0,none⟩)∧e' 7=.int .i64 ix∧e' 8=.pointer (some ⟨W1.sz,0,none⟩)∧e' 9=.int .i64 i∧A0 W' W.sz 56 [.string x.type,.slice ax x.AO.length cx]∧A0 W' W0.sz 56 [.string ⟨#[]⟩,.slice none 0 0]∧∃v,A0 W' W1.sz 56 [.string x.type,v]∧Bu W' 3 1 v (DA ((aE c ix O 0 x.AO).take i))∧Aw W.sz v) x.AO.length ⟨rfl,k05,t5,rfl,rfl,rfl,rfl,rfl,rfl,rfl,N3.ext t1 k5,Mu.ext t1 k5,_,N2,Bu.nil,Aw.nil _ _ _⟩ ?_;rintro i e ds W' hi ⟨rfl,kW,t',e0,e2,e4,e6,e7,e8,e9,B4,B6,v,B8,hv,hn⟩;have z01:=k0.sz;have z11:=k1.sz;rw[AGn,e0,e2,e4,e7,e9];simp only[EF,AA];rw[AH Ww (a:=⟨W.sz,0+1,none⟩) (B4.cell rfl)];simp only[AA,AQ J9,AP];refine Eh (λAd=>?_) (λGZ=>?_)
 rotate_left
 ·have:i=x.AO.length:=by omega
  subst this;simp only[Er,Jp,aar,qZ,Aj];simp only[AG,AJ,Nat.reduceEqDiff,↓reduceIte,e8,e6];obtain⟨a',n',m',rfl⟩:=ACl hv;rw[DC (vs:=[.string x.type,.slice a' n' m']) (a:=⟨W1.sz,0,none⟩) bG IH rfl (by omega) B8.cells];simp only[AA];refine G0 IH (a:=⟨W0.sz,0,none⟩) (ws:=[.string x.type,.slice a' n' m']) rfl rfl B6 (by simp) λW7 hu hB7=>?_;have hu:Ep W0.sz W' W7:=hu;have hB7:A0 W7 W0.sz 56 [.string x.type,.slice a' n' m']:=hB7;rw[←FI];refine Nh ma (p:=⟨W0.sz,0,none⟩) (by simp only[AG,AJ,Nat.reduceEqDiff,↓reduceIte,e6]) (DC (vs:=[.string x.type,.slice a' n' m']) bG IH rfl (by omega) hB7.cells) ?_;rw[←WK,aa_]at hv;refine⟨kW.Ba (by omega) hu,t'.Ba (B6.lt t') hu,a',n',m',rfl,N6 hv λj hj=>hu.obj j λe=>?_,hn⟩;subst e;have:=BE (CR hv hj) B6
  cases this
 have hx:=ck Ad;generalize x.AO[i]=y at hx;have hrx:(aE c ix O 0 x.AO)[i]?=some (if BR c ix i=2 then placeOf O y else y):=by rw[aF,hx,aaL];rfl
 obtain⟨ay,y1,y2⟩:=AFx t' (gp.imp λ_ _ _ hr=>hr.kp ht kW) hx;rw[y1];simp only[y2 W' (.refl _),AA]
 have nQ:c[ix].elem=0→i<(AX c ix).length:=λhe=>by
  have h1:=X.si;rw[ck La]at h1;have h2:=TM X.si (by unfold elemAt;rw[X.si];cases h1;exact he) X.many;omega
 refine JA (gO t' (hc.imp λ_ _ _ hr=>hr.kp ht kW) hC.len hC.fields La nQ) λW2 k2 t2=>?_;simp only[BD,AA];have kW2:=kW.trans k2;have B4':=B4.ext t' k2;have B6':=B6.ext t' k2;have B8':=B8.ext t' k2;have ID:=hv.kp t' k2
 have gh:∀(e2':Env),e2' 0=v0→e2' 2=.slice (some ⟨bp,0,none⟩) (N+1) (N+1)→e2' 4=.pointer (some ⟨W.sz,0,none⟩)→e2' 6=.pointer (some ⟨W0.sz,0,none⟩)→e2' 7=.int .i64 ix→e2' 8=.pointer (some ⟨W1.sz,0,none⟩)→e2' 9=.int .i64 i→e2' 10=.int .i64 (if BR c ix i=2 then placeOf O y else y)→(UD none (G4 (λi e' EK W'=>EK=[]∧Kp W W'∧Ai W'∧e' 0=v0∧e' 2=.slice (some ⟨bp,0,none⟩) (N+1) (N+1)∧e' 4=.pointer (some ⟨W.sz,0,none⟩)∧e' 6=.pointer (some ⟨W0.sz,0,none⟩)∧e' 7=.int .i64 ix∧e' 8=.pointer (some ⟨W1.sz,0,none⟩)∧e' 9=.int .i64 i∧A0 W' W.sz 56 [.string x.type,.slice ax x.AO.length cx]∧A0 W' W0.sz 56 [.string ⟨#[]⟩,.slice none 0 0]∧∃v,A0 W' W1.sz 56 [.string x.type,v]∧Bu W' 3 1 v (DA ((aE c ix O 0 x.AO).take i))∧Aw W.sz v) i x.AO.length (CB 0 (qZ none KK)))) .normal e2' [] W2:=by
  intro e2' g0 g2 g4 g6 g7 g8 g9 bJ;simp only[wO,Aj,g8,bJ,EF,AA];rw[AH Ww (a:=⟨W1.sz,0+1,none⟩) (B8'.cell rfl)];simp only[AA];refine Ig J9 s3 z3 rfl (by omega) by3 (by omega) (r_ _) rfl rfl t2 ID (by rw[Ij,aaE];omega) λu Wa V7 W7 ka ta IF t7 o7 n7=>?_;have h8:=IF.Fk t2 B8' (Zb ID B8' (by decide));have h6:=IF.Fk t2 B6' (Zb ID B6' (by decide));have h4:=IF.Fk t2 B4' (Zb ID B4' (by decide));refine Ar s40 (a:=⟨W1.sz,0+1,none⟩) (Za o7) h8 (by simp) λW8 hu N2=>?_;have hu:Ep W1.sz W7 W8:=hu;have N2:A0 W8 W1.sz 56 [.string x.type,V7]:=by simpa[putAt]using N2
  simp only[AA4,Aj,FH];simp only[AG,AJ,Nat.reduceEqDiff,↓reduceIte,g9,AK,AA];rw[CE (by omega)];have Zp:=IF.sz;have zW2:=kW2.sz;have hk7:Kp W W7:=IF.kp kW2 hn;refine⟨Ad,trivial,hk7.Ba (by omega) hu,t7.Ba (h8.lt t7) hu,by simp only[g0],by simp only[g2],by simp only[g4],by simp only[g6],by simp only[g7],by simp only[g8],by simp only[AG],h4.congr (hu.obj _ (by omega)),h6.congr (hu.obj _ (by omega)),V7,N2,?_,n7 _ zW2⟩
  have h9:=N6 o7 λj hj=>hu.obj j λe=>by
   subst e;have:=BE (CR o7 hj) h8
   cases this
  rw[aaP,hrx,aa9,ko];exact h9
 refine AF (λhk=>?_) (λhk=>?_)
 ·have hk:BR c ix i=2:=by simpa using hk
  obtain⟨ny,hny⟩:∃ny:Nat,y=(ny:Int)∧ny<N+1:=by
   rcases O6 Al X hx with q|q
   ·exact⟨y.toNat,by omega,by omega⟩
   ·rw[q.1]at hk;cases hk
  obtain⟨hy',hny⟩:=hny;subst hy';obtain⟨p1,p2⟩:=mZ (hp.ext ht kW2) hny;rw[p1];simp only[p2,AA];exact gh _ (by simp only[AG,AJ,Nat.reduceEqDiff,↓reduceIte,e0]) (by simp only[AG,AJ,Nat.reduceEqDiff,↓reduceIte,e2]) (by simp only[AG,AJ,Nat.reduceEqDiff,↓reduceIte,e4]) (by simp only[AG,AJ,Nat.reduceEqDiff,↓reduceIte,e6]) (by simp only[AG,AJ,Nat.reduceEqDiff,↓reduceIte,e7]) (by simp only[AG,AJ,Nat.reduceEqDiff,↓reduceIte,e8]) (by simp only[AG,AJ,Nat.reduceEqDiff,↓reduceIte,e9]) (by rw[aae hk];simp only[AG,↓reduceIte])
 ·have hk:¬BR c ix i=2:=by simpa using hk
  exact gh _ (by simp only[AG,AJ,Nat.reduceEqDiff,↓reduceIte,e0]) (by simp only[AG,AJ,Nat.reduceEqDiff,↓reduceIte,e2]) (by simp only[AG,AJ,Nat.reduceEqDiff,↓reduceIte,e4]) (by simp only[AG,AJ,Nat.reduceEqDiff,↓reduceIte,e6]) (by simp only[AG,AJ,Nat.reduceEqDiff,↓reduceIte,e7]) (by simp only[AG,AJ,Nat.reduceEqDiff,↓reduceIte,e8]) (by simp only[AG,AJ,Nat.reduceEqDiff,↓reduceIte,e9]) (by rw[aad hk];simp only[AG,Nat.reduceEqDiff,↓reduceIte])
def Gv(m N:Nat):List Int:=(List.range m).map (λi:Nat=>-((i:Int)+1))++(List.range N).map λi:Nat=>(i:Int)+1
theorem aq(m N:Nat):(Gv m N).length=m+N:=by simp[Gv]
theorem Wf(m N:Nat):Gv m (N+1)=Gv m N++[((N+1:Nat):Int)]:=by
 unfold Gv;rw[List.range_succ,aaI,abb];rfl
theorem Rw{m N:Nat}{v:Int}:v∈Gv m N→(v<0∨(1≤v∧v≤N)):=by
 unfold Gv;rw[aaB,aaM,aaM]
 rintro(⟨i,hi,rfl⟩|⟨i,hi,rfl⟩)
 ·exact .inl (by omega)
 ·have:=aaT.1 hi;exact .inr (by omega)
theorem L6{m:Nat}:∀{N:Nat} {v:Nat},placeOf (Gv m N) (v:Int)=if 1≤v∧v≤N then((m+v:Nat):Int)else 0
 |0,v=>by
  rw[aad (by omega)];exact TN λh=>by have:=Rw h;omega
 | N+1,v=>by
  rw[Wf,WR (λh=>by have:=Rw h;omega),L6,aq]
  by_cases e:(v:Int)=((N+1:Nat):Int)
  ·rw[aae e,aae (by omega)];omega
  ·rw[aad e]
   by_cases h:1≤v∧v≤N
   ·rw[aae h,aae (by omega)]
   ·rw[aad h,aad (by omega)]
theorem ql(m n:Nat):HF (Gv m 0) n=List.replicate n (.int .i64 0):=by
 unfold HF;apply aaN;intro k;rw[aaz,List.getElem?_replicate]
 by_cases hk:k<n
 ·rw[ac1 hk,aae hk];simp only[aba];rw[L6,aad (by omega)]
 ·rw[aa0 (by rw[List.length_range];omega),aad hk];rfl
theorem ACr{c:List Aq}{x:CD}{N ix m:Nat}{s:Aq}(Al:Bk c=true)(X:dh c x N ix s):(⟨x.type,aE c ix (Gv m N) 0 x.AO⟩:CD)=Io c m x:=by
 unfold Io;rw[X.ti];simp only;congr 1;apply aaN;intro j;rw[aF,acw]
 cases hx:x.AO[j]? with
 |none=>rfl
 | some v=>
  simp only[aba,aaL];congr 1
  by_cases hk:BR c ix j=2
  ·rw[aae hk]
   rcases O6 Al X hx with q|q
   ·obtain⟨n,hn⟩:∃n:Nat,v=(n:Int):=⟨v.toNat,by omega⟩
    subst hn;rw[L6]
    by_cases h0:0<n
    ·rw[aae (by omega),aae ⟨hk,by omega⟩];omega
    ·rw[aad (by omega),aad (by omega)];omega
   ·rw[q.1]at hk;cases hk
  ·rw[aad hk,aad (λh=>hk h.1)]
structure AKa(A W:CW)(v:Value)(ps:List (CD×Value)):Prop where
 own:Bu W 56 2 v (ps.flatMap DV)
 new:Aw A.sz v
 pv:∀p,p∈ps→Ab 1 (F9 A) p.2 p.1.AO∨Bu W 3 1 p.2 (DA p.1.AO)
theorem AA8(p:CD×Value):(DV p).length=2:=rfl
theorem AKb{A:CW}{v2:Value}{h:List CD}(hh:Ab 2 (G2 A) v2 h):∃hs:List (CD×Value),hs.map (·.1)=h∧(∀p,p∈hs→Ab 1 (F9 A) p.2 p.1.AO)∧∃a cap,v2=.slice a h.length cap∧(0<h.length→∃p,a=some p∧Cells A p.block p.off (hs.flatMap DV)):=by
 obtain⟨a,cap,hv,hc⟩:=hh
 obtain⟨hs,hl,hq⟩:=h_ (Q:=λi (q:CD×Value)=>h[i]?=some q.1∧Ab 1 (F9 A) q.2 q.1.AO∧∃p,a=some p∧Cells A p.block (p.off+i*2) (DV q)) h.length λi hi=>by
  have hx:=ck hi;obtain⟨p,hp,hr⟩:=hc i _ hx;obtain⟨v,h1,h2⟩:=hr.AO;refine⟨(h[i],v),hx,h2,p,hp,λj w hj=>?_⟩
  match j,hj with
  |0,hj=>cases hj;exact hr.type
  |1,hj=>cases hj;exact h1
 refine⟨hs,?_,λp hp=>?_,a,cap,hv,λh0=>?_⟩
 ·apply aaN;intro i;rw[aaz]
  by_cases hi:i<hs.length
  ·have hx:=ck hi;rw[hx,(hq i _ hx).1];rfl
  ·rw[aa0 (by omega),aa0 (by omega)];rfl
 ·obtain⟨i,hi⟩:=abg hp;exact(hq i _ hi).2.1
 ·have hx:=ck (show 0<hs.length by omega);obtain⟨_,_,p,hp,_⟩:=hq 0 _ hx;refine⟨p,hp,RV (enc:=DV) AA8 hs p.off λi x hi=>?_⟩;obtain⟨_,_,p',ic,Hp⟩:=hq i x hi;rw[hp]at ic
  cases ic
  exact Hp
theorem AA9{A W:CW}{v:Value}{ps:List (CD×Value)}(h:AKa A W v ps)(tA:Ai A)(k:Kp A W)(hb:∀p,p∈ps→hM p.1):Ab 2 (G2 W) v (ps.map (·.1)):=by
 have hl:=DE ps;have hpv:=h.pv;obtain⟨hO,_,_⟩:=h;generalize UZ:ps.flatMap DV=cs at hO hl
 cases hO with
 |nil=>
  have:ps=[]:=aaG.1 (by simp at hl;omega);subst this;exact⟨none,0,rfl,λi x hx=>by cases hx⟩
 | @some b0 len _ hB MV=>
  have Wk:len=ps.length:=by omega
  refine⟨some ⟨b0,0,none⟩,len,by rw[aaq,Wk],λi x hx=>⟨_,rfl,?_⟩⟩;rw[aaz,aat]at hx;obtain⟨p,hp,rfl⟩:=hx;have pX:=aan hp
  have hg:∀j,j<2→cs[i*2+j]?=(DV p)[j]?:=λj hj=>by
   rw[←UZ,Im,show(i*2+j)/2=i by omega,show(i*2+j)%2=j by omega,hp];rfl
  refine⟨?_,p.2,?_,?_⟩
  ·show W.cell b0 (0+i*2)=_;rw[aaL];exact hB.cell (hg 0 (by omega))
  ·show W.cell b0 (0+i*2+1)=_;rw[aaL];exact hB.cell (hg 1 (by omega))
  ·rcases hpv p pX with h1|h1
   ·exact h1.imp λ_ _ _ hr=>hr.kp tA k
   ·exact X' h1 (hb p pX)
theorem AGr(W:CW):tk prog 24 0 [] W=some (.slice (some ⟨W.sz,0,none⟩) 0 0,W.new (.cells (Tr.nil.AW 0 []) 0 #[] 56)):=by kernel_rfl
def AKc(r:List CD×Int×Int)(W:CW):Ending→CW→Prop:=λen W'=>Kp W W'∧Ai W'∧∃v,en=.returned (.tuple #[v,.int .i64 r.2.1,.int .i64 r.2.2])∧Ab 2 (G2 W') v r.1
theorem AA'{c:List Aq}{x:CD}{n:Nat}(Al:Bk c=true)(h:BC c x n=true)(hn:n≤1000000):hM x:=by
 intro v hv;obtain⟨i,s,X⟩:=LP h;obtain⟨k,hk⟩:=abg hv;rcases O6 Al X hk with q|q<;>omega
theorem AA_{v0 v1 v2 vb:Value}{c:List Aq}{l:List DD}{h:List CD}{b:List UInt8}{W:CW}(ht:Ai W)(hc:Ab 5 (EI W) v0 c)(hC:QD c)(hl:Ab 3 (Hs W) v1 l)(OU:l.length<100000)(hh:Ab 2 (G2 W) v2 h)(hhv:∀x,x∈h→x.AO.length<100000)(hhl:h.length<100000)(hb:Ts W vb b)(hE:J8 W 5 vb) :
  Ac prog Bs 31 [v0,v1,v2,vb] W (AKc (G9 c l h b) W):=by
 refine AHj ?_;rw[AHi];generalize FI:AM prog Tryz.f31 (AKc (G9 c l h b) W)=KK
 have DU:∀(e':Env) W' v n m xs,Kp W W'→Ai W'→e' 8=v→e' 9=.int .i64 n→e' 10=.int .i64 m→Ab 2 (G2 W') v xs→G9 c l h b=(xs,n,m)→KK .ret e' [] W':=by
  intro e' W' v n m xs k t h8 h9 OI hv hP;rw[←FI,uC,h8,h9,OI,hP];exact⟨k,t,v,rfl,hv⟩
 have GY:∀W',Ab 2 (G2 W') (.slice none 0 0) []:=λW'=>⟨none,0,rfl,λi x hx=>by cases hx⟩
 refine JA (zG ht hc hC hl OU hh hhl (λx hx=>by have:=hhv x hx;omega)) λW1 k1 t1=>?_;simp only[BX,AA]
 refine AF (λhe=>?_) (λhe=>?_)
 ·have he:bu c l h 0≠0:=by simpa using he
  refine DU _ W1 _ 0 (bu c l h 0) [] k1 t1 (by simp only[AG,Nat.reduceEqDiff,↓reduceIte]) (by simp only[AG,Nat.reduceEqDiff,↓reduceIte]) (by simp only[AG,↓reduceIte]) (GY _) ?_;unfold bu JB at he ⊢;unfold G9
  cases Al:Bk c with
  |false=>simp
  | true=>
   cases hs:Be c l with
   |false=>simp
   |true=>
    rw[Al,hs]at he;simp only[aar,ne_eq,not_true_eq_false,abf,Bool.true_eq_false]at he ⊢
    by_cases hi:FB c h≥0
    ·rw[aae hi,aae hi]
    ·rw[aad hi]at he;rw[aad (by omega)]at he;exact(he rfl).elim
 have he:bu c l h 0=0:=by simpa using he
 obtain⟨Al,hs,ACp,_,_⟩:=di he;obtain⟨Q7,RZ⟩:=Nk ACp
 have hP0:G9 c l h b=if(Br c l b).2.2≠0 then([],0,(Br c l b).2.2)else if 1000<h.length+(Br c l b).1.length then([],0,2)else(KN c h (Br c l b).1,WZ h (Br c l b).2.1,0):=by
  unfold G9;rw[aad (by rw[Al];simp),aad (by rw[hs];simp),aad ACp]
 refine(mH t1 (hc.imp λ_ _ _ hr=>hr.kp ht k1) hC (hl.imp λ_ _ _ hr=>hr.kp ht k1) OU (hb.kp ht k1) (hE.kp ht k1)).mono λen A ⟨kA,tA,vx,ys,Hx,hO,hys,PM⟩=>?_;subst Hx;have Z8:=k1.trans kA;refine AL ?_;refine Ap (Vk _ _ _) ?_;refine Ap (Vl _ _ _) ?_;refine Ap (Vm _ _ _) ?_;simp only[BX,AA]
 refine AF (λhe=>?_) (λhe=>?_)
 ·have he:(Br c l b).2.2≠0:=by simpa using he
  exact DU _ A _ 0 (Br c l b).2.2 [] Z8 tA (by simp only[AG,Nat.reduceEqDiff,↓reduceIte]) (by simp only[AG,Nat.reduceEqDiff,↓reduceIte]) (by simp only[AG,↓reduceIte]) (GY _) (by rw[hP0,aae he])
 have he:(Br c l b).2.2=0:=by simpa using he
 obtain⟨cA,hyl,hr0,MU⟩:=YN he;rw[aad (by simpa using he)]at hP0;generalize Br c l b=R at*;obtain⟨xs,rt,ee⟩:=R;simp only at hys cA hyl hr0 MU he hP0 ⊢;subst hys;simp only[aaq]at cA hyl MU hP0;have Hp:=DE ys;have hlx:∀W',It prog 24 vx W'=some (.int .i64 ys.length):=λW'=>Hu (m:=ys.length) M' hO.own (by omega) Hp;obtain⟨hs,w6,hsv,a2,Wx,OH,hsc⟩:=AKb (hh.imp λ_ _ _ hr=>hr.kp ht Z8:Ab 2 (G2 A) v2 h);have mf:∀W',It prog 24 v2 W'=some (.int .i64 h.length):=λW'=>by rw[OH];exact AQ M' _ _ _ _
 simp only[mf,hlx,AA,AK,Ae];rw[wrap64 (by omega) (by omega)]
 refine AF (λhg=>?_) (λhg=>?_)
 ·have hg:=of_decide_eq_true hg;exact DU _ A _ 0 2 [] Z8 tA (by simp only[AG,Nat.reduceEqDiff,↓reduceIte]) (by simp only[AG,Nat.reduceEqDiff,↓reduceIte]) (by simp only[AG,↓reduceIte]) (GY _) (by rw[hP0,aae (by omega)])
 have hg:=of_decide_eq_false hg;rw[aad (by omega)]at hP0;rw[CE (by omega)];refine sD J9 s3 z3 rfl by3 (by omega) (n:=ys.length+1) (by omega) tA λW4 k4 t4 z4 hBp=>?_;rw[←ql h.length]at hBp
 refine C2 (λi e ds W'=>ds=[]∧Kp A W'∧Ai W'∧A9 [0,2,12,13,14] (Env.of (Env.args [v0,v1,v2,vb]) [(14,.slice (some ⟨A.sz,0,none⟩) (ys.length+1) (ys.length+1)),(13,.int .i64 rt),(12,vx)]) e∧e 15=.int .i64 ((i+1:Nat):Int)∧A0 W' A.sz 3 (HF (Gv h.length i) (ys.length+1))) ys.length ⟨rfl,k4,t4,λt ht=>?_,by simp only[AG,↓reduceIte];rfl,hBp⟩ ?_
 ·simp only[aaJ,ach,or_false]at ht;rcases ht with rfl|rfl|rfl|rfl|rfl<;>rfl
 rintro i e ds W5 hi ⟨rfl,k5,t5,R0,X5,hB⟩;have g0:e 0=v0:=(R0 0 (by decide)).trans rfl;have g2:e 2=v2:=(R0 2 (by decide)).trans rfl;have pY:e 12=vx:=(R0 12 (by decide)).trans rfl;have g13:e 13=.int .i64 rt:=(R0 13 (by decide)).trans rfl;have g14:e 14=.slice (some ⟨A.sz,0,none⟩) (ys.length+1) (ys.length+1):=(R0 14 (by decide)).trans rfl;rw[ADu,g2,pY,g14,X5];simp only[hlx,mf,AA,Dc]
 refine Nq (λhle=>?_) (λOa=>?_)
 ·simp only[AK,AA];rw[wrap64 (by omega) (by omega),AY J9 s3 (show i+1<ys.length+1 by omega)];simp only[AA];refine Ar s3 (a:=⟨A.sz,0+(i+1)*1,none⟩) (v:=.int .i64 (((i+1:Nat):Int)+(h.length:Int))) rfl hB (by rw[Ja];show 0+(i+1)*1<_;omega) λW6 hu Mu=>?_;have hu:Ep A.sz W5 W6:=hu;have Mu:A0 W6 A.sz 3 (putAt (HF (Gv h.length i) (ys.length+1)) (0+(i+1)*1) [.int .i64 (((i+1:Nat):Int)+(h.length:Int))]):=Mu;have AIY:=oy (o:=Gv h.length i) (n:=ys.length+1) (v:=i+1) (by omega) (λhm=>by have:=Rw hm;omega);rw[show 0+(i+1)*1=i+1 by omega,show((i+1:Nat):Int)+(h.length:Int)=((Gv h.length i).length:Int)+1 by rw[aq];omega,AIY,←Wf]at Mu;simp only[yZ,Aj];simp only[AG,AJ,Nat.reduceEqDiff,↓reduceIte,X5,AK,AA,FH];rw[CE (by omega)];exact⟨by omega,trivial,k5.Ba (aag _) hu,t5.Ba (hB.lt t5) hu,R0.trans ((A9.put rfl).trans (A9.put rfl)),(by first|rfl|simp only[AG,AJ,Lc,Nat.reduceEqDiff,↓reduceIte,Nb,bF,Kn,and_self]),Mu⟩
 have OT:i=ys.length:=by omega
 subst OT;simp only[Er,Jp,aar,yX,Aj];simp only[AG,AJ,Nat.reduceEqDiff,↓reduceIte,g2];refine F8 (AGr W5) ?_;have kn:Kp W5 (W5.new (.cells (Tr.nil.AW 0 []) 0 #[] 56)):=.new _;have tn:=t5.new (.cells (Tr.nil.AW 0 []) 0 #[] 56);have hBe:A0 (W5.new (.cells (Tr.nil.AW 0 []) 0 #[] 56)) W5.sz 56 []:=⟨Tr.nil.AW 0 [],0,#[],by rw[Bd,aae rfl],rfl,λj w hw=>by cases hw⟩
 generalize W5.new (.cells (Tr.nil.AW 0 []) 0 #[] 56)=W6 at kn tn hBe;have k6:=k5.trans kn;have z5:=k5.sz;have hsl:hs.length=h.length:=by rw[←w6,aaq]
 have Jz:(hs.flatMap DV).all BJ=true:=by
  rw[List.all_flatMap,aax];intro p hp;obtain⟨a',c',hv,_⟩:=hsv p hp;show([Value.string p.1.type,p.2].all BJ)=true;rw[hv];rfl
 rw[OH]
 refine Xt (cs:=[]) (news:=hs.flatMap DV) M' (by kernel_rfl) IH m0 rfl (by omega) pV (by omega) tn (Bu.some hBe rfl) (λh0=>by
  obtain⟨p,hp,Hp⟩:=hsc h0
  exact⟨p,hp,Hp.ext tA k6⟩) Jz (by rw[DE,hsl]) (by simp;omega) λv61 W7 hp7 t7 o7 hb7=>?_
 rw[abi]at o7;have k7:Kp A W7:=hp7.kp k6 λb' l' c' e=>by cases e;exact z5
 have zA6:=k6.sz
 have n7:Aw A.sz v61:=λb' l' c' e=>by
  rcases hb7 b'.block ⟨b',l',c',e,rfl⟩with⟨b2,l2,c2,e2,e3⟩|hq
  ·cases e2;rw[←e3];exact z5
  ·omega
 have AM_:A0 W7 A.sz 3 (HF (Gv h.length ys.length) (ys.length+1)):=hp7.Fk tn (hB.ext t5 kn) λb' l' c' e=>by
  cases e
  have:=hB.lt t5;exactλhh=>by have hh:W5.sz=A.sz:=hh;omega
 rw[←OH];refine C2 (λj e ds W'=>ds=[]∧Kp A W'∧Ai W'∧e 0=v0∧e 12=vx∧e 13=.int .i64 rt∧e 14=.slice (some ⟨A.sz,0,none⟩) (ys.length+1) (ys.length+1)∧e 17=.int .i64 j∧A0 W' A.sz 3 (HF (Gv h.length ys.length) (ys.length+1))∧∃vo ps,e 16=vo∧AKa A W' vo (hs++ps)∧ps.map (·.1)=(ys.take j).map λp=>Io c h.length p.1) ys.length ⟨rfl,k7,t7,by simp only[AG,AJ,Nat.reduceEqDiff,↓reduceIte,g0],by simp only[AG,AJ,Nat.reduceEqDiff,↓reduceIte,pY],by simp only[AG,AJ,Nat.reduceEqDiff,↓reduceIte,g13],by simp only[AG,AJ,Nat.reduceEqDiff,↓reduceIte,g14],by simp only[AG,↓reduceIte];rfl,AM_,v61,[],by simp only[AG,Nat.reduceEqDiff,↓reduceIte],⟨by rw[abl];exact o7,n7,λp hp=>.inl (hsv p (by simpa using hp))⟩,rfl⟩ ?_;clear R0 X5 g0 g2 pY g13 g14;rintro j e2 ds W8 hj ⟨rfl,k8,t8,g0,pY,g13,g14,g17,N2,vo,ps,g16,hOI,Zp⟩;rw[ADv,g0,pY,g14,g16,g17];simp only[hlx,AA,AP];have ANA:∀p,p∈hs→hM p.1:=λp hp=>AA' Al (RZ _ (by rw[←w6];exact aaS hp)) (by omega);have AKd:∀p,p∈ys→BC c p.1 ys.length=true:=λp hp=>cA _ (aaS hp);refine Eh (λAd=>?_) (λGZ=>?_)
 rotate_left
 ·have:j=ys.length:=by omega
  subst this;rw[aa_]at Zp;simp only[Er,Jp,aar,yV,Aj];obtain⟨nr,hnr⟩:∃nr:Nat,rt=(nr:Int):=⟨rt.toNat,by omega⟩
  subst hnr;simp only[AG,AJ,Nat.reduceEqDiff,↓reduceIte,g13,g14];obtain⟨p1,p2⟩:=mZ N2 (v:=nr) (by omega);rw[p1];simp only[p2,AA];refine⟨by simp only[and_self],trivial,?_⟩
  have C3:(hs++ps).map (·.1)=KN c h (ys.map (·.1)):=by
   rw[aaI,w6,Zp];unfold KN;rw[ac7];rfl
  refine DU _ W8 vo (placeOf (Gv h.length ys.length) (nr:Int)) 0 _ (Z8.trans k8) t8 (by simp only[AG,Nat.reduceEqDiff,↓reduceIte,g16]) (by simp only[AG,Nat.reduceEqDiff,↓reduceIte]) (by simp only[AG,↓reduceIte]) (AA9 hOI tA k8 λp hp=>?_) ?_
  ·rcases aaB.1 hp with hp|hp
   ·exact ANA p hp
   ·have:p.1∈ps.map (·.1):=aaS hp;rw[Zp]at this;obtain⟨q,hq,e⟩:=aaM.1 this
    have:=AA' Al (sd Al RZ (by rw[aaq];exact cA) (Io c h.length q.1) (by
     unfold KN
     exact List.mem_append_right _ (aaM.2 ⟨q.1,aaS hq,rfl⟩))) (by rw[Tt,aaq];omega)
    rw[←e];exact this
  ·rw[hP0,C3,L6];congr 2;unfold WZ
   by_cases h0:0<nr
   ·rw[aae (by omega),aae (by omega)];omega
   ·rw[aad (by omega),aad (by omega)];omega
 have hx:=ck Ad;generalize hye:ys[j]=y at hx;have hym:=aan hx;obtain⟨ix,sh,X⟩:=LP (AKd y hym);obtain⟨ad,a1,a2'⟩:=AAc hO tA hx;rw[a1];simp only[AA,a2' W8 k8];have gp:Ab 1 (F9 W8) y.2 y.1.AO:=X' ((hO.pv y hym).kp tA k8) (PM y hym);refine(qj t8 (hc.imp λ_ _ _ hr=>hr.kp ht (Z8.trans k8)) hC Al X gp N2).mono λen W9 ⟨k9,t9,a',n',m',Hx,hov,hnv⟩=>?_;subst Hx;refine AL ?_;have hcp:=DE (hs++ps)
 have Wk:ps.length=j:=by
  have:=ab3 List.length Zp;rw[aaq,aaq,aaE]at this;omega
 have hO9:=hOI.own.kp t8 k9;refine Ig M' IH m0 rfl (by omega) pV (by omega) (aN _ _ _ _) rfl rfl t9 hO9 (by rw[hcp,aas];omega) λu Wa V7 bE ka ta IF t10 o10 n10=>?_;have kA9:=k8.trans k9;have z9:=kA9.sz;simp only[uB,Aj];simp only[AG,AJ,Nat.reduceEqDiff,↓reduceIte,g17,AK,AA,FH];rw[CE (by omega)];have DZ:=ACr (m:=h.length) Al X
 refine⟨Ad,trivial,IF.kp kA9 hOI.new,t10,by simp only[g0],by simp only[pY],by simp only[g13],by simp only[g14],(by first|rfl|simp only[AG,AJ,Lc,Nat.reduceEqDiff,↓reduceIte,Nb,bF,Kn,and_self]),IF.Fk t9 (N2.ext t8 k9) (Zb hO9 (N2.ext t8 k9) (by decide)),V7,ps++[(Io c h.length y.1,.slice a' n' m')],(by first|rfl|simp only[AG,AJ,Lc,Nat.reduceEqDiff,↓reduceIte,Nb,bF,Kn,and_self]),⟨?_,n10 _ z9,λp hp=>?_⟩,?_⟩
 ·rw[←abb,abd];have:DV (Io c h.length y.1,Value.slice a' n' m')=[.string y.1.type,.slice a' n' m']:=by rw[←DZ];rfl
  simpa[this]using o10
 ·rw[←abb]at hp
  rcases aaB.1 hp with hp|hp
  ·rcases hOI.pv p hp with h5|h5
   ·exact .inl h5
   ·have h5:=h5.kp t8 k9;exact .inr (IF.Dk.own t9 h5 (Np h5 hO9 (by decide)))
  ·cases dy.1 hp
   right;rw[←DZ];exact IF.Dk.own t9 hov (Np hov hO9 (by decide))
 ·rw[aaI,Zp,aaP,hx,aa9,aaI];rfl
theorem qn(c:List Aq)(l:List DD)(h:List CD)(b:List UInt8):(∃e:Int,e≠0∧G9 c l h b=([],0,e))∨∃ys r,Bk c=true∧¬FB c h≥0∧Br c l b=(ys,r,0)∧h.length+ys.length≤1000∧G9 c l h b=(KN c h ys,WZ h r,0):=by
 unfold G9
 cases Al:Bk c with
 |false=>exact .inl ⟨210,by decide,by simp⟩
 | true=>
  cases hs:Be c l with
  |false=>exact .inl ⟨212,by decide,by simp⟩
  | true=>
   rw[aad (by simp),aad (by simp)]
   by_cases hi:FB c h≥0
   ·exact .inl ⟨211,by decide,by rw[aae hi]⟩
   ·rw[aad hi];rcases hr:Br c l b with⟨ys,r,e⟩
    by_cases he:e≠0
    ·exact .inl ⟨e,he,by rw[aae he]⟩
    ·rw[aad he];have he:e=0:=by simpa using he
     subst he
     by_cases hl:1000<h.length+ys.length
     ·exact .inl ⟨2,by decide,by rw[aae hl]⟩
     ·exact .inr ⟨ys,r,rfl,hi,rfl,by omega,by rw[aad hl]⟩
theorem ek{B:Nat}{W:CW}{v:Value}{ps:List (CD×Value)}{xs:List CD}(h:FO B W v ps)(hb:∀p,p∈ps→hM p.1)(he:ps.map (·.1)=xs):Ab 2 (G2 W) v xs:=by
 rw[←he];exact ACE h hb
theorem nC{W:CW}{v0 v1 v2 v3:Value}{c:List Aq}{l:List DD}{h:List CD}{b:List UInt8}(A:xD W v0 v1 v2 c l h)(hb:Ts W v3 b)(hE:J8 W 5 v3):Ac prog Bs 10 [v0,v1,v2,v3] W AAR:=by
 refine AKI ?_;rw[AKH];generalize FI:AM prog Tryz.f10 AAR=KK
 have Gd:∀(e:Env) W',e 8=.bool true→KK .ret e [] W':=by
  intro e W' h8;rw[←FI,wL,h8];rfl
 have skip:∀(e:Env),e 46=.bool true→(Je none KK) .normal e [] W:=by
  intro e h46;simp only[ed,Aj,h46,Af];refine WM ADI AAQ ?_;refine AL ?_;simp only[ec,GL];exact Gd _ W rfl
 refine(mB A.cat).mono λen W1 ⟨hW,b13,he,ANB⟩=>?_;subst hW;subst he;refine AL ?_;simp only[AZ,AA]
 cases b13 with
 |false=>exact skip _ rfl
 |true=>
 simp only[aav,AT];refine(b9 A.spc).mono λen W2 ⟨hW,X6,he,ANC⟩=>?_;subst hW;subst he;refine AL ?_;simp only[AZ,AA]
 cases X6 with
 |false=>exact skip _ rfl
 |true=>
 simp only[aav,AT];refine(mA A.hp A.wc).mono λen W3 ⟨hW,b15,he,AND⟩=>?_;subst hW;subst he;refine AL ?_;simp only[AZ,AA]
 cases b15 with
 |false=>exact skip _ rfl
 |true=>
 simp only[aav,AT];refine(qh hb).mono λen W4 ⟨hW,b28,he,AOA⟩=>?_;subst hW;subst he;refine AL ?_;simp only[AZ,AA]
 cases b28 with
 |false=>exact skip _ rfl
 |true=>
 obtain⟨c1,c2⟩:=ANB rfl;obtain⟨l1,l2⟩:=ANC rfl;obtain⟨t1,t2,t3⟩:=AND rfl;have hC:=AFn c1 c2;have M9:∀s,s∈l→s.map.length<100000:=λs hs=>by have:=l2 s hs;omega
 have hv:∀x,x∈h→x.AO.length<100000:=λx hx=>by have:=t3 x hx;omega
 simp only[ed,Aj];simp only[AG,↓reduceIte,aav,AT];simp only[ec,Aj];simp only[AG,AJ,Lc,Nat.reduceEqDiff,↓reduceIte,Nb,bF,Kn];generalize W4=W at*;have cat:=λ{V:CW} (kk:Kp W V)=>(A.cat.imp λ_ _ _ hr=>hr.kp A.top kk:Ab 5 (EI V) v0 c)
 have spc:=λ{V:CW} (kk:Kp W V)=>(A.spc.imp λ_ _ _ hr=>hr.kp A.top kk:Ab 3 (Hs V) v1 l)
 have hp:=λ{V:CW} (kk:Kp W V)=>(A.hp.imp λ_ _ _ hr=>hr.kp A.top kk:Ab 2 (G2 V) v2 h)
 have bs:=λ{V:CW} (kk:Kp W V)=>hb.kp A.top kk;have el:=λ{V:CW} (kk:Kp W V)=>hE.kp A.top kk;refine(eO A.top A.cat hC A.spc (by omega) M9 hb).mono λen W1 ⟨k1,s1,x1,q1,he,h1,m1,d1⟩=>?_;subst he;refine AL ?_;refine Ap (Vk _ _ _) ?_;refine Ap (Vl _ _ _) ?_;refine Ap (Vm _ _ _) ?_;refine(mH s1 (cat k1) hC (spc k1) (by omega) (bs k1) (el k1)).mono λen W2 ⟨k2,s2,x2,q2,he,h2,m2,d2⟩=>?_;subst he;refine AL ?_;refine Ap (Vk _ _ _) ?_;refine Ap (Vl _ _ _) ?_;refine Ap (Vm _ _ _) ?_;have k02:=k1.trans k2;refine(wR s2 (cat k02) hC (spc k02) (by omega) M9 (hp k02) hv (by omega) (bs k02)).mono λen W3 ⟨k3,s3',x3,q3,he,h3,m3⟩=>?_;subst he;refine AL ?_;refine Ap (Vk _ _ _) ?_;refine Ap (Vl _ _ _) ?_;refine Ap (Vm _ _ _) ?_;have im:=k02.trans k3;refine(AA_ s3' (cat im) hC (spc im) (by omega) (hp im) hv (by omega) (bs im) (el im)).mono λen W4 ⟨k4,s4',x4,he,h4⟩=>?_;subst he;refine AL ?_;refine Ap (Vk _ _ _) ?_;refine Ap (Vl _ _ _) ?_;refine Ap (Vm _ _ _) ?_;have k04:=im.trans k4;refine(ae s4' (bs k04)).mono λen W5 ⟨k5,s5',x5,he,h5,_⟩=>?_;subst he;refine AL ?_;refine Ap (CN _ _) ?_;refine Ap (CO _ _) ?_;have k05:=k04.trans k5;refine(ag s5' (bs k05) (el k05)).mono λen W6 ⟨k6,s6',x6,he,h6,_⟩=>?_;subst he;refine AL ?_;refine Ap (CN _ _) ?_;refine Ap (CO _ _) ?_;have k06:=k05.trans k6;refine(qg s6' (cat k06) hC (bs k06)).mono λen W7 ⟨k7,s7',x7,he,h7,_⟩=>?_;subst he;refine AL ?_;refine Ap (CN _ _) ?_;refine Ap (CO _ _) ?_;have k07:=k06.trans k7;refine(qe s7' (cat k07) hC (bs k07) (el k07)).mono λen W8 ⟨k8,s8',x8,he,h8,_⟩=>?_;subst he;refine AL ?_;refine Ap (CN _ _) ?_;refine Ap (CO _ _) ?_;refine WM ADI AAQ ?_;refine AL ?_;simp only[Af];have k18:Kp W1 W8:=k2.trans (k3.trans (k4.trans (k5.trans (k6.trans (k7.trans k8)))));have k28:Kp W2 W8:=k3.trans (k4.trans (k5.trans (k6.trans (k7.trans k8))));have k38:Kp W3 W8:=k4.trans (k5.trans (k6.trans (k7.trans k8)));have k48:Kp W4 W8:=k5.trans (k6.trans (k7.trans k8));have k58:Kp W5 W8:=k6.trans (k7.trans k8);have k68:Kp W6 W8:=k7.trans k8
 have hR:(Br c l b).1.length≤100000∧∀x,x∈(Br c l b).1→x.AO.length≤100000:=by
  by_cases he:(Br c l b).2.2=0
  ·obtain⟨p1,p2,_,_⟩:=YN he;refine⟨by omega,λx hx=>?_⟩;obtain⟨i,s,X⟩:=LP (p1 x hx);have:=Xw hC X.many;omega
  ·have:(Br c l b).1=[]:=by
    rcases WY c l b with⟨x,hx,hr⟩|⟨ts,xs,Al,hs,hCa,hbe,hr⟩
    ·rw[hr]
    ·rw[hr]at he;exact(he rfl).elim
   rw[this];exact⟨by simp,λx hx=>by cases hx⟩
 have g1:Ab 2 (G2 W8) x1 (Br c l b).1:=(by rw[←m1];exact AAF h1 d1:Ab 2 (G2 W1) x1 (Br c l b).1).imp λ_ _ _ hr=>hr.kp s1 k18;have g2:Ab 2 (G2 W8) x2 (Br c l b).1:=(ek h2 d2 m2).imp λ_ _ _ hr=>hr.kp s2 k28;refine(Wb g1 g2 hR.1 hR.2).mono λen W9 ⟨he,hW⟩=>?_;subst he;subst hW;refine AL ?_;simp only[Af,BD,AA,beq_self_eq_true]
 have hI:(G9 c l h b).1.length≤100000∧∀x,x∈(G9 c l h b).1→x.AO.length≤100000∧hM x:=by
  rcases qn c l h b with⟨x,hx,hr⟩|⟨ys,r,Al,hi,J5,hl,hr⟩
  ·rw[hr];exact⟨by simp,λx hx=>by cases hx⟩
  ·rw[hr];obtain⟨Q7,RZ⟩:=Nk hi;obtain⟨cA,hyl,hr0,MU⟩:=YN (c:=c) (l:=l) (b:=b) (by rw[J5]);rw[J5]at cA hyl;simp only at cA hyl;have hX:=sd Al RZ cA;refine⟨by show(KN c h ys).length≤_;rw[Tt];omega,λx hx=>?_⟩;have hxo:=hX x hx;refine⟨?_,AA' Al hxo (by rw[Tt];omega)⟩;obtain⟨i,s,X⟩:=LP hxo;have:=Xw hC X.many;omega
 have g3:Ab 2 (G2 W9) x3 (G9 c l h b).1:=(ek h3 (λp hp=>(hI.2 _ (by rw[←m3];exact aaS hp)).2) m3).imp λ_ _ _ hr=>hr.kp s3' k38;have g4:Ab 2 (G2 W9) x4 (G9 c l h b).1:=h4.imp λ_ _ _ hr=>hr.kp s4' k48;refine(Wb g3 g4 hI.1 λx hx=>(hI.2 x hx).1).mono λen bE ⟨he,hW⟩=>?_;subst he;subst hW;refine AL ?_;simp only[Af];have AKe:=(aj (b:=b)).2;refine As (PK (Jc (h5.kp s5' k58)) (Jc (h6.kp s6' k68)) (by omega)) ?_;simp only[Af]
 have ANW:(Iq c b).1.length≤100:=by
  unfold Iq
  split
  ·simp
  ·split
   ·simp
   ·show(PL c (HG b).1).length≤100;rw[(iT c (HG b).1).1.length_eq];exact aa5 (ab5 _ _) AKe
 refine As (PK (Jc (h7.kp s7' k8)) (Jc h8) (by omega)) ?_;simp only[Af,FG,Aj];exact Gd _ bE rfl
theorem nB{W:CW}{v:Value}(h:Q9 prog W 29 v):∃b,Ts W v b∧J8 W 5 v∧b.length≤maxLen:=by
 obtain⟨b,h1,h2,h3⟩:=P7 (α:=UInt8) (R:=Lx W) LS c5 h λm cs k off hc hj=>by
  cases m with
  |zero=>exact hc.elim
  |succ m=>
   simp only[CT,ut5]at hc;obtain⟨x,rfl,hw⟩:=hc;have hb:=wf_u8 hw;refine⟨UInt8.ofNat x.toNat,?_⟩;have:=hj 0 (by omega);show W.cell k off=_;rw[abc]at this;rw[this];show some (Value.int .u8 x)=some (Value.int .u8 _);congr 2;rw[UInt8.toNat_ofNat_of_lt' (by show x.toNat<256;omega)];omega
 obtain⟨a,cap,rfl,hc⟩:=id h1;exact⟨b,⟨a,cap,rfl,(h2 _ _ _ rfl).2,hc⟩,h2,h3⟩
end Go.Ce
