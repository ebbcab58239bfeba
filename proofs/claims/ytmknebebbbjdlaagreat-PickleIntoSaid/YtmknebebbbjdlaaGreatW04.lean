/- A part of the proof: Qi, ShD, Qj, Qk, Ql, Qm, Qn, Qo, Qp, Qq, Qr, Qs, Ra, Rb, Rc, Re, Rf, Rg, Rh, Ri, Rj, Rk, Rl, Rm, Rn, Ro, Rp, Sa, Sb, Sc, Sd, Sf, Sg, Si, ShL4, Ed, Qt. -/
import Derived.Test.YtmknebebbbjdlaaGreatW01
import Derived.Test.YtmknebebbbjdlaaGreatW02
import Derived.Test.YtmknebebbbjdlaaGreatW03
import Derived.Test.YtmknebebbbjdlaaGreatProg
set_option linter.unusedSectionVars false
set_option linter.unusedVariables false
set_option linter.unusedSimpArgs false
set_option maxRecDepth 200000
namespace Go.Ce
open Go Go.Proofs Go.Proofs.Tryz
theorem XO:Tryz.f119.results.toList=[.cell 6 4]:=by kernel_rfl
theorem s4:DC prog 4=some 1:=by kernel_rfl
theorem a4:agg? prog 4=some false:=by kernel_rfl
theorem KA {P:Program} {fn:Func} {Q:Ending→CW→Prop} {x:Exit} {e:Env} {ds:List Deferred} {W:CW} {r:Nat} (ho:W.obj r=some .deferred) (h:AK P fn Q x e ds (W.A4 r .dead)):AK P fn Q x e (mark r::ds) W:=⟨ho,h⟩
def gn (r1 r2:Nat) (ty:ByteArray) (vx:Value) (W:CW):Ending→CW→Prop:=fun e W'=>Kp W W'∧At W'∧∃ bk bx,e=.returned (.func (.func 108) #[] #[.pointer (some ⟨bk,0,none⟩),.pointer (some ⟨bx,0,none⟩)])∧W.sz≤bk∧W.sz≤bx∧Aw W' bk 78 [.map (some r1),.map (some r2)]∧Aw W' bx 56 [.string ty,vx]
theorem LO {r1 r2:Nat} {ty:ByteArray} {vx:Value} {W:CW} (ht:At W):AH prog AT 62 [IA r1 r2,.agg #[.string ty,vx]] W (gn r1 r2 ty vx W):=by
 refine zn ?_; rw [zm]; unfold IA; refine FM N7 ht fun W0 k0 t0 z0 eo=>?_; refine FM Io t0 fun W1 k1 t1 z1 lN=>?_; simp only [AA]; rw [gb]; exact ⟨k0.trans k1,t1,W.sz,W0.sz,rfl,Nat.le_refl _,k0.sz,eo.ext t0 k1,lN⟩
theorem cg (kind n:Int) (size:Nat):(!Ev kind n size)=((kind == 1 && !(decide (-1000000000≤n) && decide (n≤1000000000))) || (kind == 2 && !(decide ((0:Int)≤n) && decide (n≤(size:Int))))):=by
 unfold Ev; rw [Bool.not_not]
 congr 2
 ·by_cases h1:-1000000000≤n <;> by_cases h2:n≤1000000000 <;> simp [h1,h2] <;> omega
 ·by_cases h1:(0:Int)≤n <;> by_cases h2:n≤(size:Int) <;> simp [h1,h2] <;> omega
def O7 (c:List Af) (i:Nat) (vs:List Int) (size k:Nat):Bool:=match vs[k]? with
 | some n=>!Ev (A9 c i k) n size
 | none=>false
theorem TO {c:List Af} {x:BR} {size i:Nat} {s:Af} (hi:BC c x.type=some i) (hs:c[i]?=some s):Ar c x size=(Fm c i s x.AJ.length && !DT x.AJ.length (O7 c i x.AJ size)):=by
 unfold Ar; rw [hi]; simp only [hs]; rfl
theorem pg {c:List Af} {r1 r2:Nat} {x:BR} {vx:Value} {size:Nat} {W:CW} (ht:At W) (EY:DW W r1 r2 c) (Ae:BN c=true) (hC:Qz c) (eu:Ay 1 (EW W) vx x.AJ) (hv:x.AJ.length<100000) (HV:size<1000000) :
  AH prog AT 119 [IA r1 r2,.agg #[.string x.type,vx],.int .i64 size] W (qx (.bool (Ar c x size)) W):=by
 refine uf ?_; rw [ue]; unfold IA; obtain ⟨ax,cx,rfl,_⟩:=id eu; refine FM N7 ht fun W0 k0 t0 z0 Gk=>?_; have Gk:Aw W0 W.sz 78 [.map (some r1),.map (some r2)]:=Gk; refine FM Io t0 fun W1 k1 t1 z1 KY=>?_; have KY:Aw W1 W0.sz 56 [.string x.type,.slice ax x.AJ.length cx]:=KY; refine FM s3 t1 fun W2 k2 t2 z2 MI=>?_; have MI:Aw W2 W1.sz 3 [.int .i64 size]:=MI; refine Hu z4 s4 t2 fun W3 k3 t3 z3 J'=>?_; have J':Aw W3 W2.sz 4 [.bool false]:=J'; have k13:=(k1.trans k2).trans k3; have kk:Kp W W3:=k0.trans k13; have Mh:=EY.kp ht kk; have Gk:=Gk.ext t0 k13; have KY:=KY.ext t1 (k2.trans k3); have MI:=MI.ext t2 k3; have ph:W.sz≤W2.sz:=by have:=k0.sz; have:=k1.sz; have:=k2.sz; omega
 have Dp:W2.sz≠W.sz∧W2.sz≠W0.sz∧W2.sz≠W1.sz:=by have:=k1.sz; omega
 generalize hb3:W.sz=b3 at Gk ph Dp; generalize xH:W0.sz=b4 at KY Dp; generalize hb5:W1.sz=b5 at MI Dp; generalize hb6:W2.sz=b6 at J' ph Dp; have q3:∀ W7,Kp W3 W7→ld prog 75 (.pointer (some ⟨b3,0,none⟩)) W7=some (.map (some r1)):=fun W7 k7=>AD pO (a:=⟨b3,0,none⟩) (k7.cell t3 (Gk.cell rfl)); have q3':∀ W7,Kp W3 W7→ld prog 76 (.pointer (some ⟨b3,0+1,none⟩)) W7=some (.map (some r2)):=fun W7 k7=>AD rB (a:=⟨b3,1,none⟩) (k7.cell t3 (Gk.cell rfl)); have q4:∀ W7,Kp W3 W7→ld prog 9 (.pointer (some ⟨b4,0,none⟩)) W7=some (.string x.type):=fun W7 k7=>AD a9 (a:=⟨b4,0,none⟩) (k7.cell t3 (KY.cell rfl)); have q4':∀ W7,Kp W3 W7→ld prog 40 (.pointer (some ⟨b4,0+1,none⟩)) W7=some (.slice ax x.AJ.length cx):=fun W7 k7=>AD ND (a:=⟨b4,1,none⟩) (k7.cell t3 (KY.cell rfl)); obtain ⟨ws,L,bF,Mo,Mp⟩:=XM Mh.sh x.type; simp only [HS,GF,AA,q3 W3 (.refl _),q4 W3 (.refl _),L,CA,CB]; refine DG lQ eS rfl Mo bF t3 fun W5 k5 t5 z5 vK=>?_; have ew:=Mh.kp t3 k5; generalize JO:AK prog Tryz.f119 (qx (.bool (Ar c x size)) W)=K
 have EA:∀ (W7:CW) (b:Bool) (e:Env),Bl (·=b6) W3 W7→At W7→W7.cell b6 0=some (.bool b)→e 6=.pointer (some ⟨b6,0,none⟩)→b=Ar c x size→K .ret e [] W7:=by
  intro W7 b e k t hb h6 hbe; rw [←JO]; refine S7 XO h6 (AD a4 (a:=⟨b6,0,none⟩) hb) ?_; exact ⟨by rw [hbe],Bl.kp kk k fun j hj=>by rw [hj]; omega,t⟩
 have leaf:∀ (b:Bool) (e:Env),e 44=.bool b→e 3=.pointer (some ⟨b3,0,none⟩)→e 4=.pointer (some ⟨b4,0,none⟩)→e 5=.pointer (some ⟨b5,0,none⟩)→e 6=.pointer (some ⟨b6,0,none⟩) →
   (b=true→Ar c x size=false)→(b=false→∃ i s,BC c x.type=some i∧c[i]?=some s∧Fm c i s x.AJ.length=true)→(JM none K) .normal e [] W5:=by
  intro b e h44 h3 h4 h5 h6 gk jL; have cj:=J'.ext t3 k5; simp only [JM,Bs,h44]
  refine AL (fun hb=>?_) (fun hb=>?_)
  ·rw [h6]; refine Ak s4 (a:=⟨b6,0,none⟩) rfl cj (by simp) fun W6 hu hB=>?_; have hu:DM b6 W5 W6:=hu; have AAU:=cj.lt t5; simp only [LM,KR,VE,N4]; exact EA W6 false e ((Bl.FN k5).then hu.Dd fun _ _ h=>h) (t5.A4 AAU hu) (hB.cell rfl) h6 (gk hb).symm
  ·obtain ⟨i,s,hi,hs,hm⟩:=jL hb; have IB:Ar c x size=!DT x.AJ.length (O7 c i x.AJ size):=by rw [TO hi hs,hm,Bool.true_and]
   have ACW:=Gk.ext t3 k5; have ACX:=KY.ext t3 k5; simp only [LM,Bs,h3,h4]; rw [Bd (vs:=[.map (some r1),.map (some r2)]) ni N7 rfl (by omega) ACW.cells,Bd (vs:=[.string x.type,.slice ax x.AJ.length cx]) Yr Io rfl (by omega) ACX.cells]; simp only [AA]; refine (LO (r1:=r1) (r2:=r2) (ty:=x.type) t5).mono fun en W8 ⟨k8,t8,bk,bx,GI,dn,xV,cl,cn⟩=>?_; subst GI; simp only [AV]; have ZK:=ew.kp t5 k8; have vM:=k5.trans k8; have vN:=cj.ext t5 k8; have AAU:=vN.lt t8; have AD2:=cl.lt t8; have AD3:=cn.lt t8; have AD4:=J'.lt t3; have AD5:=k5.sz; have hv8:Ay 1 (EW W8) (.slice ax x.AJ.length cx) x.AJ:=eu.imp fun _ _ _ hr=>hr.kp ht (kk.trans vM); have hKd:∀ W',Kp W8 W'→gl W' bk bx r1 r2 c x.type x.AJ.length:=fun W' k=>⟨k.cell t8 (cl.cell rfl),k.cell t8 (cl.cell rfl),ZK.kp t8 k,k.cell t8 (cn.cell rfl),_,_,k.cell t8 (cn.cell rfl)⟩
   refine RZ (bk:=bk) (bx:=bx) (r1:=r1) (r2:=r2) (n:=x.AJ.length) (ix:=i) (c:=c) (ty:=x.type) (a1:=9) (a2:=10) t8 rfl hi hv (fun he=>by
     have:=JL hs he hm; omega) (fun ro e0 ds K W=>by rw [pJ]) (by decide)
    (fun j W'=>Kp W8 W'∧At W'∧W'.obj W8.sz=some .deferred∧W8.sz+1<W'.sz∧∀ m,m<j→O7 c i x.AJ size m=false)
    (fun y W'=>y=.ret∧Bl (·=b6) W8 W'∧At W'∧W'.obj W8.sz=some .deferred∧W'.cell b6 0=some (.bool false)∧W8.sz+1<W'.sz∧Ar c x size=false)
    (fun j W' h=>hKd W' h.1) (fun j W1 W2 ⟨h1,h2,h3,h4,h5⟩ hu hc=>?_) (fun y W1 W2 ⟨h1,h2,h3,h4,h5,h6,h7⟩ hu hc=>?_) (fun W2 k2 t2 z2 hd=>⟨k2,t2,hd,by omega,by omega⟩) (fun j W1 Kb E hE pj vO hj ⟨nW,ht1,rL,YT,CY⟩ hlo hn hr hx=>?_) (fun W' ⟨h1,h2,h3,h4,h5⟩=>?_) (fun y W' ⟨y1,y2,y3,y4,y5,y6,y7⟩=>?_)
   ·exact ⟨h1.A4 (by omega) hu,h2.A4 h4 hu,by rw [hu.obj _ (by omega)]; exact h3,by rw [hu.sz]; exact h4,h5⟩
   ·exact ⟨h1,h2.then hu.Dd fun i hi he=>by omega,h3.A4 h6 hu,by rw [hu.obj _ (by omega)]; exact h4,hc _ _ _ h5,by rw [hu.sz]; exact h6,h7⟩
   ·have lk:=List.getElem?_eq_getElem hj; obtain ⟨p,e2,hpc⟩:=id hv8; have U5:Ay 1 (EW W1) (.slice ax x.AJ.length cx) x.AJ:=hv8.imp fun _ _ _ hr=>hr.kp t8 nW; obtain ⟨_,_,e3,hvc⟩:=U5
    cases e3
    obtain ⟨q,rfl,hq⟩:=hvc j _ lk; have k31:=vM.trans nW; have vP:=vN.ext t8 nW; have l3:ld prog 3 (.pointer (some ⟨b5,0,none⟩)) W1=some (.int .i64 size):=AD a3 (a:=⟨b5,0,none⟩) (k31.cell t3 (MI.cell rfl)); have g4:E 4=.pointer (some ⟨b4,0,none⟩):=(hE 4 (by decide) (by decide) (by decide) (by decide)).trans h4; have g5:E 5=.pointer (some ⟨b5,0,none⟩):=(hE 5 (by decide) (by decide) (by decide) (by decide)).trans h5; have g6:E 6=.pointer (some ⟨b6,0,none⟩):=(hE 6 (by decide) (by decide) (by decide) (by decide)).trans h6; rw [pK,g4,g5,pj,vO]; simp only [Dg,AA,q4' W1 k31]; rw [BH Iw s3 hj]; simp only [AA]; rw [AD a3 (a:=⟨q.block,q.off+j*1,none⟩) hq.1]; simp only [AA,Bf]
    have aF:O7 c i x.AJ size j=((A9 c i j == 1 && !(decide (-1000000000≤x.AJ[j]) && decide (x.AJ[j]≤1000000000))) || (A9 c i j == 2 && !(decide ((0:Int)≤x.AJ[j]) && decide (x.AJ[j]≤(size:Int))))):=by
     unfold O7; rw [lk]; exact cg _ _ _
    have ey:∀ (b:Bool) (e2:Env),e2 71=.bool b→e2 6=.pointer (some ⟨b6,0,none⟩)→b=O7 c i x.AJ size j→(FO (some (W8.sz+1)) Kb) .normal e2 [] W1:=by
     intro b e2 h71 g6 hb; simp only [FO,Bs,h71]
     refine AL (fun TI=>?_) (fun TI=>?_)
     ·rw [g6]; refine Ak s4 (a:=⟨b6,0,none⟩) (v:=.bool false) rfl vP (by simp) fun W9 hu hB=>?_; have hu:DM b6 W1 W9:=hu; refine hr _ _ W9 (hu.obj _ (by omega)) ⟨rfl,(Bl.FN nW).then hu.Dd fun _ _ h=>h,ht1.A4 (by omega) hu,by rw [hu.obj _ (by omega)]; exact rL,hB.cell rfl,by rw [hu.sz]; exact YT,?_⟩; rw [IB,DZ hj (by rw [←hb,TI])]; rfl
     ·exact hn _ _ W1 rfl ⟨nW,ht1,rL,YT,JK CY (by rw [←hb,TI])⟩
    have second:∀ (e2:Env),e2 6=.pointer (some ⟨b6,0,none⟩)→True:=fun _ _=>trivial
    refine AL (fun hk=>?_) (fun hk=>?_)
    ·refine EP (Ys _ _ _ _) ?_; simp only [Al,AA]; rw [hk,Bool.true_and] at aF
     refine AL (fun QP=>?_) (fun QP=>?_)
     ·exact ey true _ rfl (by exact g6) (by rw [aF,QP]; rfl)
     ·have nW:A9 c i j=1:=by simpa using hk
      rw [QP,nW,show ((1:Int) == 2)=false from rfl,Bool.false_and,Bool.or_self] at aF; simp only [nW,Int.reduceBEq,Ao]; exact ey false _ rfl (by exact g6) aF.symm
    ·rw [hk,Bool.false_and,Bool.false_or] at aF
     refine AL (fun jA=>?_) (fun jA=>?_)
     ·simp only [l3,AA]; refine EP (Ys _ _ _ _) ?_; simp only [Al,AA]; rw [jA,Bool.true_and] at aF; exact ey _ _ rfl (by exact g6) aF.symm
     ·exact ey false _ rfl (by exact g6) (by rw [aF,jA,Bool.false_and])
   ·simp only [Bs,qu,N4]; simp only [Aa,Av,Nat.reduceEqDiff,↓reduceIte,h6]; have vP:=vN.ext t8 h1; refine Ak s4 (a:=⟨b6,0,none⟩) (v:=.bool true) rfl vP (by simp) fun W9 hu hB=>?_; have hu:DM b6 W' W9:=hu; rw [←JO]; have hd9:W9.obj W8.sz=some .deferred:=by rw [hu.obj _ (by omega)]; exact h3
    refine KA hd9 ?_; have Ni:DM W8.sz W9 (W9.A4 W8.sz .dead):=DM.of _ _ _; have t9:At W9:=h2.A4 (by omega) hu; rw [JO]; refine EA _ true _ ((((Bl.FN (vM.trans h1)).then hu.Dd fun _ _ h=>h)).then Ni.Dd fun j hj he=>by omega) (t9.A4 (by rw [hu.sz]; omega) Ni) (by rw [Ni.cell (by omega)]; exact hB.cell rfl) h6 ?_; rw [IB,Em fun m hm=>h5 m hm]; rfl
   ·subst y1; simp only [KR,RR,N4]; rw [←JO]; refine KA y4 ?_; have Ni:DM W8.sz W' (W'.A4 W8.sz .dead):=DM.of _ _ _; rw [JO]; exact EA _ false _ (((Bl.FN vM).then y2 fun _ _ h=>h).then Ni.Dd fun j hj he=>by omega) (y3.A4 (by omega) Ni) (by rw [Ni.cell (by omega)]; exact y5) h6 y7.symm
 simp only [Al,AA]
 cases hi:BC c x.type with
 | none =>
  simp only [Option.isSome_none,Bool.not_false,Bm]; exact leaf true _ rfl rfl rfl rfl rfl (fun _=>by unfold Ar; rw [hi]) (fun h=>by cases h)
 | some i =>
  have K5:=GG hi; have hs:=List.getElem?_eq_getElem K5; simp only [Option.isSome_some,Bool.not_true,Ao]; have e7:ld prog 5 (.pointer (some ⟨W3.sz,0+3,none⟩)) W5=some (.int .u8 (elemAt c i)):=AD a5 (a:=⟨W3.sz,0+3,none⟩) (vK.cell (Mp i hi)); obtain ⟨ar,cr,lr,nj⟩:=ew.rw.some hi; have AAV:elemAt c i=c[i].elem:=by unfold elemAt; rw [hs]
  have h60:=(ec Ae K5).1; simp only [Wz,Dg,IW,AA,e7,q4 W5 k5,q4' W5 k5,q3' W5 k5,lr,Ac Iw,Ac PR,Bf,B_,Bg]
  refine AL (fun he=>?_) (fun he=>?_)
  ·have he:elemAt c i=0:=by simpa using he
   have hm:Fm c i c[i] x.AJ.length=decide (x.AJ.length=(Ai c i).length):=by unfold Fm; rw [if_neg (by rw [←AAV]; simpa using he)]
   refine AL (fun hn=>?_) (fun hn=>?_)
   ·have hn:¬(x.AJ.length:Int)=(Ai c i).length:=by simpa using hn
    exact leaf true _ rfl rfl rfl rfl rfl (fun _=>by rw [TO hi hs,hm,decide_eq_false (by omega)]; rfl) (fun h=>by cases h)
   ·have hn:(x.AJ.length:Int)=(Ai c i).length:=by simpa using hn
    refine leaf (decide ((x.AJ.length:Int)>200)) _ rfl rfl rfl rfl rfl (fun h=>by have:=of_decide_eq_true h; omega) (fun _=>⟨i,c[i],hi,hs,by rw [hm]; exact decide_eq_true (by omega)⟩)
  ·have he:elemAt c i≠0:=by simpa using he
   have hm:Fm c i c[i] x.AJ.length=decide (x.AJ.length≤200):=by unfold Fm; rw [if_pos (by rw [←AAV]; exact he)]
   refine leaf (decide ((x.AJ.length:Int)>200)) _ rfl rfl rfl rfl rfl (fun h=>?_) (fun h=>⟨i,c[i],hi,hs,?_⟩)
   ·have:=of_decide_eq_true h; rw [TO hi hs,hm,decide_eq_false (by omega)]; rfl
   ·have:=of_decide_eq_false h; rw [hm]; exact decide_eq_true (by omega)
theorem s24:DC prog 24=some 1:=by kernel_rfl
theorem pk:agg? prog 24=some false:=by kernel_rfl
structure AAW (W:CW) (b2 b3 r1 r2:Nat) (c:List Af) (h:List BR):Prop where
 k:Cells W b2 0 [.map (some r1),.map (some r2)]
 cat:DW W r1 r2 c
 h:∃ a cap,W.cell b3 0=some (.slice a h.length cap)
theorem gp {c:List Af} {r1 r2 b2 b3:Nat} {x:BR} {h:List BR} {vx:Value} {W:CW} (ht:At W) (A:AAW W b2 b3 r1 r2 c h) (Ae:BN c=true) (hC:Qz c) (eu:Ay 1 (EW W) vx x.AJ) (hv:x.AJ.length<100000) (HV:h.length<1000000) :
  AH prog AT 118 [.agg #[.string x.type,vx],.pointer (some ⟨b2,0,none⟩),.pointer (some ⟨b3,0,none⟩)] W (qx (.bool (!Ar c x h.length)) W):=by
 refine uc ?_; rw [ub]; refine FM Io ht fun W0 k0 t0 z0 hB=>?_; have hB:Aw W0 W.sz 56 [.string x.type,vx]:=hB; obtain ⟨a,cap,h3⟩:=A.h; have fu:Cells W0 b2 0 [.map (some r1),.map (some r2)]:=A.k.ext ht k0; rw [Bd (vs:=[.map (some r1),.map (some r2)]) (a:=⟨b2,0,none⟩) ni N7 rfl (by omega) fu,Bd (vs:=[.string x.type,vx]) (a:=⟨W.sz,0,none⟩) Yr Io rfl (by omega) hB.cells,AD pk (a:=⟨b3,0,none⟩) (k0.cell ht h3)]; simp only [AA,Ac L4]; refine VK (pg t0 (A.cat.kp ht k0) Ae hC (eu.imp fun _ _ _ hr=>hr.kp ht k0) hv HV) fun W1 k1 t1=>?_; simp only [Al,AA,cQ]; exact ⟨rfl,k0.trans k1,t1⟩
theorem gq {c:List Af} {r1 r2 b2 b3:Nat} {v0:Value} {h:List BR} {W:CW} (ht:At W) (A:AAW W b2 b3 r1 r2 c h) (Ae:BN c=true) (hC:Qz c) (hh:Ay 2 (Fk W) v0 h) (hv:∀ x,x ∈ h→x.AJ.length<100000) (HV:h.length<1000000) :
  AH prog AT 117 [v0,.func (.func 118) #[] #[.pointer (some ⟨b2,0,none⟩),.pointer (some ⟨b3,0,none⟩)]] W (qx (.int .i64 (Ip h fun x=>!Ar c x h.length)) W):=by
 refine ua ?_; rw [uZ]; obtain ⟨a,cap,rfl,BA⟩:=hh; simp only [Ac L4,AA]; refine Du (fun i e ds W'=>Kp W W'∧At W'∧ds=[]∧e 0=.slice a h.length cap∧e 1=.func (.func 118) #[] #[.pointer (some ⟨b2,0,none⟩),.pointer (some ⟨b3,0,none⟩)]∧e 7=.int .i64 h.length∧e 8=.int .i64 i∧∀ j x,j<i→h[j]?=some x→(!Ar c x h.length)=false) h.length ⟨.refl _,ht,rfl,rfl,rfl,rfl,rfl,by omega⟩ ?_; rintro i e ds W' hi ⟨k',t',rfl,h0,h1,h7,h8,CY⟩; rw [pI,h0,h1,h7,h8]; simp only [A6,AA]
 refine Gx (fun Ax=>?_) (fun NW=>?_)
 ·have hx:=List.getElem?_eq_getElem Ax; obtain ⟨p,rfl,hr⟩:=BA i _ hx; obtain ⟨u,hu,vx,rfl,eu⟩:=(hr.kp ht k').ld; rw [BH L4 Io Ax]; simp only [AA,hu]; obtain ⟨ah,ch,h3⟩:=A.h; refine Ll Tryz.func118 (by kernel_rfl) (VK (gp t' ⟨A.k.ext ht k',A.cat.kp ht k',ah,ch,k'.cell ht h3⟩ Ae hC eu (hv _ (List.getElem_mem Ax)) HV) fun W1 k1 t1=>?_)
  refine AL (fun hq=>?_) (fun hq=>?_)
  ·simp only [N3,KR,RR,HC,Ud,XH,TD]; refine ⟨?_,k'.trans k1,t1⟩; simp only [Aa,↓reduceIte]; rw [JG Ax hq CY]
  ·simp only [N3,Bs,HC]; simp only [Aa,Av,Nat.reduceEqDiff,↓reduceIte,h0,h1,h7,h8,Ap,AA]; refine ⟨Ax,k'.trans k1,t1,trivial,trivial,trivial,trivial,by rw [Dv (by omega)],fun j x hj JI=>?_⟩
   rcases Nat.lt_succ_iff_lt_or_eq.1 hj with h2 | rfl
   ·exact CY j x h2 JI
   ·rw [hx] at JI; cases JI; exact hq
 ·simp only [Bs,VD,Md,ON,if_true,XH,TD]; refine ⟨?_,k',t'⟩; simp only [Aa,↓reduceIte]; rw [JH fun j x hj hx=>CY j x (by omega) hx]
theorem TQ {c:List Af} {r1 r2:Nat} {v1:Value} {h:List BR} {W:CW} (ht:At W) (EY:DW W r1 r2 c) (Ae:BN c=true) (hC:Qz c) (hh:Ay 2 (Fk W) v1 h) (hv:∀ x,x ∈ h→x.AJ.length<100000) (HV:h.length<1000000) :
  AH prog AT 84 [IA r1 r2,v1] W (qx (.int .i64 (CG c h)) W):=by
 refine zp ?_; rw [zo]; unfold IA; obtain ⟨a,cap,rfl,_⟩:=id hh; refine FM N7 ht fun W0 k0 t0 z0 eo=>?_; refine FM s24 t0 fun W1 k1 t1 z1 lN=>?_; have kk:=k0.trans k1; rw [AD pk (a:=⟨W0.sz,0,none⟩) (lN.cell rfl)]; simp only [AA,Ac L4,Bg]; unfold CG
 refine AL (fun hg=>?_) (fun hg=>?_)
 ·rw [VN,if_pos (by have:=of_decide_eq_true hg; omega)]; exact ⟨rfl,kk,t1⟩
 ·rw [if_neg (by have:=of_decide_eq_false hg; omega)]; refine VK (gq t1 ⟨(eo.ext t0 k1).cells,EY.kp ht kk,_,_,lN.cell rfl⟩ Ae hC (hh.imp fun _ _ _ hr=>hr.kp ht kk) hv HV) fun W2 k2 t2=>?_; rw [VN]; exact ⟨rfl,kk.trans k2,t2⟩
theorem ZL:Tryz.f49.results.toList=[.cell 6 78,.tmp 7]:=by kernel_rfl
def C9 (c:List Af) (h:List BR) (root:Int):Int:=if BN c then (if CG c h≥0 then 211 else if root<0∨root>h.length then 1 else 0) else 210
def TR (c:List Af) (h:List BR) (root:Int) (W:CW):Ending→CW→Prop:=fun e W'=>Kp W W'∧At W'∧∃ r1 r2,e=.returned (.tuple #[IA r1 r2,.int .i64 (C9 c h root)])∧(BN c=true→DW W' r1 r2 c)
theorem DW.AAX {W W':CW} {r1 r2 b:Nat} {c:List Af} {u v:Value} (h:DW W r1 r2 c) (hu:DM b W W') (hB:Aw W b 78 [u,v]) (h1:∀ k n,u≠.int k n∧v≠.int k n) (h2:∀ s,u≠.string s∧v≠.string s):DW W' r1 r2 c:=by
 have ji:∀ b' k k2 n,W.cell b' k=some (.int k2 n)→W'.cell b' k=some (.int k2 n):=fun b' k k2 n hc=>by
  rw [hu.cell]
  ·exact hc
  ·rintro rfl; have:=hB.N8 hc
   match k,this with
   | 0,this=>exact ((h1 k2 n).1 (Option.some.inj this)).elim
   | 1,this=>exact ((h1 k2 n).2 (Option.some.inj this)).elim
 have fj:∀ b' k s,W.cell b' k=some (.string s)→W'.cell b' k=some (.string s):=fun b' k s hc=>by
  rw [hu.cell]
  ·exact hc
  ·rintro rfl; have:=hB.N8 hc
   match k,this with
   | 0,this=>exact ((h2 s).1 (Option.some.inj this)).elim
   | 1,this=>exact ((h2 s).2 (Option.some.inj this)).elim
 constructor
 ·obtain ⟨m,m1,m2⟩:=h.sh; refine ⟨m,m1.congr (hu.obj _ (Ne.symm (Ba hB m1))),fun s=>?_⟩; have:=m2 s
  cases hi:BC c s with
  | none=>rw [hi] at this; exact this
  | some i =>
   rw [hi] at this; obtain ⟨w,x,h5,h6,vf,ab,lb,cb,h7,h8⟩:=this; exact ⟨w,x,h5,h6,vf,ab,lb,cb,h7,h8.imp fun _ _ _ hr=>⟨fj _ _ _ hr.name,ji _ _ _ _ hr.kind,hr.lo,hr.hi⟩⟩
 ·obtain ⟨m,m1,m2⟩:=h.rw; refine ⟨m,m1.congr (hu.obj _ (Ne.symm (Ba hB m1))),fun s=>?_⟩; have:=m2 s
  cases hi:BC (c.take c.length) s with
  | none=>rw [hi] at this; exact this
  | some i =>
   rw [hi] at this; obtain ⟨v,h5,h6⟩:=this; exact ⟨v,h5,h6.imp fun _ _ _ hr=>ji _ _ _ _ hr⟩
theorem VX {v0 v1:Value} {c:List Af} {h:List BR} {root:Int} {W:CW} (ht:At W) (hc:Ay 5 (MF W) v0 c) (hC:Qz c) (hh:Ay 2 (Fk W) v1 h) (hv:∀ x,x ∈ h→x.AJ.length<100000) (HV:h.length<1000000) :
  AH prog AT 49 [v0,v1,.int .i64 root] W (TR c h root W):=by
 refine zh ?_; rw [zg]; obtain ⟨a,cap,rfl,_⟩:=id hh; refine Hu pR N7 ht fun W0 k0 t0 z0 J'=>?_; have J':Aw W0 W.sz 78 [.map none,.map none]:=J'; refine (N9 t0 (hc.imp fun _ _ _ hr=>hr.kp ht k0) hC).mono fun en W1 ⟨k1,t1,r1,r2,GI,H6,OP,EY⟩=>?_; subst GI; simp only [AV,CA,CB,AA]; unfold IA; refine DG (ws:=[.map (some r1),.map (some r2)]) pR N7 rfl rfl rfl t1 fun W4 k4 t4 z4 OO=>?_; have ACY:=J'.ext t0 (k1.trans k4); have gu:=(k0.trans k1).trans k4; generalize JO:AK prog Tryz.f49 (TR c h root W)=K
 have F1:∀ W5,Kp W4 W5→At W5→(BN c=true→DW W5 r1 r2 c)→∀ {K':Value→CW→Prop},(∀ v W6,(∀ e,e 6=.pointer (some ⟨W.sz,0,none⟩)→e 7=.int .i64 (C9 c h root)→K .ret e [] W6)→K' v W6) →
   wV (ld prog 78 (.pointer (some ⟨W1.sz,0,none⟩)) W5) fun v=>wV (CP prog 78 (.pointer (some ⟨W.sz,0,none⟩)) v W5) (K' v):=by
  intro W5 k5 t5 ew K' uv; rw [MH (OO.ext t4 k5)]; simp only [AA]; have cj:=ACY.ext t4 k5; refine Dk N7 (a:=⟨W.sz,0,none⟩) rfl rfl cj (by simp) fun W6 hu hB=>uv _ W6 fun e h6 h7=>?_; have hu:DM W.sz W5 W6:=hu; have hB:Aw W6 W.sz 78 [.map (some r1),.map (some r2)]:=hB; rw [←JO]; refine H2 ZL h6 (MH hB) ?_; have hl:=cj.lt t5; refine ⟨(gu.trans k5).A4 (Nat.le_refl _) hu,t5.A4 hl hu,r1,r2,by rw [h7]; rfl,fun hc=>?_⟩; exact (ew hc).AAX hu cj (fun k n=>⟨nofun,nofun⟩) (fun s=>⟨nofun,nofun⟩)
 simp only [Al,AA]
 cases Ae:BN c with
 | false =>
  simp only [Bool.not_false,Bm]; refine F1 W4 (.refl _) t4 (fun h=>by rw [Ae] at h; cases h) fun v W6 hr=>?_; simp only [Iq,KR]; exact hr _ rfl (by unfold C9; rw [Ae]; rfl)
 | true =>
  simp only [Bool.not_true,Ao]; have TS:=(EY Ae).kp t1 k4; rw [MH OO]; simp only [AA]; refine VK (TQ (v1:=.slice a h.length cap) t4 TS Ae hC (hh.imp fun _ _ _ hr=>hr.kp ht gu) hv HV) fun W8 k8 t8=>?_; have ZK:=TS.kp t4 k8; simp only [Gv,AA]
  refine AL (fun hw=>?_) (fun hw=>?_)
  ·have hw:=of_decide_eq_true hw; refine F1 W8 k8 t8 (fun _=>ZK) fun v W6 hr=>?_; simp only [Iq,KR]; exact hr _ rfl (by unfold C9; rw [Ae,if_pos rfl,if_pos hw]; rfl)
  ·have hw:=of_decide_eq_false hw; simp only [Ac L4,AA]; refine EP (Ys _ _ _ _) ?_; simp only [Al,AA]
   refine AL (fun hb=>?_) (fun hb=>?_)
   ·refine F1 W8 k8 t8 (fun _=>ZK) fun v W6 hr=>?_; simp only [Iq,KR]; refine hr _ rfl ?_
    have:root<0∨root>h.length:=by
     by_cases h1:(0:Int)≤root
     ·right
      by_cases h2:root≤(h.length:Int)
      ·rw [decide_eq_true h1,decide_eq_true h2] at hb; cases hb
      ·omega
     ·left; omega
    unfold C9; rw [Ae,if_pos rfl,if_neg hw,if_pos this]; rfl
   ·have:¬(root<0∨root>h.length):=by
     rw [Bool.not_eq_false',Bool.and_eq_true,decide_eq_true_eq,decide_eq_true_eq] at hb; omega
    simp only [Iq,Bs]; simp only [Aa,Nat.reduceEqDiff,↓reduceIte]; refine F1 W8 k8 t8 (fun _=>ZK) fun v W6 hr=>?_; exact hr _ rfl (by unfold C9; rw [Ae,if_pos rfl,if_neg hw,if_neg this]; rfl)
end Go.Ce
namespace Go.Ce
open Go Go.Proofs Go.Proofs.Tryz
theorem AAY (v0 v1:Value) (K:AG) (W:CW):AP prog AT none 54 9 (AS prog 54) (Env.args [v0,v1]) [] W K=(AH prog AT 61 [v0,v1] W (AV (fun v7 W0=>wV (AQ prog .geq 3 true v7 (.int .i64 0)) fun v8=>K .ret (Env.of (Env.args [v0,v1]) [(4,v8),(8,v8),(7,v7),(6,v1),(5,v0),(4,(.bool false))]) [] W0) (fun SE W1=>K (.panic SE) (Env.of (Env.args [v0,v1]) [(6,v1),(5,v0),(4,(.bool false))]) [] W1))):=by kernel_rfl
theorem gv (Q:Ending→CW→Prop) (e:Env) (W:CW):AK prog Tryz.f54 Q .ret e [] W=Q (.returned (e 4)) W:=by kernel_rfl
theorem AAZ {Q:Ending→CW→Prop} {v0 v1:Value} {W:CW} (h:AP prog AT none 54 9 (AS prog 54) (Env.args [v0,v1]) [] W (AK prog Tryz.f54 Q)):AH prog AT 54 [v0,v1] W Q:=Ab Tryz.func54 (by kernel_rfl) (by kernel_rfl) (by kernel_rfl) (by kernel_rfl) (by kernel_rfl) h
def cq (ro:Option Nat) (K:AG):AG:=Aq (fun e ds W=>K .ret (Env.of e [(4,(.int .i64 (-1)))]) ds W) K
theorem AAa (v0 v1:Value) (K:AG) (W:CW):AP prog AT none 61 19 (AS prog 61) (Env.args [v0,v1]) [] W K=(wV (AY prog 51 v0 W) fun v7=>C1 prog AT none 61 19 (.loop (Ag prog 61 0)) (Env.of (Env.args [v0,v1]) [(8,(.int .i64 0)),(7,v7),(6,v0),(4,(.int .i64 0))]) [] W (BU 0 (cq none K))):=by kernel_rfl
def XP (ro:Option Nat) (K:AG):AG:=Aq (fun e ds W=>wV (AQ prog .add 3 true (e 8) (.int .i64 1)) fun C3=>K .normal (Env.of e [(8,C3),(18,C3)]) ds W) K
theorem vQ (ro:Option Nat) (e:Env) (ds:List Deferred) (K:AG) (W:CW):AP prog AT ro 61 19 (Ag prog 61 0) e ds W K=(wV (AQ prog .lss 3 false (e 8) (e 7)) fun v9=>wI v9 (wV (Dz prog 51 (e 0) (e 8)) fun B9=>wV (ld prog 9 B9 W) fun EC=>wV (AQ prog .eql 9 false (e 1) EC) fun FL=>wI FL ((XP ro K) .ret (Env.of e [(4,(e 8)),(17,(e 8)),(16,FL),(15,EC),(14,B9),(13,(e 8)),(12,(e 0)),(11,(e 1)),(5,(e 8)),(10,(e 8)),(9,v9)]) ds W) ((XP ro K) .normal (Env.of e [(16,FL),(15,EC),(14,B9),(13,(e 8)),(12,(e 0)),(11,(e 1)),(5,(e 8)),(10,(e 8)),(9,v9)]) ds W)) (K (.exit 0) (Env.of e [(9,v9)]) ds W)):=by kernel_rfl
theorem VY (Q:Ending→CW→Prop) (e:Env) (W:CW):AK prog Tryz.f61 Q .ret e [] W=Q (.returned (e 4)) W:=by kernel_rfl
theorem AAb {Q:Ending→CW→Prop} {v0 v1:Value} {W:CW} (h:AP prog AT none 61 19 (AS prog 61) (Env.args [v0,v1]) [] W (AK prog Tryz.f61 Q)):AH prog AT 61 [v0,v1] W Q:=Ab Tryz.func61 (by kernel_rfl) (by kernel_rfl) (by kernel_rfl) (by kernel_rfl) (by kernel_rfl) h
end Go.Ce
namespace Go.Ce
open Go Go.Proofs Go.Proofs.Tryz
def mI (n:Int):Value:=.int .i64 n
theorem ez (a b:Int):MK (.int .i64) (mI a) (mI b)=some (decide (a=b)):=by
 show (if IntKind.i64=IntKind.i64 then some (a == b) else none)=_; rw [if_pos rfl]; rfl
theorem u98:prog.underlying 98=some (.map 3 3):=by kernel_rfl
theorem u3:prog.underlying 3=some (.int .i64):=by kernel_rfl
theorem a98:agg? prog 98=some false:=by kernel_rfl
theorem OB (a:Addr):A_ prog 100 (.pointer (some a)) 0=some (.pointer (some ⟨a.block,a.off,none⟩)):=by kernel_rfl
theorem TU (a:Addr):A_ prog 100 (.pointer (some a)) 1=some (.pointer (some ⟨a.block,a.off+1,none⟩)):=by kernel_rfl
theorem IX (a:Addr):QV (.pointer (some a))=some (.pointer (some a)):=rfl
def ct (W:CW) (r:Nat) (o:List Int):Prop:=∃ m:List (Int × Value),E6 mI W r m∧∀ n,Jx m n=if n ∈ o then some (.int .i64 (placeOf o n)) else none
theorem ct.lt {W:CW} (ht:At W) {r:Nat} {o:List Int} (h:ct W r o):r<W.sz:=by
 obtain ⟨m,h1,_⟩:=h; exact h1.lt ht
theorem ct.congr {W W':CW} {r:Nat} {o:List Int} (h:ct W r o) (ho:W'.obj r=W.obj r):ct W' r o:=by
 obtain ⟨m,h1,h2⟩:=h; exact ⟨m,h1.congr ho,h2⟩
theorem ct.look {W:CW} {r:Nat} {o:List Int} (h:ct W r o) (n:Int):HB prog 98 (.map (some r)) (.int .i64 n) false W=some (.int .i64 (placeOf o n)):=by
 obtain ⟨m,h1,h2⟩:=h; have:=Jy u98 u3 rfl z3 ez h1 n false; rw [h2] at this
 by_cases hm:n ∈ o
 ·rw [if_pos hm] at this; exact this
 ·rw [if_neg hm] at this; rw [J8 hm]; exact this
theorem ct.put {W:CW} {r:Nat} {o:List Int} {n:Int} (h:ct W r o) (hn:n ∉ o) {K:CW→Prop} (hK:∀ W1,DM r W W1→ct W1 r (o++[n])→K W1):wV (aC prog 98 (.map (some r)) (.int .i64 n) (.int .i64 ((o.length+1:Nat):Int)) W) K:=by
 obtain ⟨m,h1,h2⟩:=h; refine Yy (enc:=mI) (s:=n) u98 u3 rfl ez h1 fun W1 hu hm=>hK W1 hu ⟨_,hm,fun u=>?_⟩; rw [HX,h2,Y5 hn]
 by_cases e:u=n
 ·rw [if_pos e,if_pos e,if_pos (by rw [e]; simp)]; rfl
 ·rw [if_neg e,if_neg e]
  by_cases hu:u ∈ o
  ·rw [if_pos hu,if_pos (List.mem_append_left _ hu)]
  ·rw [if_neg hu,if_neg (by simp [hu,e])]
theorem ct.ne {W:CW} {r b:Nat} {el:TypeId} {vs:List Value} {o:List Int} (h:ct W r o) (hB:Aw W b el vs):b≠r:=by
 rintro rfl; obtain ⟨m,⟨es,Dq,h1,_⟩,_⟩:=h; obtain ⟨c,n,z,h2,_⟩:=hB; rw [h1] at h2; cases h2
structure M4 (W:CW) (bw rp:Nat) (vo:Value) (o:List Int):Prop where
 w:Aw W bw 100 [vo,.map (some rp)]
 own:DN W 3 1 vo (Bz o)
 p:ct W rp o
def WkS (bw rp:Nat) (vo:Value) (j:Nat):Prop:=j=bw∨j=rp∨C2 vo j
def ZM (bw rp:Nat) (vo:Value) (o:List Int) (W:CW):Ending→CW→Prop:=fun e W'=>(∃ v,e=.returned v)∧Bl (WkS bw rp vo) W W'∧At W'∧∃ cu,M4 W' bw rp cu o∧∀ j,C2 cu j→C2 vo j∨W.sz≤j
theorem ZN {bw rp:Nat} {vo:Value} {o:List Int} {n:Int} {W:CW} (ht:At W) (hw:M4 W bw rp vo o) (hn:0≤n) (yB:o.length<100000) :
  AH prog AT 105 [.pointer (some ⟨bw,0,none⟩),.int .i64 n] W (ZM bw rp vo (visit o n) W):=by
 refine uY ?_; rw [uX]; have q0:ld prog 40 (.pointer (some ⟨bw,0,none⟩)) W=some vo:=AD ND (a:=⟨bw,0,none⟩) (hw.w.cell rfl); have q1:ld prog 98 (.pointer (some ⟨bw,0+1,none⟩)) W=some (.map (some rp)):=AD a98 (a:=⟨bw,0+1,none⟩) (hw.w.cell rfl)
 have leaf:∀ (b:Bool) (e:Env),e 14=.bool b→e 0=.pointer (some ⟨bw,0,none⟩)→e 1=.int .i64 n→(b=true→visit o n=o)→(b=false→0<n∧n ∉ o)→(RV none (AK prog Tryz.f105 (ZM bw rp vo (visit o n) W))) .normal e [] W:=by
  intro b e nm h0 h1 gk jL; simp only [RV,Bs,nm]
  refine AL (fun hb=>?_) (fun hb=>?_)
  ·simp only [N2,KR]; rw [gk hb,cP]; exact ⟨⟨_,rfl⟩,.refl _ _,ht,vo,hw,fun j hj=>.inl hj⟩
  ·obtain ⟨Mq,pW⟩:=jL hb; have hv:visit o n=o++[n]:=by unfold visit; rw [if_pos ⟨Mq,pW⟩]
   rw [hv]; simp only [N2,Bs,h0,h1,IX,OB,TU,AA,q0]; refine lM Iw s3 z3 rfl (by omega) zO (by omega) (qy _) rfl rfl ht hw.own (by rw [D7]; omega) fun u v1 W1 KG t1 o1 n1=>?_; rw [←Y7] at o1; have Dp:=qz hw.own hw.w (by decide); have Df:=KG.G1 ht hw.w Dp; refine Ak (vs:=[vo,.map (some rp)]) s40 (a:=⟨bw,0,none⟩) (b_ o1) Df (by simp) fun W2 hu Er=>?_; have hu:DM bw W1 W2:=hu; have Er:Aw W2 bw 100 [v1,.map (some rp)]:=Er; have AAc:=Df.lt t1; have t2:At W2:=t1.A4 AAc hu; have R3:Bw W.sz v1:=n1 _ (Nat.le_refl _); have hbw:=hw.w.lt ht; have o2:DN W2 3 1 v1 (Bz (o++[n])):=Ow o1 hu fun b l c e=>by have:=R3 b l c e; omega
   have u6:=hw.p.lt ht; have ACZ:rp≠bw:=fun e=>hw.p.ne hw.w e.symm
   have ACa:∀ b l c,vo=.slice (some b) l c→rp≠b.block:=fun b l c e hb=>by
    have ho:=hw.own; rw [e] at ho
    cases ho with
    | some hB hl=>exact hw.p.ne hB hb.symm
   have hp1:ct W1 rp o:=hw.p.congr (KG.obj rp u6 ACa); have sX:ct W2 rp o:=hp1.congr (hu.obj rp ACZ); have L8:(Bz (o++[n])).length=(o.length+1)*1:=by rw [D7]; simp
   have c1:ld prog 98 (.pointer (some ⟨bw,0+1,none⟩)) W2=some (.map (some rp)):=AD a98 (a:=⟨bw,0+1,none⟩) (Er.cell rfl); have c2:ld prog 40 (.pointer (some ⟨bw,0,none⟩)) W2=some v1:=AD ND (a:=⟨bw,0,none⟩) (Er.cell rfl); have c3:AY prog 40 v1 W2=some (.int .i64 ((o.length+1:Nat):Int)):=LI Iw o2 (by omega) L8; simp only [c1,c2,c3,AA]; refine sX.put pW fun W3 M5 hp3=>?_; have ACb:=sX.lt t2; have t3:=t2.A4 ACb M5; refine ⟨by simp only [and_self],trivial,?_⟩
   have hlv:∀ (e:Env) (W:CW) (Q:Ending→CW→Prop),Q (.returned (.tuple #[])) W→AK prog Tryz.f105 Q .normal e [] W:=fun e W Q h=>by
    have hr:Tryz.f105.results.toList=[]:=by kernel_rfl
    simp only [AK,Bu,hr,Hp]; exact h
   refine hlv _ _ _ ⟨⟨_,rfl⟩,?_,t3,v1,⟨Er.congr (M5.obj _ (sX.ne Er)),Ow o2 M5 fun b l c e hb=>?_,hp3⟩,fun j hj=>.inr (R3.in hj)⟩
   ·exact ⟨by rw [M5.sz,hu.sz]; exact KG.sz,fun j hj hS=>by
     rw [M5.obj j fun e=>hS (.inr (.inl e)),hu.obj j fun e=>hS (.inl e)]
     exact KG.Dd.obj j hj fun h=>hS (.inr (.inr h))⟩
   ·have:=R3 b l c e; omega
 simp only [Bf,AA]
 refine AL (fun h0=>?_) (fun h0=>?_)
 ·have h0:n=0:=by simpa using h0
  exact leaf true _ rfl rfl rfl (fun _=>by unfold visit; rw [if_neg (by omega)]) (fun h=>by cases h)
 ·have h0:n≠0:=by simpa using h0
  simp only [IX,TU,AA,q1,hw.p.look,Bg]
  refine leaf _ _ rfl rfl rfl (fun h=>?_) (fun h=>?_)
  ·have h:=of_decide_eq_true h; unfold visit; rw [if_neg (fun hh=>by rw [J8 hh.2] at h; omega)]
  ·have h:=of_decide_eq_false h; exact ⟨by omega,fun hm=>h (Y4 hm)⟩
end Go.Ce
namespace Go.Ce
open Go Go.Proofs Go.Proofs.Tryz
theorem z40:GP prog 40=some (.slice none 0 0):=by kernel_rfl
def ZO (l:List Int) (W:CW):Ending→CW→Prop:=fun e W'=>Kp W W'∧At W'∧∃ vr,e=.returned vr∧DN W' 3 1 vr (Bz l)∧Bw W.sz vr
theorem M6 (c:List Af) (i:Nat) (vs:List Int):∀ k,(En c i vs k).length≤k
 | 0=>by simp [En]
 | k+1=>by
  have h:=M6 c i vs k
  have h2:(if A9 c i k=2 then (vs[k]?).toList else []).length≤1:=by
   split
   ·cases vs[k]? <;> simp
   ·simp
  rw [En,List.length_append]; omega
theorem pq {c:List Af} {r1 r2 i:Nat} {y:BR} {vx:Value} {W:CW} (ht:At W) (EY:DW W r1 r2 c) (hi:BC c y.type=some i) (JP:elemAt c i=0→y.AJ.length≤(Ai c i).length) (eu:Ay 1 (EW W) vx y.AJ) (hv:y.AJ.length<100000) :
  AH prog AT 52 [IA r1 r2,.agg #[.string y.type,vx]] W (ZO (refsOf c y) W):=by
 refine zl ?_; rw [zk]; unfold IA; obtain ⟨ax,cx,rfl,_⟩:=id eu; refine FM N7 ht fun W0 k0 t0 z0 HD=>?_; have HD:Aw W0 W.sz 78 [.map (some r1),.map (some r2)]:=HD; refine FM Io t0 fun W1 k1 t1 z1 Gk=>?_; have Gk:Aw W1 W0.sz 56 [.string y.type,.slice ax y.AJ.length cx]:=Gk; refine Hu z40 s40 t1 fun W2 k2 t2 z2 MI=>?_; have MI:Aw W2 W1.sz 40 [.slice none 0 0]:=MI; have mJ:=HD.ext t0 (k1.trans k2); have px:=Gk.ext t1 k2; have k02:=(k0.trans k1).trans k2; have ACc:W.sz≤W1.sz:=(k0.trans k1).sz; have vR:W0.sz≠W1.sz:=by omega
 rw [Bd (vs:=[.map (some r1),.map (some r2)]) ni N7 rfl (by omega) mJ.cells,Bd (vs:=[.string y.type,.slice ax y.AJ.length cx]) Yr Io rfl (by omega) px.cells]; simp only [AA]; generalize hb3:W0.sz=b3 at px Gk vR; generalize hb5:W1.sz=b5 at MI ACc vR; refine (LO (r1:=r1) (r2:=r2) (ty:=y.type) t2).mono fun en W4 ⟨k4,t4,bk,bx,GI,dn,xV,cl,cn⟩=>?_; subst GI; simp only [AV]; have gu:=k02.trans k4; have TS:=EY.kp ht gu; have hv4:Ay 1 (EW W4) (.slice ax y.AJ.length cx) y.AJ:=eu.imp fun _ _ _ hr=>hr.kp ht gu; have ACd:=MI.ext t2 k4; have mK:=px.ext t2 k4; have AD6:=MI.lt t2; have AD7:=px.lt t2; have AD8:=k4.sz; have hKs:∀ W',Bl (·=b5) W4 W'→∀ b k v,b≠b5→W4.cell b k=some v→W'.cell b k=some v:=fun W' h b k v hb hc=>h.cell t4 hb hc
 have hKd:∀ W',Bl (·=b5) W4 W'→gl W' bk bx r1 r2 c y.type y.AJ.length:=fun W' h=>by
  have vS:bk≠b5:=by omega
  have h56:bx≠b5:=by omega
  refine ⟨hKs W' h _ _ _ vS (cl.cell rfl),hKs W' h _ _ _ vS (cl.cell rfl),?_,hKs W' h _ _ _ h56 (cn.cell rfl),_,_,hKs W' h _ _ _ h56 (cn.cell rfl)⟩; have aH:=EY; exact EY.kp ht (Bl.kp gu h fun j hj=>by omega)
 have SR:∀ (W':CW) (vo:Value) (e:Env),Bl (·=b5) W4 W'→At W'→W'.obj W4.sz=some .deferred→W4.sz<W'.sz→Aw W' b5 40 [vo]→DN W' 3 1 vo (Bz (refsOf c y))→(∀ j,C2 vo j→W4.sz+2≤j)→e 4=vo →
   AK prog Tryz.f52 (ZO (refsOf c y) W) .ret e [mark W4.sz] W':=by
  intro W' vo e Gp t' hd hl hB ho hn h4; refine KA hd ?_; have hu:DM W4.sz W' (W'.A4 W4.sz .dead):=DM.of _ _ _; rw [ga,h4]; have hW4:=gu.sz; exact ⟨(Bl.kp gu Gp fun j hj=>by omega).A4 hW4 hu,t'.A4 hl hu,vo,rfl,Ow ho hu fun b l c e he=>by have:=hn b.block ⟨b,l,c,e,rfl⟩; omega,fun b l c e=>by have:=hn b.block ⟨b,l,c,e,rfl⟩; omega⟩
 refine RZ (bk:=bk) (bx:=bx) (r1:=r1) (r2:=r2) (n:=y.AJ.length) (ix:=i) (c:=c) (ty:=y.type) (a1:=6) (a2:=7) t4 rfl hi hv JP (fun ro e0 ds K W=>by rw [uV]) (by decide)
  (fun j W'=>Bl (·=b5) W4 W'∧At W'∧W'.obj W4.sz=some .deferred∧W4.sz+1<W'.sz∧∃ vo,Aw W' b5 40 [vo]∧DN W' 3 1 vo (Bz (En c i y.AJ j))∧∀ m,C2 vo m→W4.sz+2≤m)
  (fun _ _=>False) (fun j W' h=>hKd W' h.1) (fun j W1 W2 ⟨h1,h2,h3,h4,vo,h5,h6,h7⟩ hu hc=>?_) (fun _ _ _ h _ _=>h.elim) (fun W3 k3 t3 z3 hd=>⟨Bl.FN k3,t3,hd,by omega,_,ACd.ext t4 k3,DN.nil,fun m hm=>by obtain ⟨b,l,c,e,_⟩:=hm; cases e⟩)
  (fun j W1 Kb E hE pj vO hj ⟨Gp,oU,hd,hl,vo,mL,xW,jD⟩ hlo hn _ _=>?_) (fun W' ⟨h1,h2,h3,h4,vo,h5,h6,h7⟩=>?_) (fun _ _ h=>h.elim)
 ·exact ⟨h1.then hu.Dd fun i hi he=>by omega,h2.A4 h4 hu,by rw [hu.obj _ (by omega)]; exact h3,by rw [hu.sz]; exact h4,vo,h5.congr (hu.obj _ (by omega)),Ow h6 hu fun b l c e he=>by have:=h7 b.block ⟨b,l,c,e,rfl⟩; omega,h7⟩
 ·have lk:=List.getElem?_eq_getElem hj; have g3:E 3=.pointer (some ⟨b3,0,none⟩):=(hE 3 (by decide) (by decide) (by decide) (by decide)).trans rfl; have g5:E 5=.pointer (some ⟨b5,0,none⟩):=(hE 5 (by decide) (by decide) (by decide) (by decide)).trans rfl; have T':En c i y.AJ (j+1)=En c i y.AJ j++(if A9 c i j=2 then [y.AJ[j]] else []):=Y8 lk; rw [uW,g3,g5,pj,vO]; simp only [Bf,AA]
  refine AL (fun hk=>?_) (fun hk=>?_)
  ·have hk:A9 c i j=2:=by simpa using hk
   have U5:Ay 1 (EW W1) (.slice ax y.AJ.length cx) y.AJ:=by
    have:=eu.imp (S:=fun b o x=>EW W1 b o x) fun _ _ _ hr=>hr.kp ht (Bl.kp gu Gp fun j hj=>by omega); exact this
   obtain ⟨_,_,e3,hvc⟩:=U5
   cases e3
   obtain ⟨q,rfl,hq⟩:=hvc j _ lk; have l5:∀ W7,Kp W1 W7→ld prog 40 (.pointer (some ⟨b5,0,none⟩)) W7=some vo:=fun W7 k7=>AD ND (a:=⟨b5,0,none⟩) (k7.cell oU (mL.cell rfl)); have l3:ld prog 40 (.pointer (some ⟨b3,0+1,none⟩)) W1=some (.slice (some q) y.AJ.length cx):=AD ND (a:=⟨b3,0+1,none⟩) (hKs W1 Gp _ _ _ vR (mK.cell rfl)); simp only [l5 W1 (.refl _),Dg,AA,l3]; rw [BH Iw s3 hj]; simp only [AA]; rw [AD a3 (a:=⟨q.block,q.off+j*1,none⟩) hq.1]; simp only [AA]; have Xi:=M6 c i y.AJ j; refine Nv Iw s3 z3 rfl (by omega) zO (by omega) (qy _) rfl rfl oU xW (by rw [D7]; omega) fun u Wa v1 W7 ka ta KG t7 o7 n7=>?_; rw [←Y7] at o7; have Dp:=qz xW mL (by decide); have vK:=KG.G1 oU mL Dp; refine Ak (vs:=[vo]) s40 (a:=⟨b5,0,none⟩) (b_ o7) vK (by simp) fun W8 hu OO=>?_; have hu:DM b5 W7 W8:=hu; have O2:=KG.sz; have hn7:Bw W1.sz v1:=n7 _ (Nat.le_refl _); refine ⟨by simp only [l5 Wa ka,and_self],trivial,?_⟩
   refine hn _ _ W8 ?_ ⟨(Gp.then KG.Dd fun m hm hi=>by have:=jD m hi; omega).then hu.Dd fun m hm hi=>hi,t7.A4 (by omega) hu,?_,by rw [hu.sz]; omega,v1,OO,?_,fun m hm=>by have:=hn7.in hm; omega⟩
   ·rw [hu.obj _ (by omega)]; exact KG.obj _ (by omega) fun b l c e hb=>by have:=jD b.block ⟨b,l,c,e,rfl⟩; omega
   ·rw [hu.obj _ (by omega)]; rw [KG.obj _ (by omega) fun b l c e hb=>by have:=jD b.block ⟨b,l,c,e,rfl⟩; omega]; exact hd
   ·rw [T',if_pos hk]; exact Ow o7 hu fun b l c e=>by have:=hn7 b l c e; omega
  ·have hk:¬A9 c i j=2:=by simpa using hk
   refine hn _ _ W1 rfl ⟨Gp,oU,hd,hl,vo,mL,?_,jD⟩; rw [T',if_neg hk,List.append_nil]; exact xW
 ·simp only [Bs,qu,cO]; simp only [Aa,Nat.reduceEqDiff,↓reduceIte]; rw [AD ND (a:=⟨b5,0,none⟩) (h5.cell rfl)]; simp only [AA]; have j0:refsOf c y=En c i y.AJ y.AJ.length:=by unfold refsOf; rw [hi]
  exact SR W' vo _ h1 h2 h3 (by omega) h5 (by rw [j0]; exact h6) h7 rfl
end Go.Ce
namespace Go.Ce
open Go Go.Proofs Go.Proofs.Tryz
theorem vT (r:Nat):RE prog 100 [(1,.map (some r))]=some (.agg #[.slice none 0 0,.map (some r)]):=by kernel_rfl
theorem ACe:DC prog 100=some 2:=by kernel_rfl
theorem ZQ (root:Int):visit [] root=start root:=by
 unfold visit start
 by_cases h:root>0
 ·rw [if_pos h,if_pos ⟨h,by simp⟩]; rfl
 ·rw [if_neg h,if_neg (fun hh=>h hh.1)]
theorem M4.lt {W:CW} {bw rp:Nat} {vo:Value} {o:List Int} (h:M4 W bw rp vo o) (ht:At W):bw<W.sz∧rp<W.sz∧∀ j,C2 vo j→j<W.sz:=⟨h.w.lt ht,h.p.lt ht,fun j hj=>VL ht h.own hj⟩
theorem M4.kp {W W':CW} {bw rp:Nat} {vo:Value} {o:List Int} (h:M4 W bw rp vo o) (ht:At W) (k:Kp W W'):M4 W' bw rp vo o:=⟨h.w.ext ht k,h.own.kp ht k,h.p.congr (k.obj _ (h.p.lt ht))⟩
def ZR (o:List Int) (N:Nat) (W:CW):Ending→CW→Prop:=fun e W'=>Kp W W'∧At W'∧∃ bw rp vo,e=.returned (.pointer (some ⟨bw,0,none⟩))∧M4 W' bw rp vo o∧W.sz≤bw∧W.sz≤rp∧Bw W.sz vo∧Found o N
theorem gx {v1:Value} {root:Int} {N:Nat} {refs:Int→List Int} {W:CW} (ht:At W) (e_:0≤root) (H6:root≤N) (hN:N<100000) (QP:∀ n:Int,0<n→n≤N→∀ r,r ∈ refs n→0≤r∧r≤N) (Xi:∀ n:Int,(refs n).length<100000)
  (hrefs:∀ (n:Int) (W':CW),Kp W W'→At W'→0<n→n≤N→∀ (K:Value→CW→Prop) KP,(∀ vr ep,Kp W' ep→At ep→DN ep 3 1 vr (Bz (refs n))→Bw W'.sz vr→K vr ep)→Dj prog AT v1 [.int .i64 n] W' K KP) :
  AH prog AT 50 [.int .i64 root,v1] W (ZR (BG refs N (start root) 0) N W):=by
 refine zj ?_; rw [zi]; refine Sz (enc:=mI) ht fun W0 k0 t0 z0 hm=>?_; rw [vT]; simp only [AA]; refine FM ACe t0 fun W1 k1 t1 z1 hB=>?_; have hB:Aw W1 W0.sz 100 [.slice none 0 0,.map (some W.sz)]:=hB; have qX:M4 W1 W0.sz W.sz (.slice none 0 0) []:=⟨hB,DN.nil,⟨[],hm.kp t0 k1,fun n=>by simp [Jx]⟩⟩
 have mM:=k0.trans k1; have mN:W.sz≤W0.sz:=k0.sz; have ACf:W0.sz≠W.sz:=by omega
 generalize hbw:W0.sz=bw at qX mN ACf; refine (ZN t1 qX e_ (by simp)).mono fun en W2 ⟨⟨v,he⟩,c2,t2,vo,Er,QS⟩=>?_; subst he; simp only [AV]; rw [ZQ] at Er; have Gq:∀ j,¬C2 (.slice none 0 0) j:=fun j ⟨b,l,c,e,_⟩=>by cases e
 have kS:∀ {A:CW} {vo:Value},(∀ j,C2 vo j→W.sz≤j)→∀ j,WkS bw W.sz vo j→W.sz≤j:=fun hv j hj=>by
  rcases hj with rfl | rfl | hj
  ·exact mN
  ·exact Nat.le_refl _
  ·exact hv j hj
 have k2:Kp W W2:=Bl.kp mM c2 fun j hj=>by
  rcases hj with rfl | rfl | hj
  ·exact mN
  ·exact Nat.le_refl _
  ·exact (Gq j hj).elim
 have P0:Bw W.sz vo:=fun b l c e=>by
  rcases QS _ ⟨b,l,c,e,rfl⟩ with h | h
  ·exact (Gq _ h).elim
  ·have:=mM.sz; omega
 refine Du (fun i e ds W'=>ds=[]∧∃ o vo,Kp W W'∧At W'∧e 1=v1∧e 5=.pointer (some ⟨bw,0,none⟩)∧e 6=.int .i64 i∧M4 W' bw W.sz vo o∧Bw W.sz vo∧Found o N∧BG refs (N-i) o i=BG refs N (start root) 0) N
  ⟨rfl,_,vo,k2,t2,rfl,rfl,rfl,Er,P0,.start H6,rfl⟩ ?_
 rintro i e ds W' hi ⟨rfl,o,vo,k',t',h1,h5,h6,hw,jD,hF,hR⟩; have yB:=hF.len; obtain ⟨AAc,AD9,ACg⟩:=hw.lt t'; have q0:ld prog 40 (.pointer (some ⟨bw,0,none⟩)) W'=some vo:=AD ND (a:=⟨bw,0,none⟩) (hw.w.cell rfl); have ACh:(Bz o).length=o.length*1:=by rw [D7]; omega
 rw [uT,h1,h5,h6]; simp only [IX,OB,AA,q0,LI Iw hw.own (by omega) ACh,A6]
 refine Gx (fun Ax=>?_) (fun NW=>?_)
 ·have hx:=List.getElem?_eq_getElem Ax; obtain ⟨ao,co,rfl,rM⟩:=M3 (f:=fun k=>Value.int .i64 k) hw.own; obtain ⟨po,rfl,hpo⟩:=rM i _ hx; have AAd:=hF.low _ (List.getElem_mem Ax); have rN:=hF.high _ (List.getElem_mem Ax); rw [BH Iw s3 Ax]; simp only [AA]; rw [AD a3 (a:=⟨po.block,po.off+i*1,none⟩) hpo]; simp only [AA]; refine hrefs o[i] W' k' t' AAd rN _ _ fun vr W6 k6 t6 kJ hnr=>?_; have T':=QP o[i] AAd rN; have Xi:=Xi o[i]
  have KF:BG refs (N-(i+1)) ((refs o[i]).foldl visit o) (i+1)=BG refs N (start root) 0:=by
   rw [←hR,show N-i=(N-(i+1))+1 by omega,Y6 hx]
  generalize refs o[i]=rs at kJ T' Xi KF; have ACi:(Bz rs).length=rs.length*1:=by rw [D7]; omega
  rw [LI Iw kJ (by omega) ACi]; simp only [AA]; have hw6:=hw.kp t' k6; have AD':=k6.sz
  have ACj:∀ j,C2 vr j→¬WkS bw W.sz (.slice (some po) o.length co) j:=fun j hj hS=>by
   have:=hnr.in hj
   rcases hS with rfl | rfl | hS
   ·omega
   ·omega
   ·have:=ACg j hS; omega
  refine Du (fun k e' C_ W7=>C_=[]∧∃ o' cu,Bl (WkS bw W.sz (.slice (some po) o.length co)) W6 W7∧At W7∧e' 1=v1∧e' 5=.pointer (some ⟨bw,0,none⟩)∧e' 6=.int .i64 i∧e' 32=vr∧e' 33=.int .i64 rs.length∧e' 34=.int .i64 k∧M4 W7 bw W.sz cu o'∧(∀ j,C2 cu j→C2 (.slice (some po) o.length co) j∨W6.sz≤j)∧Found o' N∧o'=(rs.take k).foldl visit o) rs.length
   ⟨rfl,o,_,.refl _ _,t6,h1,h5,h6,rfl,rfl,rfl,hw6,fun j hj=>.inl hj,hF,rfl⟩ ?_
  rintro k e' C_ W7 hk ⟨rfl,o',cu,c7,t7,g1,g5,g6,g32,g33,g34,hw7,hv7,hF7,ho7⟩; rw [uU,g5,g32,g33,g34]; simp only [A6,AA]
  refine Gx (fun Od=>?_) (fun vA=>?_)
  ·have hxr:=List.getElem?_eq_getElem Od; have ACk:=c7.own t6 kJ ACj; obtain ⟨ar,cr,rfl,hrc⟩:=M3 (f:=fun k=>Value.int .i64 k) ACk; obtain ⟨pr,rfl,OM⟩:=hrc k _ hxr; rw [BH Iw s3 Od]; simp only [AA]; rw [AD a3 (a:=⟨pr.block,pr.off+k*1,none⟩) OM]; simp only [AA]; obtain ⟨jZ,nU⟩:=T' _ (List.getElem_mem Od); have:=hF7.len; refine (ZN t7 hw7 jZ (by omega)).mono fun en W9 ⟨⟨v,he⟩,c9,t9,vo9,hw9,hv9⟩=>?_; subst he; simp only [AV,cN,Bs,HC]; simp only [Aa,Av,Nat.reduceEqDiff,↓reduceIte,g34,Ap,AA]; have AD_:=c7.sz
   refine ⟨Od,trivial,_,vo9,c7.then c9 fun j hj hS=>?_,t9,g1,g5,g6,g32,g33,by rw [Dv (by omega)],hw9,fun j hj=>?_,hF7.visit nU,?_⟩
   ·rcases hS with h | h | h
    ·exact .inl h
    ·exact .inr (.inl h)
    ·rcases hv7 j h with h | h
     ·exact .inr (.inr h)
     ·omega
   ·rcases hv9 j hj with h | h
    ·exact hv7 j h
    ·exact .inr (by omega)
   ·rw [List.take_add_one,hxr,List.foldl_append,←ho7]; rfl
  ·have hkr:rs.take k=rs:=List.take_of_length_le (by omega); rw [hkr] at ho7; simp only [Bs,VD,qu,Md,HC,ON,if_true,cM]; simp only [Aa,Av,Nat.reduceEqDiff,↓reduceIte,g6,Ap,AA]
   refine ⟨by omega,trivial,o',cu,Bl.kp (k'.trans k6) c7 fun j hj=>?_,t7,g1,g5,by rw [Dv (by omega)],hw7,fun b l c e=>?_,hF7,by rw [ho7]; exact KF⟩
   ·rcases hj with rfl | rfl | hj
    ·exact mN
    ·exact Nat.le_refl _
    ·exact jD.in hj
   ·rcases hv7 _ ⟨b,l,c,e,rfl⟩ with h | h
    ·exact jD.in h
    ·have:=(k'.trans k6).sz; omega
 ·have hfo:o=BG refs N (start root) 0:=by rw [←hR,cC NW]
  simp only [Bs,VD,Md,ON,if_true,lW,gZ]; refine ⟨k',t',bw,W.sz,vo,?_,hfo ▸ hw,mN,Nat.le_refl _,jD,hfo ▸ hF⟩; simp only [Aa,Av,Nat.reduceEqDiff,↓reduceIte,h5]
theorem XQ {c:List Af} {l:List CE} {h:List BR} (Ae:BN c=true) (hs:BZ c l=true) (IB:∀ x,x ∈ h→Ar c x h.length=true) {n:Int}:∀ r,r ∈ E7 c l h n→0≤r∧r≤h.length:=by
 intro r hr; unfold E7 at hr
 cases hx:h[(n-1).toNat]? with
 | none=>rw [hx] at hr; cases hr
 | some x =>
  rw [hx] at hr; simp only at hr; obtain ⟨i,s,Y⟩:=Dl (Mg hs (IB x (List.mem_of_getElem? hx))); generalize DU l x=y at hr Y; unfold refsOf at hr; rw [Y.ti] at hr; simp only at hr
  have:∀ k,r ∈ En c i y.AJ k→0≤r∧r≤h.length:=by
   intro k
   induction k with
   | zero=>intro h; cases h
   | succ k ih =>
    intro h; rw [En] at h
    rcases List.mem_append.1 h with h | h
    ·exact ih h
    ·split at h
     ·rename_i hk
      cases hv:y.AJ[k]? with
      | none=>rw [hv] at h; cases h
      | some v =>
       rw [hv] at h; have sF:=List.mem_singleton.1 h; subst sF
       rcases LL Ae Y hv with h | h
       ·exact ⟨h.2.1,h.2.2⟩
       ·omega
     ·cases h
  exact this _ hr
theorem mO {c:List Af} {l:List CE} {h:List BR} (hC:Qz c) (hs:BZ c l=true) (IB:∀ x,x ∈ h→Ar c x h.length=true) (n:Int):(E7 c l h n).length<100000:=by
 unfold E7
 cases hx:h[(n-1).toNat]? with
 | none=>simp
 | some x =>
  simp only; obtain ⟨i,s,Y⟩:=Dl (Mg hs (IB x (List.mem_of_getElem? hx))); have:=M6 c i (DU l x).AJ (DU l x).AJ.length; have:=Ls hC Y.many; unfold refsOf; rw [Y.ti]; simp only; omega
end Go.Ce
namespace Go.Ce
open Go Go.Proofs Go.Proofs.Tryz
theorem cw {fn:Func} (hr:fn.results.toList=[]) (Q:Ending→CW→Prop) (x:Exit) (hx:x=.normal∨x=.ret) (e:Env) (W:CW) (h:Q (.returned (.tuple #[])) W):AK prog fn Q x e [] W:=by
 rcases hx with rfl | rfl <;> simp only [AK,Bu,hr,Hp] <;> exact h
theorem a89:agg? prog 89=some false:=by kernel_rfl
end Go.Ce
namespace Go.Ce
open Go Go.Proofs Go.Proofs.Tryz
theorem cy {v:Value} {l:List ByteArray} {s:ByteArray} {W:CW} (hc:Ay 1 (zQ W) v l) (hlen:l.length<1000000):AH prog AT 61 [v,.string s] W (Me (.int .i64 (Ip l fun x=>decide (x=s))) W):=by
 refine AAb ?_; rw [AAa]; obtain ⟨a,cap,rfl,BA⟩:=hc; simp only [Ac xO,AA]; refine Du (fun i e ds W'=>W'=W∧ds=[]∧e 0=.slice a l.length cap∧e 1=.string s∧e 7=.int .i64 l.length∧e 8=.int .i64 i∧∀ j x,j<i→l[j]?=some x→decide (x=s)=false) l.length ⟨rfl,rfl,rfl,rfl,rfl,rfl,by omega⟩ ?_; rintro i e ds W' hi ⟨rfl,rfl,h0,h1,h7,h8,CY⟩; rw [vQ,h0,h1,h7,h8]; simp only [A6,AA]
 refine Gx (fun Ax=>?_) (fun NW=>?_)
 ·have hx:=List.getElem?_eq_getElem Ax; obtain ⟨p,rfl,hp⟩:=BA i _ hx; rw [BH xO s9 Ax]; simp only [AA]; rw [AD a9 (a:=⟨p.block,p.off+i*1,none⟩) hp]; simp only [AA,VG,Lm]
  refine AL (fun hq=>?_) (fun hq=>?_)
  ·have hq:s=l[i]:=by simpa using hq
   simp only [XP,KR,RR,HC,Ud,cq,VY]; refine ⟨?_,rfl⟩; simp only [Aa,↓reduceIte]; rw [JG Ax (by simp [hq]) CY]
  ·have hq:¬s=l[i]:=by simpa using hq
   simp only [XP,Bs,HC]; simp only [Aa,Av,Nat.reduceEqDiff,↓reduceIte,h0,h1,h7,h8,Ap,AA]; refine ⟨Ax,trivial,trivial,trivial,trivial,trivial,by rw [Dv (by omega)],fun j x hj JI=>?_⟩
   rcases Nat.lt_succ_iff_lt_or_eq.1 hj with h2 | rfl
   ·exact CY j x h2 JI
   ·rw [hx] at JI; cases JI; exact decide_eq_false fun e=>hq e.symm
 ·simp only [Bs,VD,Md,ON,if_true,cq,VY]; refine ⟨?_,rfl⟩; simp only [Aa,↓reduceIte]; rw [JH fun j x hj hx=>CY j x (by omega) hx]
theorem Uf {v:Value} {l:List ByteArray} {s:ByteArray} {W:CW} (hc:Ay 1 (zQ W) v l) (hlen:l.length<1000000):AH prog AT 54 [v,.string s] W (Me (.bool (l.any fun x=>decide (x=s))) W):=by
 refine AAZ ?_; rw [AAY]; refine EP (cy hc hlen) ?_; simp only [Gv,AA,gv]; refine ⟨?_,rfl⟩; simp only [Aa,↓reduceIte]; congr 2
 cases h:l.any fun x=>decide (x=s) with
 | false=>exact decide_eq_false (by have:=Y9.2 h; omega)
 | true =>
  refine decide_eq_true ?_; have:¬Ip l (fun x=>decide (x=s))<0:=fun hn=>by rw [Y9.1 hn] at h; cases h
  omega
theorem VZ {W W':CW} {el n:Nat} {v:Value} {cs:List Value} (h:DN W el n v cs) (ho:∀ i,C2 v i→W'.obj i=W.obj i):DN W' el n v cs:=by
 cases h with
 | nil=>exact DN.nil
 | some hB hl=>exact DN.some (hB.congr (ho _ ⟨_,_,_,rfl,rfl⟩)) hl
theorem Bb {W:CW} {b:Nat} {e1 e2:TypeId} {v1 v2:List Value} (h1:Aw W b e1 v1) (h2:Aw W b e2 v2):e1=e2:=by
 obtain ⟨c,n,z,h,_⟩:=h1; obtain ⟨c',n',z',h',_⟩:=h2; rw [h] at h'; cases h'; rfl
theorem Dh {W:CW} {el n:Nat} {v:Value} {cs:List Value} (h:DN W el n v cs) {j:Nat} (hj:C2 v j):Aw W j el cs:=by
 obtain ⟨b,l,c,e,rfl⟩:=hj
 cases h with
 | nil=>cases e
 | some hB hl=>cases e; exact hB
end Go.Ce
namespace Go.Ce
open Go Go.Proofs Go.Proofs.Tryz
theorem HY {W W0:CW} {n:Nat} {z:Array Value} {e:TypeId} (h:W0.obj W.sz=some (.cells .nil n z e)) (hz:B6 (some (.cells .nil n z e)) (some (.cells .nil n z e))=true):JA (.pointer (some ⟨W.sz,0,none⟩)) ((W.new (.cells .nil n z e)).obj W.sz) W0=true:=by
 show B6 (W0.obj W.sz) ((W.new (.cells .nil n z e)).obj W.sz)=true; rw [h,BF,if_pos rfl]; exact hz
end Go.Ce
namespace Go.Ce
open Go Go.Proofs Go.Proofs.Tryz
end Go.Ce
namespace Go.Ce
open Go Go.Proofs Go.Proofs.Tryz
theorem gy {t:TypeId} {r:Nat} {k:Value} {ok:Bool} {W W':CW} (h:W'.obj r=W.obj r):HB prog t (.map (some r)) k ok W'=HB prog t (.map (some r)) k ok W:=by
 unfold HB
 cases prog.underlying t with
 | none=>rfl
 | some d=>cases d <;> simp only [h]
end Go.Ce
namespace Go.Ce
open Go Go.Proofs Go.Proofs.Tryz
theorem vU:Gw 1=[1]:=by unfold Gw; rfl
end Go.Ce
namespace Go.Ce
open Go Go.Proofs Go.Proofs.Tryz
theorem Ad {K:Value→CW→Prop} {KP:List PanicEntry→CW→Prop} {v:Value} {W:CW} (h:K v W):AV K KP (.returned v) W:=h
end Go.Ce
namespace Go.Ce
open Go Go.Proofs Go.Proofs.Tryz
def C6 (e:Int):List PanicEntry:=[{ v:=.iface 167 (.agg #[.int .i64 e]),recovered:=false }]
theorem vV (e:Int):RE prog 167 [(0,.int .i64 e)]=some (.agg #[.int .i64 e]):=by kernel_rfl
theorem vW (v:Value):mki prog 167 v=some (.iface 167 v):=by kernel_rfl
theorem ACl:DC prog 170=some 2:=by kernel_rfl
theorem ZS (a:Addr):A_ prog 170 (.pointer (some a)) 0=some (.pointer (some ⟨a.block,a.off,none⟩)):=by kernel_rfl
theorem ZT (a:Addr):A_ prog 170 (.pointer (some a)) 1=some (.pointer (some ⟨a.block,a.off+1,none⟩)):=by kernel_rfl
theorem mP:agg? prog 3=some false:=by kernel_rfl
theorem Dm {K:Value→CW→Prop} {KP:List PanicEntry→CW→Prop} {ch:List PanicEntry} {W:CW} (h:KP ch W):AV K KP (.panicked ch) W:=h
theorem vX (n:Int):yd prog 5 3 (.int .u8 n)=some (.int .i64 (IntKind.i64.wrap n)):=by kernel_rfl
theorem AAe (x:UInt8):yd prog 5 3 (.int .u8 x.toNat)=some (.int .i64 ((x.toNat:Nat):Int)):=by
 have:=x.toNat_lt; rw [vX,wrap64 (by omega) (by omega)]
theorem GH {b:Bool} {e:Int} {W:CW} {K:Value→CW→Prop} {KP:List PanicEntry→CW→Prop} (hk:b=true→K (.tuple #[]) W) (hp:b=false→KP (C6 e) W):AH prog AT 76 [.bool b,.int .i64 e] W (AV K KP):=by
 refine zG ?_; rw [zF]; simp only [Al,AA]
 cases b with
 | true =>
  simp only [Bool.not_true,Ao]; exact cw (by kernel_rfl) _ _ (.inl rfl) _ _ (hk rfl)
 | false =>
  simp only [Bool.not_false,Bm]; refine A3 (vV _) ?_; refine A3 (vW _) ?_; exact hp rfl
structure ZU (A:CW) (vb:Value) (b:List UInt8):Prop where
 top:At A
 sl:∃ a cap,vb=.slice a b.length cap∧b.length≤cap∧∀ i x,b[i]?=some x→∃ p,a=some p∧JE A p.block (p.off+i*1) x
 lim:b.length≤100000
structure Rd (A W:CW) (rb:Nat) (vb:Value) (at_:Nat):Prop where
 kp:Kp A W
 top:At W
 hb:A.sz≤rb
 G1:Aw W rb 170 [vb,.int .i64 at_]
def Ug (rb j:Nat):Prop:=j=rb
theorem Rd.ld0 {A W:CW} {rb at_:Nat} {vb:Value} (h:Rd A W rb vb at_):ld prog 29 (.pointer (some ⟨rb,0,none⟩)) W=some vb:=AD a29 (a:=⟨rb,0,none⟩) (h.G1.cell rfl)
theorem Rd.xG {A W:CW} {rb at_:Nat} {vb:Value} (h:Rd A W rb vb at_):ld prog 3 (.pointer (some ⟨rb,0+1,none⟩)) W=some (.int .i64 at_):=AD mP (a:=⟨rb,0+1,none⟩) (h.G1.cell rfl)
theorem Rd.VU {A W W':CW} {rb at_:Nat} {vb:Value} (h:Rd A W rb vb at_) (k:Kp W W') (t:At W'):Rd A W' rb vb at_:=⟨h.kp.trans k,t,h.hb,h.G1.ext h.top k⟩
def HF (b:List UInt8) (at_ n:Nat):Except Int Nat:=if at_+n≤b.length then .ok (at_+n) else .error 4
def LP {α:Type} (A:CW) (rb:Nat) (vb:Value) (R:Value→α→CW→Prop) (r:Except Int (α × Nat)) (W:CW):Ending→CW→Prop:=fun en W'=>Bl (Ug rb) W W'∧At W'∧match r with
 | .ok (x,DX)=>∃ v,en=.returned v∧R v x W'∧Rd A W' rb vb DX
 | .error e=>en=.panicked (C6 e)
theorem AAf {a:Option Addr} {len cap lo hi:Nat} (h1:lo≤hi) (h2:hi≤cap) (W:CW):∃ a',eF prog 29 (.slice a len cap) (some (.int .i64 lo)) (some (.int .i64 hi)) (some (.int .i64 hi)) W=some (.slice a' (hi-lo) (hi-lo))∧(lo<hi→∀ p,a=some p→∃ p',a'=some p'∧p'.block=p.block∧p'.off=p.off+lo):=by
 refine ⟨cond (Nat.beq hi lo) a (a.map fun a=>⟨a.block,a.off+lo*1,none⟩),?_,fun Ax p hp=>?_⟩
 ·have Un:∀ n y d:Nat,n≤y→bound (some (.int .i64 (n:Int))) d y=some n:=by
   intro n y d h; simp only [bound]; rw [show (decide ((0:Int)≤(n:Int)) && decide ((n:Int)≤(y:Int)))=true by simp; omega]; simp
  unfold eF; rw [PR]; simp only [Ml,PR,CH,s5,Un hi cap cap h2,Un hi hi len (Nat.le_refl _),Un lo hi 0 h1]; rw [show Nat.ble hi hi=true from Nat.ble_eq_true_of_le (by omega)]; rfl
 ·have hb:Nat.beq hi lo=false:=by
   cases hq:Nat.beq hi lo with
   | false=>rfl
   | true=>have:=Nat.eq_of_beq_eq_true hq; omega
  subst hp; rw [hb]; exact ⟨_,rfl,rfl,by show p.off+lo*1=_; rw [Nat.mul_one]⟩
theorem fA {A W:CW} {rb at_ n:Nat} {vb:Value} {b:List UInt8} (I:ZU A vb b) (h:Rd A W rb vb at_) (ha:at_≤b.length) (hn:n≤100000) :
  AH prog AT 121 [.pointer (some ⟨rb,0,none⟩),.int .i64 n] W (LP A rb vb (fun v x _=>Ay 1 (JE A) v x) (match HF b at_ n with | .ok DX=>.ok ((b.drop at_).take n,DX) | .error e=>.error e) W):=by
 have Ua:=I.lim; obtain ⟨a,cap,aF,UL,gk⟩:=I.sl; refine tY ?_; rw [tX]; simp only [IX,ZS,ZT,AA,h.ld0,h.xG]; subst aF; rw [Ac PR]; simp only [AA,GD,Gv]; rw [wrap64 (by omega) (by omega)]
 have hd:decide ((b.length:Int)-(at_:Int)≥(n:Int))=decide (at_+n≤b.length):=by
  by_cases hq:at_+n≤b.length
  ·rw [decide_eq_true hq,decide_eq_true (by omega)]
  ·rw [decide_eq_false hq,decide_eq_false (by omega)]
 rw [hd]
 refine GH (fun hb=>?_) (fun hb=>?_)
 ·have hle:=of_decide_eq_true hb; have gg:HF b at_ n=.ok (at_+n):=by unfold HF; rw [if_pos hle]
  refine ⟨by simp,trivial,?_⟩; simp only [h.xG,Ap,AA]; rw [wrap64 (by omega) (by omega)]; refine Ak s3 (a:=⟨rb,0+1,none⟩) (v:=.int .i64 ((at_:Int)+(n:Int))) rfl h.G1 (by simp) fun W2 hu hB=>?_; have hu:DM rb W W2:=hu
  have hB:Aw W2 rb 170 [.slice a b.length cap,.int .i64 ((at_+n:Nat):Int)]:=by
   have:((at_+n:Nat):Int)=(at_:Int)+(n:Int):=by omega
   rw [this]
   simpa [putAt] using hB
  have hW2:Rd A W2 rb (.slice a b.length cap) (at_+n):=⟨h.kp.A4 h.hb hu,h.top.A4 (h.G1.lt h.top) hu,h.hb,hB⟩
  simp only [hW2.ld0,hW2.xG,AA,GD]; rw [show (((at_+n:Nat):Int)-(n:Int))=((at_:Nat):Int) by omega,wrap64 (by omega) (by omega)]; obtain ⟨a',hs,hp⟩:=AAf (a:=a) (len:=b.length) (show at_≤at_+n by omega) (show at_+n≤cap by omega) W2; rw [hs]; simp only [AA]; refine ⟨by simp,trivial,?_⟩; rw [bj,gg]; refine ⟨hu.Dd,hW2.top,_,rfl,?_,hW2⟩; have hlen:((b.drop at_).take n).length=n:=by rw [List.length_take,List.length_drop]; omega
  refine ⟨a',n,by rw [hlen,show at_+n-at_=n by omega]; rfl,fun i x hx=>?_⟩; have hi:i<n:=by have:=(List.getElem?_eq_some_iff.1 hx).1; omega
  rw [List.getElem?_take,if_pos hi,List.getElem?_drop] at hx; obtain ⟨p,hpa,hr⟩:=gk _ x hx; obtain ⟨p',hp1,sX,hp3⟩:=hp (by omega) p hpa; refine ⟨p',hp1,?_⟩; rw [sX,hp3]
  rwa [show p.off+at_+i*1=p.off+(at_+i)*1 by omega]
 ·have hle:=of_decide_eq_false hb; have gg:HF b at_ n=.error 4:=by unfold HF; rw [if_neg hle]
  refine ⟨by simp,?_⟩; rw [gg]; exact ⟨.refl _ _,h.top,rfl⟩
def LQ (b:List UInt8):Nat→Nat→Nat→Nat→Except Int (Nat × Nat)
 | 0,_,_,_=>.error 4
 | f+1,at_,n,sh=>match b[at_]? with
  | none=>.error 4
  | some x=>if x.toNat<128 then (if 0<x.toNat∨sh=0 then .ok (n+x.toNat*2 ^ sh,at_+1) else .error 4)
   else LQ b f (at_+1) (n+(x.toNat % 128)*2 ^ sh) (sh+7)
def Eo (b:List UInt8) (at_:Nat) (most:Int):Except Int (Nat × Nat):=match LQ b 6 at_ 0 0 with
 | .error e=>.error e
 | .ok (n,DX)=>if (n:Int)≤most then .ok (n,DX) else .error 4
theorem mQ (y sh:Nat) (hy:y<128) (hs:sh≤35):AQ prog .shl 3 false (.int .i64 y) (.int .i64 sh)=some (.int .i64 ((y*2 ^ sh:Nat):Int)):=by
 have h1:AQ prog .shl 3 false (.int .i64 y) (.int .i64 sh)=cond (decide ((sh:Int)<0)) none (some (.int .i64 (IntKind.i64.wrap ((y:Int)*2 ^ (min (sh:Int).toNat 64))))):=rfl; rw [h1,show decide ((sh:Int)<0)=false by simp]; have h2:min (sh:Int).toNat 64=sh:=by rw [Int.toNat_natCast]; omega
 rw [h2]; have h3:2 ^ sh≤2 ^ 35:=Nat.pow_le_pow_right (by omega) hs; have h4:y*2 ^ sh≤127*2 ^ 35:=Nat.mul_le_mul (by omega) h3; have h5:(y:Int)*2 ^ sh=((y*2 ^ sh:Nat):Int):=by simp
 rw [h5]; simp only [cond_false]; rw [wrap64 (by omega) (by omega)]
theorem py (n y sh:Nat) (hn:n<2 ^ sh) (hy:y<128) (hs:sh≤35):AQ prog .or 3 false (.int .i64 n) (.int .i64 ((y*2 ^ sh:Nat):Int))=some (.int .i64 ((n+y*2 ^ sh:Nat):Int)):=by
 have h3:2 ^ sh≤2 ^ 35:=Nat.pow_le_pow_right (by omega) hs; have h4:y*2 ^ sh≤127*2 ^ 35:=Nat.mul_le_mul (by omega) h3; have h1:AQ prog .or 3 false (.int .i64 n) (.int .i64 ((y*2 ^ sh:Nat):Int))=some (.int .i64 (IntKind.i64.wrap ((BitVec.ofInt 64 (n:Int) ||| BitVec.ofInt 64 ((y*2 ^ sh:Nat):Int)).toNat))):=rfl; rw [h1]
 have h5:(BitVec.ofInt 64 (n:Int) ||| BitVec.ofInt 64 ((y*2 ^ sh:Nat):Int)).toNat=n+y*2 ^ sh:=by
  rw [BitVec.toNat_or,BitVec.ofInt_natCast,BitVec.ofInt_natCast,BitVec.toNat_ofNat,BitVec.toNat_ofNat,Nat.mod_eq_of_lt (by omega),Nat.mod_eq_of_lt (by omega)]; have:=Nat.shiftLeft_add_eq_or_of_lt hn y; rw [Nat.shiftLeft_eq] at this; rw [Nat.or_comm,←this,Nat.add_comm]
 rw [h5,wrap64 (by omega) (by omega)]
end Go.Ce
namespace Go.Ce
open Go Go.Proofs Go.Proofs.Tryz
theorem take_one {b:List UInt8} {at_:Nat} {x:UInt8} (hx:b[at_]?=some x):(b.drop at_).take 1=[x]:=by
 have Ax:=(List.getElem?_eq_some_iff.1 hx).1; apply List.ext_getElem?; intro i
 cases i with
 | zero=>rw [List.getElem?_take,if_pos (by omega),List.getElem?_drop]; exact hx
 | succ i=>rw [List.getElem?_take,if_neg (by omega)]; rfl
theorem IY {A W:CW} {rb at_:Nat} {most:Int} {vb:Value} {b:List UInt8} (I:ZU A vb b) (h:Rd A W rb vb at_) (ha:at_≤b.length) :
  AH prog AT 110 [.pointer (some ⟨rb,0,none⟩),.int .i64 most] W (LP A rb vb (fun v n _=>v=.int .i64 ((n:Nat):Int)) (Eo b at_ most) W):=by
 refine tW ?_; rw [tV]; generalize JO:AK prog Tryz.f110 (LP A rb vb (fun v n _=>v=.int .i64 ((n:Nat):Int)) (Eo b at_ most) W)=KK
 have GN:∀ (e:Env) W',Bl (Ug rb) W W'→At W'→Eo b at_ most=.error 4→KK (.panic (C6 4)) e [] W':=by
  intro e W' hc ht hn; rw [←JO]; show LP A rb vb (fun v n _=>v=.int .i64 ((n:Nat):Int)) (Eo b at_ most) W (.panicked (C6 4)) W'; rw [hn]; exact ⟨hc,ht,rfl⟩
 have hgo:∀ (e:Env) W' n DX,Bl (Ug rb) W W'→Rd A W' rb vb DX→e 1=.int .i64 most→e 5=.int .i64 (n:Nat)→LQ b 6 at_ 0 0=.ok (n,DX)→(Ju none KK) .normal e [] W':=by
  intro e W' n DX hc hr h1 h5 hn; simp only [Ju,Bs,h1,h5,Hv,AA]
  refine GH (fun hb=>?_) (fun hb=>?_)
  ·have hle:=of_decide_eq_true hb; rw [←JO,bh]; refine ⟨hc,hr.top,?_⟩; have:Eo b at_ most=.ok (n,DX):=by unfold Eo; rw [hn]; simp only; rw [if_pos (by omega)]
   rw [this]; refine ⟨_,rfl,?_,hr⟩; simp only [Aa,↓reduceIte]
  ·have hle:=of_decide_eq_false hb; refine GN _ W' hc hr.top ?_; unfold Eo; rw [hn]; simp only; rw [if_neg (by omega)]
 refine lH (fun k e ds W'=>Bl (Ug rb) W W'∧ds=[]∧1≤k∧k≤6∧∃ DX n sh:Nat,Rd A W' rb vb DX∧DX≤b.length∧e 0=.pointer (some ⟨rb,0,none⟩)∧e 1=.int .i64 most∧e 5=.int .i64 n∧e 6=.int .i64 sh∧sh=7*(6-k)∧n<2 ^ sh∧LQ b 6 at_ 0 0=LQ b k DX n sh) 6 ⟨.refl _ _,rfl,by omega,by omega,at_,0,0,h,ha,rfl,rfl,rfl,rfl,rfl,by omega,rfl⟩ ?_; rintro k e ds W' ⟨hc,rfl,nW,hk6,DX,n,sh,hr,Xo,h0,h1,h5,h6,hsh,hn,hG⟩; obtain ⟨f,rfl⟩:∃ f,k=f+1:=⟨k-1,by omega⟩
 rw [ou,h0]; refine (fA (n:=1) I hr Xo (by omega)).mono fun en W1 ⟨Rq,t1,hp⟩=>?_; have WM:Bl (Ug rb) W W1:=hc.then Rq fun _ _ h=>h
 cases hx:b[DX]? with
 | none =>
  have NW:b.length≤DX:=by
   by_cases hq:b.length≤DX
   ·exact hq
   ·rw [List.getElem?_eq_getElem (by omega)] at hx; cases hx
  have gg:HF b DX 1=.error 4:=by unfold HF; rw [if_neg (by omega)]
  rw [gg] at hp; have hp:en=.panicked (C6 4):=hp; subst hp; refine Dm ?_; simp only [tKp,jI,Ju,VE]; refine GN _ W1 WM t1 ?_; unfold Eo; rw [hG,LQ,hx]
 | some x =>
  have Ax:=(List.getElem?_eq_some_iff.1 hx).1; have gg:HF b DX 1=.ok (DX+1):=by unfold HF; rw [if_pos (by omega)]
  rw [gg] at hp; obtain ⟨v,rfl,hv,H6⟩:=hp; rw [take_one hx] at hv; obtain ⟨a,cap,rfl,hv⟩:=hv; obtain ⟨p,rfl,xV⟩:=hv 0 x rfl; refine Ad ?_; have gz:Dz prog 29 (.slice (some p) [x].length cap) (.int .i64 0)=some (.pointer (some ⟨p.block,p.off+0*1,none⟩)):=BH (i:=0) PR s5 (by simp); refine A3 gz ?_; have ACm:W1.cell p.block (p.off+0*1)=some (.int .u8 x.toNat):=H6.kp.cell I.top xV; refine A3 (AD a5 (a:=⟨p.block,p.off+0*1,none⟩) ACm) ?_; have ADm:x.toNat<256:=x.toNat_lt; refine A3 (v:=.int .i64 ((x.toNat:Nat):Int)) (AAe x) ?_; refine A3 (Yp _ _ _ (by decide)) ?_; rw [show ((x.toNat:Int).tmod 128)=((x.toNat % 128:Nat):Int) by rw [Int.tmod_eq_emod_of_nonneg (by omega)]; rfl]; have hy:x.toNat % 128<128:=Nat.mod_lt _ (by omega); have AAg:sh≤35:=by omega
  rw [h6,h5]; refine A3 (mQ _ _ hy AAg) ?_; refine A3 (py _ _ _ hn hy AAg) ?_; refine A3 (Ap _ _ _) ?_; rw [wrap64 (by omega) (by omega)]; refine A3 (A6 _ _ _) ?_
  have oJ:n+x.toNat % 128*2 ^ sh<2 ^ (sh+7):=by
   have h1:x.toNat % 128*2 ^ sh≤127*2 ^ sh:=Nat.mul_le_mul_right _ (by omega); have h2:2 ^ (sh+7)=128*2 ^ sh:=by rw [Nat.pow_add,Nat.mul_comm]
   omega
  have xX:LQ b (f+1) DX n sh=if x.toNat<128 then (if 0<x.toNat∨sh=0 then .ok (n+x.toNat*2 ^ sh,DX+1) else .error 4) else LQ b f (DX+1) (n+(x.toNat % 128)*2 ^ sh) (sh+7):=by
   rw [LQ,hx]
  refine AL (fun hb=>?_) (fun hb=>?_)
  ·have hb:x.toNat<128:=by have:=of_decide_eq_true hb; omega
   have hm:x.toNat % 128=x.toNat:=Nat.mod_eq_of_lt hb; rw [if_pos hb] at xX
   have done:∀ e1:Env,e1 1=.int .i64 most→e1 5=.int .i64 ((n+x.toNat % 128*2 ^ sh:Nat):Int)→(0<x.toNat∨sh=0)→(Jv none (VF (fun k e ds W'=>Bl (Ug rb) W W'∧ds=[]∧1≤k∧k≤6∧∃ DX n sh:Nat,Rd A W' rb vb DX∧DX≤b.length∧e 0=.pointer (some ⟨rb,0,none⟩)∧e 1=.int .i64 most∧e 5=.int .i64 n∧e 6=.int .i64 sh∧sh=7*(6-k)∧n<2 ^ sh∧LQ b 6 at_ 0 0=LQ b k DX n sh) (f+1) (BU 0 (Ju none KK)))) .normal e1 [] W1:=by
    intro e1 g1 g5 aY; simp only [Jv,Bs,Md,tKx]; simp only [if_true]; refine hgo e1 W1 _ (DX+1) WM H6 g1 g5 ?_; rw [hG,xX,if_pos aY,hm]
   refine A3 (Bg _ _ _) ?_
   refine AL (fun hq=>?_) (fun hq=>?_)
   ·have hq:0<x.toNat:=by have:=of_decide_eq_true hq; omega
    refine GH (fun _=>?_) (fun hf=>by cases hf); exact done _ (by simp only [Aa,Av,Nat.reduceEqDiff,↓reduceIte,h1]) (by simp only [Aa,Nat.reduceEqDiff,↓reduceIte]) (.inl hq)
   ·have hq:¬0<x.toNat:=by have:=of_decide_eq_false hq; omega
    refine A3 (Bf _ _ _) ?_
    refine GH (fun hz=>?_) (fun hz=>?_)
    ·have hz:sh=0:=by have:=eq_of_beq hz; omega
     exact done _ (by simp only [Aa,Av,Nat.reduceEqDiff,↓reduceIte,h1]) (by simp only [Aa,Nat.reduceEqDiff,↓reduceIte]) (.inr hz)
    ·have hz:¬sh=0:=by
      intro e; subst e; simp at hz
     simp only [Jv,VE,jI,tKp,Ju]; refine GN _ W1 WM t1 ?_; unfold Eo; rw [hG,xX,if_neg (by omega)]
  ·have hb:¬x.toNat<128:=by have:=of_decide_eq_false hb; omega
   rw [if_neg hb] at xX; refine A3 (Bg _ _ _) ?_
   refine AL (fun hq=>?_) (fun hq=>?_)
   ·have hq:=of_decide_eq_true hq; have hf:f=0:=by omega
    refine GH (fun hf=>by cases hf) (fun _=>?_); simp only [tKp,jI,Ju,VE]; refine GN _ W1 WM t1 ?_; unfold Eo; rw [hG,xX,hf]; rfl
   ·have hq:=of_decide_eq_false hq; simp only [tKn]; exact ⟨f,by omega,WM,trivial,by omega,by omega,DX+1,_,sh+7,H6,by omega,by simp only [Aa,Av,Nat.reduceEqDiff,↓reduceIte,h0],by simp only [Aa,Av,Nat.reduceEqDiff,↓reduceIte,h1],by simp only [Aa,Nat.reduceEqDiff,↓reduceIte],by simp only [Aa,Nat.reduceEqDiff,↓reduceIte]; rfl,by omega,oJ,by rw [hG,xX]⟩
end Go.Ce
namespace Go.Ce
open Go Go.Proofs Go.Proofs.Tryz
def strOf (l:List UInt8):ByteArray:=⟨l.toArray⟩
theorem OC:∀ l:List UInt8,HT (l.map fun x=>Value.int .u8 (x.toNat:Int))=some l
 | []=>rfl
 | x::l=>by
  simp only [List.map_cons,HT,OC l]; congr 2; simp
theorem g_ {W:CW} {v:Value} {l:List UInt8} (h:Ay 1 (JE W) v l):ye prog 29 9 v W=some (.string (strOf l)):=by
 obtain ⟨a,cap,rfl,hc⟩:=h; have h5:prog.underlying 5=some (.int .u8):=by kernel_rfl
 unfold ye; rw [PR,u9]
 have hf:FA a l.length W=some (l.map fun x=>Value.int .u8 (x.toNat:Int)):=by
  cases l with
  | nil=>cases a <;> rfl
  | cons x l =>
   obtain ⟨p,rfl,_⟩:=hc 0 x rfl
   have:=Lp (W:=W) (a:=p) (cs:=(x::l).map fun x=>Value.int .u8 (x.toNat:Int)) fun j v hj=>by
    rw [List.getElem?_map,Option.map_eq_some_iff] at hj; obtain ⟨y,hy,rfl⟩:=hj; obtain ⟨p',hp',hr⟩:=hc j y hy
    cases hp'
    rwa [show p.off+j=p.off+j*1 by omega]
   rwa [List.length_map] at this
 simp only [jV,h5,hf,CH,OC]; rfl
def mR (A:CW) (vf:Value) (ask:ByteArray→Option Int):Prop:=∀ s W K KP,Kp A W→At W→(ask s=none→∀ v W',Kp W W'→At W'→K v W')→(∀ e,ask s=some e→∀ W',Kp W W'→At W'→KP (C6 e) W')→Dj prog AT vf [.string s] W K KP
def IZ (b:List UInt8) (ask:ByteArray→Option Int):Nat→Nat→List ByteArray→Except Int (List ByteArray × Nat)
 | 0,at_,out=>.ok (out,at_)
 | k+1,at_,out=>match Eo b at_ 60 with
  | .error e=>.error e
  | .ok (n,a1)=>match HF b a1 n with
   | .error e=>.error e
   | .ok a2=>if Hw (strOf ((b.drop a1).take n))=true∧(out.any fun x=>decide (x=strOf ((b.drop a1).take n)))=false then
     (match ask (strOf ((b.drop a1).take n)) with
     | some e=>.error e
     | none=>IZ b ask k a2 (out++[strOf ((b.drop a1).take n)]))
    else .error 4
def Ia (b:List UInt8) (ask:ByteArray→Option Int) (at_:Nat):Except Int (List ByteArray × Nat):=match Eo b at_ 128 with
 | .error e=>.error e
 | .ok (n,a1)=>if n=1 then (match Eo b a1 100 with
   | .error e=>.error e
   | .ok (k,a2)=>IZ b ask k a2 [])
  else .error 4
theorem TV {b:List UInt8} {at_ n a:Nat} (h:HF b at_ n=.ok a):a=at_+n∧a≤b.length:=by
 unfold HF at h
 split at h
 ·cases h; exact ⟨rfl,by assumption⟩
 ·cases h
theorem hZ {b:List UInt8} {at_ n:Nat} {e:Int} (h:HF b at_ n=.error e):e=4:=by
 unfold HF at h
 split at h
 ·cases h
 ·cases h; rfl
theorem fB {b:List UInt8}:∀ {f at_ n sh m a:Nat},LQ b f at_ n sh=.ok (m,a)→at_<a∧a≤b.length
 | 0,_,_,_,_,_,h=>by cases h
 | f+1,at_,n,sh,m,a,h=>by
  unfold LQ at h
  split at h
  ·cases h
  ·rename_i x hx; have Ax:=(List.getElem?_eq_some_iff.1 hx).1
   split at h
   ·split at h
    ·cases h; omega
    ·cases h
   ·have:=fB h; omega
theorem Ey {b:List UInt8} {at_ n a:Nat} {most:Int} (h:Eo b at_ most=.ok (n,a)):(n:Int)≤most∧at_<a∧a≤b.length:=by
 unfold Eo at h
 split at h
 ·cases h
 ·rename_i n' a' hg
  split at h
  ·cases h; exact ⟨by assumption,fB hg⟩
  ·cases h
theorem Bl.rd {rb:Nat} {A B C:CW} (h:Bl (Ug rb) A B) (k:Bl (Ug rb) B C):Bl (Ug rb) A C:=h.then k fun _ _ h=>h
theorem Kp.rd {rb:Nat} {A B:CW} (h:Kp A B):Bl (Ug rb) A B:=Bl.FN h
theorem JE.kp {A W:CW} {v:Value} {x:List UInt8} (I:At A) (k:Kp A W) (h:Ay 1 (JE A) v x):Ay 1 (JE W) v x:=h.imp fun _ _ _ hr=>k.cell I hr
theorem pz {A W:CW} {rb at_:Nat} {vb vf:Value} {b:List UInt8} {ask:ByteArray→Option Int} (I:ZU A vb b) (h:Rd A W rb vb at_) (ha:at_≤b.length) (cz:mR A vf ask) :
  AH prog AT 92 [.pointer (some ⟨rb,0,none⟩),vf] W (LP A rb vb (fun v l W'=>DN W' 9 1 v (strs l)∧Bw W.sz v) (Ia b ask at_) W):=by
 refine zK ?_; rw [zJ]; generalize ZV:LP A rb vb (fun v l W'=>DN W' 9 1 v (strs l)∧Bw W.sz v) (Ia b ask at_) W=mS; generalize JO:AK prog Tryz.f92 mS=KK
 have GN:∀ (e:Env) W' c,Bl (Ug rb) W W'→At W'→Ia b ask at_=.error c→KK (.panic (C6 c)) e [] W':=by
  intro e W' c hc ht hn; rw [←JO]; show mS (.panicked (C6 c)) W'; rw [←ZV]; refine ⟨hc,ht,?_⟩; rw [hn]
 refine (IY (most:=128) I h ha).mono fun en W1 ⟨Rq,t1,hp⟩=>?_
 cases R3:Eo b at_ 128 with
 | error c =>
  rw [R3] at hp; have hp:en=.panicked (C6 c):=hp; subst hp; exact Dm (GN _ W1 c Rq t1 (by unfold Ia; rw [R3]))
 | ok r =>
  obtain ⟨n,a1⟩:=r; rw [R3] at hp; obtain ⟨v,rfl,rfl,H6⟩:=hp; refine Ad ?_; refine A3 (Bf _ _ _) ?_; refine GH (fun hb=>?_) (fun hb=>?_)
  rotate_left
  ·have hb:¬n=1:=by intro e; subst e; simp at hb
   exact GN _ W1 4 Rq t1 (by unfold Ia; rw [R3]; simp only; rw [if_neg hb])
  have hb:n=1:=by have:=eq_of_beq hb; omega
  obtain ⟨_,_,CZ⟩:=Ey R3; refine (IY (most:=100) I H6 CZ).mono fun en W2 ⟨fu,t2,hp⟩=>?_; have fu:=Rq.rd fu
  cases P0:Eo b a1 100 with
  | error c =>
   rw [P0] at hp; have hp:en=.panicked (C6 c):=hp; subst hp; refine Dm ?_; simp only [Jt,VE]; exact GN _ W2 c fu t2 (by unfold Ia; rw [R3]; simp only; rw [if_pos hb,P0])
  | ok r =>
   obtain ⟨m,a2⟩:=r; rw [P0] at hp; obtain ⟨v,rfl,rfl,OP⟩:=hp; obtain ⟨ADn,_,p6⟩:=Ey P0; refine Ad ?_; have hH:Ia b ask at_=IZ b ask m a2 []:=by unfold Ia; rw [R3]; simp only; rw [if_pos hb,P0]
   refine Du (fun i e ds W'=>ds=[]∧∃ DX out vo,Bl (Ug rb) W W'∧Rd A W' rb vb DX∧DX≤b.length∧out.length=i∧e 0=.pointer (some ⟨rb,0,none⟩)∧e 1=vf∧e 5=vo∧e 12=.int .i64 m∧e 13=.int .i64 i∧DN W' 9 1 vo (strs out)∧Bw W.sz vo∧IZ b ask m a2 []=IZ b ask (m-i) DX out) m
    ⟨rfl,a2,[],.slice none 0 0,fu,OP,p6,rfl,rfl,rfl,rfl,rfl,rfl,DN.nil,Bw.nil _ _ _,rfl⟩ ?_
   rintro i e ds W' hi ⟨rfl,DX,out,vo,hc,hr,Xo,yB,h0,h1,h5,fC,h13,hO,hN,hG⟩; rw [tS,h0,h5,fC,h13]; simp only [A6,AA]; refine Gx (fun Ax=>?_) (fun NW=>?_)
   rotate_left
   ·have:i=m:=by omega
    subst this; simp only [Bs,VD,Md,ON,Md,if_true,Jt]; rw [←JO,gQ,←ZV]; refine ⟨hc,hr.top,?_⟩; rw [hH,hG,Nat.sub_self]; exact ⟨_,rfl,⟨by simp only [Aa,Av,Nat.reduceEqDiff,↓reduceIte,h5]; exact hO,by simp only [Aa,Av,Nat.reduceEqDiff,↓reduceIte,h5]; exact hN⟩,hr⟩
   ·obtain ⟨f,hf⟩:∃ f,m-i=f+1:=⟨m-i-1,by omega⟩
    rw [hf] at hG
    have KF:IZ b ask (f+1) DX out=match Eo b DX 60 with
      | .error e=>.error e
      | .ok (n,a1)=>match HF b a1 n with
       | .error e=>.error e
       | .ok a2=>if Hw (strOf ((b.drop a1).take n))=true∧(out.any fun x=>decide (x=strOf ((b.drop a1).take n)))=false then
         (match ask (strOf ((b.drop a1).take n)) with
         | some e=>.error e
         | none=>IZ b ask f a2 (out++[strOf ((b.drop a1).take n)]))
        else .error 4:=rfl
    rw [KF] at hG; have bad:∀ (e:Env) W1 c,Bl (Ug rb) W' W1→At W1→IZ b ask m a2 []=.error c→KK (.panic (C6 c)) e [] W1:=fun e W1 c c1 t1 hh=>GN e W1 c (hc.rd c1) t1 (by rw [hH,hh]); refine (IY (most:=60) I hr Xo).mono fun en W3 ⟨p7,t3,hp⟩=>?_
    cases lq:Eo b DX 60 with
    | error c =>
     rw [lq] at hp hG; have hp:en=.panicked (C6 c):=hp; subst hp; refine Dm ?_; simp only [Hs,VE,jI,HC,nh,Jt]; exact bad _ W3 c p7 t3 hG
    | ok r =>
     obtain ⟨k,a3⟩:=r; rw [lq] at hp hG; obtain ⟨v,rfl,rfl,hr3⟩:=hp; obtain ⟨AEA,_,ha3⟩:=Ey lq; refine Ad ?_; simp only at hG; refine (fA I hr3 ha3 (by omega)).mono fun en W4 ⟨p8,t4,hp⟩=>?_; have p8:=p7.rd p8
     cases u5:HF b a3 k with
     | error c =>
      rw [u5] at hp hG; have hp:en=.panicked (C6 c):=hp; subst hp; refine Dm ?_; simp only [Hs,VE,jI,HC,nh,Jt]; exact bad _ W4 c p8 t4 hG
     | ok a4 =>
      rw [u5] at hp hG; obtain ⟨v,rfl,hv,hr4⟩:=hp; obtain ⟨ha4,ACn⟩:=TV u5; simp only at hG; generalize hs:strOf ((b.drop a3).take k)=s at hG; refine Ad ?_; refine A3 (v:=.string s) (by rw [←hs]; exact g_ (JE.kp I.top hr4.kp hv)) ?_
      have ur:s.size<1000000:=by
       rw [←hs]; show ((b.drop a3).take k).toArray.size<1000000; rw [List.size_toArray,List.length_take]; omega
      refine (LG t4 ur).mono fun en W5 ⟨he,k5,t5⟩=>?_; subst he; refine Ad ?_; have hc5:=p8.rd (k5.rd (rb:=rb))
      have vY:DN W5 9 1 vo (strs out):=(hc5).own hr.top hO fun j hj e=>by
       have e:j=rb:=e; subst e; have:=Bb hr.G1 (Dh hO hj); cases this
      have hr5:=hr4.VU k5 t5; refine AL (fun hsy=>?_) (fun hsy=>?_)
      rotate_left
      ·refine GH (fun hf=>by cases hf) (fun _=>?_); simp only [HP,Hs,Bs,VE,jI,HC,nh,Jt]; refine bad _ W5 4 hc5 t5 ?_; rw [hG,if_neg (by rw [hsy]; simp)]
      obtain ⟨ao,co,hvo,rM⟩:=M3 (f:=fun (s:ByteArray)=>Value.string s) vY; have ACo:=Uf (s:=s) (W:=W5) (v:=vo) (l:=out) ⟨ao,co,hvo,rM⟩ (by omega); refine EP ACo ?_; refine A3 (Al _) ?_; refine GH (fun oZ=>?_) (fun oZ=>?_)
      rotate_left
      ·simp only [HP,Hs,Bs,VE,jI,HC,nh,Jt]; refine bad _ W5 4 hc5 t5 ?_; rw [hG,if_neg (by rintro ⟨_,h2⟩; rw [h2] at oZ; cases oZ)]
      have oZ:(out.any fun x=>decide (x=s))=false:=by
       cases hq:out.any fun x=>decide (x=s) with
       | false=>rfl
       | true=>rw [hq] at oZ; cases oZ
      rw [if_pos ⟨hsy,oZ⟩] at hG; simp only [HP,Bs]; simp only [Aa,Av,Nat.reduceEqDiff,↓reduceIte,h1,h5]; refine cz s W5 _ _ hr5.kp t5 (fun HJ v W6 k6 t6=>?_) (fun c gi W6 k6 t6=>?_)
      rotate_left
      ·rw [gi] at hG; simp only [Hs,VE,jI,HC,nh,Jt]; exact bad _ W6 c (hc5.rd k6.rd) t6 hG
      ·rw [HJ] at hG; have hO6:DN W6 9 1 vo (strs out):=(Bl.FN (S:=fun _=>False) k6).own t5 vY fun j hj h=>h; refine Nv xO s9 z9 rfl (by omega) by9 (by omega) (zV _) rfl rfl t6 hO6 (by rw [S_]; omega) fun u Wa oH W7 ka ta KG t7 o7 n7=>?_; have hc6:Bl (Ug rb) W' W6:=hc5.rd k6.rd; have hr6:=hr5.VU k6 t6; have Dp:¬C2 vo rb:=fun hj=>by have:=Bb hr6.G1 (Dh hO6 hj); cases this
       have ACp:W.sz≤W6.sz:=Nat.le_trans hc.sz hc6.sz
       have ACq:Kp A W7:=KG.kp hr6.kp fun b' l' c' e=>by
        have:=hN b' l' c' e; have:=h.kp.sz; omega
       have hc7:Bl (Ug rb) W W7:=(hc.rd hc6).then (KG.Dd) fun j hj hi=>by
        obtain ⟨b',l',c',e1,e2⟩:=hi; have:=hN b' l' c' e1; omega
       simp only [Hs,Bs,HC]; simp only [Aa,Av,Nat.reduceEqDiff,↓reduceIte,h13,Ap,AA]
       refine ⟨Ax,trivial,a4,out++[s],oH,hc7,⟨ACq,t7,hr.hb,KG.G1 t6 hr6.G1 fun b' l' c' e hb=>Dp ⟨b',l',c',e,hb⟩⟩,ACn,by simp [yB],?_,?_,?_,?_,?_,by rw [lU]; exact o7,n7 _ ACp,?_⟩
       ·simp only [h0]
       ·simp only [h1]
       ·first | rfl | (simp only [Aa,Av,xM,Nat.reduceEqDiff,↓reduceIte,xN,zM,oy,and_self])
       ·simp only [fC]
       ·rw [Dv (by omega)]
       ·rw [hG,show m-(i+1)=f by omega]
end Go.Ce
namespace Go.Ce
open Go Go.Proofs Go.Proofs.Tryz
theorem c_ {l bk bx r1 r2 n ix:Nat} {c:List Af} {ty:ByteArray} (OA:BC c ty=some ix) (KN:n<100000) (hn:elemAt c ix=0→n≤(Ai c ix).length) (J:Nat→CW→Prop) (rO:List PanicEntry→CW→Prop) (hJ:∀ i W,J i W→gl W bk bx r1 r2 c ty n)
  (cd:∀ i W,i<n→J i W→Ho prog AT l [.int .i64 i,.int .u8 (A9 c ix i)] W fun e W'=>(e=.returned (.bool true)∧J (i+1) W')∨∃ ch,e=.panicked ch∧rO ch W') {W:CW} (h0:J 0 W) :
  AH prog AT 108 [.func (.yield l) #[] #[],.pointer (some ⟨bk,0,none⟩),.pointer (some ⟨bx,0,none⟩)] W fun e W'=>(e=.returned (.tuple #[])∧J n W')∨∃ ch,e=.panicked ch∧rO ch W':=by
 refine lY ?_; rw [lX]; have K0:=hJ 0 W h0; obtain ⟨a0,ACV,Xg⟩:=K0.x1; obtain ⟨ea,eb,ef,eg,Mp⟩:=K0.cat.sh.elem OA; simp only [HS,GF,Dg,AA]; rw [AD pO (a:=⟨bk,0,none⟩) K0.k0,AD a9 (a:=⟨bx,0,none⟩) K0.x0,AD ND (a:=⟨bx,0+1,none⟩) Xg]; simp only [AA,Mp,N6,Ac Iw]; refine Du (fun i e ds W'=>ds=[]∧e 0=.func (.yield l) #[] #[]∧e 1=.pointer (some ⟨bk,0,none⟩)∧e 2=.pointer (some ⟨bx,0,none⟩)∧e 4=.int .u8 (elemAt c ix)∧e 15=.int .i64 n∧e 16=.int .i64 i∧J i W') n ⟨rfl,rfl,rfl,rfl,rfl,rfl,rfl,h0⟩ ?_; rintro i e ds W' hi ⟨rfl,h0,h1,h2,h4,pf,h16,hj⟩; rw [ed,h1,h2,h4,pf,h16]; simp only [A6,AA]
 refine Gx (fun Ax=>?_) (fun NW=>?_)
 ·have Ds:∀ (e1:Env),ER [0,1,2,4,15,16] e e1→e1 5=.int .i64 i→e1 6=.int .u8 (A9 c ix i) →
    (Lu none (J5 (fun i e ds W'=>ds=[]∧e 0=.func (.yield l) #[] #[]∧e 1=.pointer (some ⟨bk,0,none⟩)∧e 2=.pointer (some ⟨bx,0,none⟩)∧e 4=.int .u8 (elemAt c ix)∧e 15=.int .i64 n∧e 16=.int .i64 i∧J i W') i n (BU 0 (AK prog Tryz.f108 fun e W'=>(e=.returned (.tuple #[])∧J n W')∨∃ ch,e=.panicked ch∧rO ch W')))) .normal e1 [] W':=by
   intro e1 hA h5 h6; have g0:=(hA 0 (by decide)).trans h0; have g16:=(hA 16 (by decide)).trans h16; simp only [Lu,Bs,g0,h5,h6]; refine N_ ((cd i W' Ax hj).mono fun en W1 hp=>?_)
   rcases hp with ⟨rfl,sW⟩ | ⟨ch,rfl,Es⟩
   ·simp only [AV,Al,AA,Bool.not_true,Ao,IV,Bs,KR,RR,HC,Ud]; simp only [Aa,Av,Nat.reduceEqDiff,↓reduceIte,g16,Ap,AA]; exact ⟨Ax,trivial,g0,(hA 1 (by decide)).trans h1,(hA 2 (by decide)).trans h2,(hA 4 (by decide)).trans h4,(hA 15 (by decide)).trans pf,by rw [Dv (by omega)],sW⟩
   ·simp only [AV,IV,VE,jI,HC,nh]; exact .inr ⟨ch,rfl,Es⟩
  simp only [Bf,AA]
  refine AL (fun he=>?_) (fun he=>?_)
  ·have he:elemAt c ix=0:=by simpa using he
   have Ki:=hJ i W' hj; have K5:=GG OA; have Xi:i<(Ai c ix).length:=by have:=hn he; omega
   obtain ⟨ar,cr,lr,nj⟩:=Ki.cat.rw.some OA; obtain ⟨_,_,e3,hrc⟩:=nj
   cases e3
   obtain ⟨pr,rfl,OM⟩:=hrc i _ (List.getElem?_eq_getElem Xi); simp only [IW,GF,AA]; rw [AD rB (a:=⟨bk,0+1,none⟩) Ki.k1,AD a9 (a:=⟨bx,0,none⟩) Ki.x0]; simp only [AA,lr]; rw [BH PR s5 Xi]; simp only [AA]; rw [AD a5 (a:=⟨pr.block,pr.off+i*1,none⟩) OM]; simp only [AA]; refine Ds _ (.put rfl) rfl ?_; show Value.int .u8 (Ai c ix)[i]=_; rw [H0 he K5,List.getElem?_eq_getElem Xi]; rfl
  ·have he:elemAt c ix≠0:=by simpa using he
   refine Ds _ (.put rfl) rfl ?_; show Value.int .u8 (elemAt c ix)=_; have K5:=GG OA; unfold A9; unfold elemAt at he ⊢; rw [List.getElem?_eq_getElem K5] at he ⊢; simp only at he ⊢; rw [if_pos he]
 ·simp only [Md,ON,if_true]; have hi:i=n:=by omega
  exact LN _ _ (.inl rfl) _ _ (.inl ⟨rfl,hi ▸ hj⟩)
theorem mT {fn:FuncId} {nt:Nat} {f:Operand} {p1 p2 a1 a2:Tmp} {A B:Code} {e:Env} {ds:List Deferred} {W:CW} {K:AG} {bk bx r1 r2 n ix:Nat} {c:List Af} {ty:ByteArray} (ht:At W)
  (hf:e.ev f=.func (.func 108) #[] #[.pointer (some ⟨bk,0,none⟩),.pointer (some ⟨bx,0,none⟩)]) (OA:BC c ty=some ix) (KN:n<100000) (hn:elemAt c ix=0→n≤(Ai c ix).length)
  (hA:∀ ro e0 ds K W,AP prog AT ro fn nt A e0 ds W K=K .normal (Env.of e0 [(a2,e0 p2),(a1,e0 p1)]) ds W) (mH:p1≠p2∧a1≠a2)
  (J:Nat→CW→Prop) (rO:List PanicEntry→CW→Prop) (hJ:∀ i W,J i W→gl W bk bx r1 r2 c ty n)
  (vI:∀ i W1 W2,J i W1→DM (W.sz+1) W1 W2→(∀ b k v,W1.cell b k=some v→W2.cell b k=some v)→J i W2)
  (h0:∀ W2,Kp W W2→At W2→W2.sz=W.sz+2→W2.obj W.sz=some .deferred→J 0 W2)
  (YS:∀ (i:Nat) W1 (Kb:AG) (E:Env),(∀ t,t≠p1→t≠p2→t≠a1→t≠a2→E t=e t)→E a1=.int .i64 i→E a2=.int .u8 (A9 c ix i)→i<n→J i W1→(∃ o,W1.obj (W.sz+1)=some o∧∀ a b c d,o≠.cells a b c d) →
   (∀ e' C_ W3,W3.obj (W.sz+1)=W1.obj (W.sz+1)→J (i+1) W3→Kb .normal e' C_ W3)→(∀ ch e' W3,W3.obj (W.sz+1)=W1.obj (W.sz+1)→rO ch W3→Kb (.panic ch) e' [] W3) →
   AP prog AT (some (W.sz+1)) fn nt B E [] W1 Kb)
  (EA:∀ W',J n W'→K .normal e (mark W.sz::ds) W') (GN:∀ ch W',rO ch W'→K (.panic ch) e (mark W.sz::ds) W') :
  C1 prog AT none fn nt (.rangeFunc f #[p1,p2] A B) e ds W K:=by
 have BA:∀ {W1 W2:CW} {st DE RD e' Yu Yv A' B' d'},DK W1 (W.sz+1) st DE RD e' Yu Yv A' B' d'→DM (W.sz+1) W1 W2→∀ b k v,W1.cell b k=some v→W2.cell b k=some v:=by
  intro W1 W2 st DE RD e' Yu Yv A' B' d' hl hu b k v hc; obtain ⟨T,ho,_⟩:=hl
  rw [hu.cell]
  ·exact hc
  ·rintro rfl; unfold CW.cell at hc; rw [ho] at hc; cases hc
 refine lJ (g:=108) (args:=[.func (.yield (W.sz+1)) #[] #[],.pointer (some ⟨bk,0,none⟩),.pointer (some ⟨bx,0,none⟩)]) ht ?_ fun W2 k2 t2 z2 hd hl=>?_
 ·rw [hf]; rfl
 ·refine (c_ (J:=fun i W'=>J i W'∧DK W' (W.sz+1) .ready none fn e nt #[p1,p2] A B W.sz) (rO:=rO) OA KN hn (fun i W' h=>hJ i W' h.1) (fun i W' hi h=>?_) ⟨h0 W2 k2 t2 z2 hd,hl⟩).mono fun en W' hr=>?_
  ·obtain ⟨hj,UJ⟩:=h; refine eV UJ rfl ?_; rw [hA]; refine ⟨rfl,none,e,nt,#[p1,p2],A,B,W.sz,UJ,fun W3 hu jM=>?_⟩; have hj3:=vI i W' W3 hj hu (BA UJ hu); obtain ⟨rL,hd2⟩:=mH
   refine YS i W3 _ _ (fun t h1 h2 h3 h4=>by simp only [Aa,Av,List.zip_cons_cons,List.zip_nil_left,Env.G8,if_neg h1,if_neg h2,if_neg h3,if_neg h4]) (by simp only [Aa,Av,List.zip_cons_cons,List.zip_nil_left,Env.G8,if_neg rL,if_neg hd2,if_true]) (by simp only [Aa,Av,List.zip_cons_cons,List.zip_nil_left,Env.G8,if_true,if_neg (Ne.symm rL)]) hi hj3 (by obtain ⟨T,ho,_⟩:=jM; exact ⟨_,ho,fun _ _ _ _ h=>by cases h⟩) (fun e' C_ W4 ho hj4=>?_) (fun ch e' W4 ho xH=>?_)
   ·refine ⟨.busy,none,fn,e,nt,#[p1,p2],A,B,W.sz,jM.congr ho,fun W5 Q1 vJ=>.inl ⟨rfl,?_,vJ⟩⟩; exact vI _ W4 W5 hj4 Q1 (BA (jM.congr ho) Q1)
   ·exact ⟨.busy,none,fn,e,nt,#[p1,p2],A,B,W.sz,jM.congr ho,rfl,.inr ⟨ch,rfl,xH⟩⟩
  ·rcases hr with ⟨rfl,hj,UJ⟩ | ⟨ch,rfl,hb⟩
   ·refine ⟨⟨_,rfl⟩,.ready,none,fn,e,nt,#[p1,p2],A,B,W.sz,UJ,(by intro h; cases h),fun W5 Q1=>EA W5 ?_⟩; exact vI _ W' W5 hj Q1 (BA UJ Q1)
   ·exact GN ch W' hb
end Go.Ce
namespace Go.Ce
open Go Go.Proofs Go.Proofs.Tryz
def OD (n:Nat):Int:=if n % 2=1 then -((((n+1) / 2:Nat)):Int) else ((n / 2:Nat):Int)
def E8 (b:List UInt8) (c:List Af) (ix many:Nat):Nat→Nat→Nat→Nat→List Int→Except Int (List Int × Nat × Nat)
 | 0,_,at_,fd,vs=>.ok (vs,fd,at_)
 | m+1,k,at_,fd,vs=>if A9 c ix k=2 then
   (match Eo b at_ ((min (fd+1) many:Nat):Int) with
   | .error e=>.error e
   | .ok (n,a)=>E8 b c ix many m (k+1) a (max fd n) (vs++[(n:Int)]))
  else
   (match Eo b at_ 2000000000 with
   | .error e=>.error e
   | .ok (n,a)=>E8 b c ix many m (k+1) a fd (vs++[OD n]))
theorem fD (a b:Int) (W:CW):blt prog .min [3,3] [.int .i64 a,.int .i64 b] W=some (.int .i64 (min a b),W):=by
 have h:blt prog .min [3,3] [.int .i64 a,.int .i64 b] W=some (.int .i64 (cond (decide (b<a)) b a),W):=rfl; rw [h]
 by_cases hq:b<a
 ·rw [decide_eq_true hq,Int.min_eq_right (by omega)]; rfl
 ·rw [decide_eq_false hq,Int.min_eq_left (by omega)]; rfl
theorem AAh (a b:Int) (W:CW):blt prog .max [3,3] [.int .i64 a,.int .i64 b] W=some (.int .i64 (max a b),W):=by
 have h:blt prog .max [3,3] [.int .i64 a,.int .i64 b] W=some (.int .i64 (cond (decide (a<b)) b a),W):=rfl; rw [h]
 by_cases hq:a<b
 ·rw [decide_eq_true hq,Int.max_eq_right (by omega)]; rfl
 ·rw [decide_eq_false hq,Int.max_eq_left (by omega)]; rfl
theorem vZ:agg? prog 124=some false:=by kernel_rfl
def Is (n:Nat) (vs:List Int):List Value:=Bz (vs++List.replicate (n-vs.length) 0)
theorem LR {n:Nat} {vs:List Int} (h:vs.length≤n):(Is n vs).length=n:=by
 unfold Is Bz; rw [List.length_map,List.length_append,List.length_replicate]; omega
theorem mU {n:Nat} {vs:List Int} (h:vs.length<n) (x:Int):putAt (Is n vs) (0+vs.length*1) [.int .i64 x]=Is n (vs++[x]):=by
 have h1:0+vs.length*1=vs.length:=by omega
 have hl:=LR (Nat.le_of_lt h); have L8:=LR (n:=n) (vs:=vs++[x]) (by simp; omega); rw [h1]; apply List.ext_getElem?; intro j; rw [JD (by rw [hl]; simp; omega)]; unfold Is Bz; simp only [List.length_singleton,List.getElem?_map]
 by_cases e:vs.length≤j∧j<vs.length+1
 ·have:j=vs.length:=by omega
  subst this; rw [if_pos e,Nat.sub_self]; rw [List.getElem?_append_left (by simp),List.getElem?_append_right (by omega),Nat.sub_self]; rfl
 ·rw [if_neg e]
  by_cases hj:j<vs.length
  ·rw [List.getElem?_append_left hj,List.getElem?_append_left (by simp; omega),List.getElem?_append_left hj]
  ·rw [List.getElem?_append_right (by omega),List.getElem?_append_right (by simp; omega)]; simp only [List.length_append,List.length_singleton,List.getElem?_replicate]
   by_cases h2:j-vs.length<n-vs.length
   ·rw [if_pos h2,if_pos (by omega)]
   ·rw [if_neg h2,if_neg (by omega)]
theorem h_ {n:Nat} {vs:List Int} (h:vs.length<n) (x y:Int):putAt (Is n (vs++[x])) (0+vs.length*1) [.int .i64 y]=Is n (vs++[y]):=by
 have h1:0+vs.length*1=vs.length:=by omega
 have hl:=LR (n:=n) (vs:=vs++[x]) (by simp; omega); rw [h1]; apply List.ext_getElem?; intro j; rw [JD (by rw [hl]; simp; omega)]; unfold Is Bz; simp only [List.length_singleton,List.getElem?_map]
 by_cases e:vs.length≤j∧j<vs.length+1
 ·have:j=vs.length:=by omega
  subst this; rw [if_pos e,Nat.sub_self]; rw [List.getElem?_append_left (by simp),List.getElem?_append_right (by omega),Nat.sub_self]; rfl
 ·rw [if_neg e]
  by_cases hj:j<vs.length
  ·rw [List.getElem?_append_left (by simp; omega),List.getElem?_append_left hj,List.getElem?_append_left (by simp; omega),List.getElem?_append_left hj]
  ·rw [List.getElem?_append_right (by simp; omega),List.getElem?_append_right (by simp; omega)]; simp only [List.length_append,List.length_singleton]
def S3 (rb CF bv j:Nat):Prop:=j=rb∨j=CF∨j=bv
structure VIn (A WI:CW) (rb b3 b8 CF Rr bv n many:Nat) (ty:ByteArray):Prop where
 top:At WI
 c3:Aw WI b3 124 [.pointer (some ⟨rb,0,none⟩)]
 c8:Aw WI b8 3 [.int .i64 many]
 x:Aw WI Rr 56 [.string ty,.slice (some ⟨bv,0,none⟩) n n]
 jK:A.sz≤rb∧A.sz≤CF∧A.sz≤bv
 ne:b8≠CF∧b8≠bv∧CF≠bv
 many:many≤1000
structure VJ (A WI:CW) (rb CF bv n:Nat) (vb:Value) (W:CW) (at_ fd:Nat) (vs:List Int):Prop where
 Dd:Bl (S3 rb CF bv) WI W
 rd:Rd A W rb vb at_
 f:Aw W CF 3 [.int .i64 fd]
 v:Aw W bv 3 (Is n vs)
theorem XR {rb CF bv:Nat} {WI:CW} {b:Nat} {el:TypeId} {vs x y z:List Value} (h:Aw WI b el vs) (hr:Aw WI rb 170 x) (hf:Aw WI CF 3 y) (hv:Aw WI bv 3 z) (h1:el≠170) (h2:el≠3):¬S3 rb CF bv b:=by
 rintro (rfl | rfl | rfl)
 ·exact h1 (Bb h hr)
 ·exact h2 (Bb h hf)
 ·exact h2 (Bb h hv)
theorem mV {A WI W:CW} {K:AG} {E:Env} {rb b3 b8 CF Rr bv n many ix at_ fd i:Nat} {vb:Value} {b:List UInt8} {c:List Af} {ty:ByteArray} {vs:List Int} {ro:Option Nat}
  (I:ZU A vb b) (V:VIn A WI rb b3 b8 CF Rr bv n many ty) {xr yf zv:List Value} (e_:Aw WI rb 170 xr) (rC:Aw WI CF 3 yf) (oQ:Aw WI bv 3 zv) (J:VJ A WI rb CF bv n vb W at_ fd vs) (Xo:at_≤b.length) (fE:vs.length=i) (hi:i<n) (jg:fd≤1000)
  (q3:E 3=.pointer (some ⟨b3,0,none⟩)) (q8:E 8=.pointer (some ⟨b8,0,none⟩)) (q10:E 10=.pointer (some ⟨CF,0,none⟩)) (q14:E 14=.pointer (some ⟨Rr,0,none⟩)) (q16:E 16=.int .i64 i) (q17:E 17=.int .u8 (A9 c ix i)) {G:Except Int (List Int × Nat × Nat)} {m:Nat}
  (hG:G=E8 b c ix many (m+1) i at_ fd vs)
  (Ae:∀ e' W' DX F3 vs',Bl (S3 rb CF bv) W W'→VJ A WI rb CF bv n vb W' DX F3 vs'→DX≤b.length→F3≤1000→vs'.length=i+1→G=E8 b c ix many m (i+1) DX F3 vs'→K .normal e' [] W')
  (Gc:∀ e' W' x,Bl (S3 rb CF bv) W W'→Bl (S3 rb CF bv) WI W'→At W'→G=.error x→K (.panic (C6 x)) e' [] W') :
  AP prog AT ro 74 140 (AN prog 74 0) E [] W K:=by
 obtain ⟨R3,P0,lq⟩:=V.ne; have nb3:=XR V.c3 e_ rC oQ (by decide) (by decide); have nbx:=XR V.x e_ rC oQ (by decide) (by decide)
 have nb8:¬S3 rb CF bv b8:=by
  rintro (e | e | e)
  ·have h8:=V.c8; rw [e] at h8; have:=Bb h8 e_; cases this
  ·exact R3 e
  ·exact P0 e
 have ZW:bv≠rb:=by
  rintro rfl; have:=Bb oQ e_; cases this
 have dA:CF≠rb:=by
  rintro rfl; have:=Bb rC e_; cases this
 have atW:∀ W',Bl (S3 rb CF bv) WI W'→ld prog 124 (.pointer (some ⟨b3,0,none⟩)) W'=some (.pointer (some ⟨rb,0,none⟩))∧ld prog 3 (.pointer (some ⟨b8,0,none⟩)) W'=some (.int .i64 many)∧ld prog 40 (.pointer (some ⟨Rr,0+1,none⟩)) W'=some (.slice (some ⟨bv,0,none⟩) n n):=fun W' h =>
  ⟨AD vZ (a:=⟨b3,0,none⟩) ((h.G1 V.top nb3 V.c3).cell rfl),AD a3 (a:=⟨b8,0,none⟩) ((h.G1 V.top nb8 V.c8).cell rfl),AD ND (a:=⟨Rr,0+1,none⟩) ((h.G1 V.top nbx V.x).cell rfl)⟩
 have Z7:(Is n vs).length=n:=LR (by omega); have rP:=V.many; obtain ⟨l3,l8,lx⟩:=atW W J.Dd; have l10:ld prog 3 (.pointer (some ⟨CF,0,none⟩)) W=some (.int .i64 fd):=AD a3 (a:=⟨CF,0,none⟩) (J.f.cell rfl); rw [E8] at hG
 have put:∀ (W1:CW) (x:Int),Bl (S3 rb CF bv) WI W1→At W1→Aw W1 bv 3 (Is n vs)→∀ {Kx:CW→Prop},(∀ W2,DM bv W1 W2→Bl (S3 rb CF bv) WI W2→At W2→Aw W2 bv 3 (Is n (vs++[x]))→Kx W2)→wV (CP prog 3 (.pointer (some ⟨bv,0+i*1,none⟩)) (.int .i64 x) W1) Kx:=by
  intro W1 x hc ht hB Kx hk; refine Ak s3 (a:=⟨bv,0+i*1,none⟩) (v:=.int .i64 x) rfl hB (by rw [Z7]; simp; omega) fun W2 hu HD=>?_; have hu:DM bv W1 W2:=hu; refine hk W2 hu (hc.then hu.Dd fun j _ h=>.inr (.inr h)) (ht.A4 (hB.lt ht) hu) ?_; have:=mU (n:=n) (vs:=vs) (by omega) x; rw [fE] at this; rw [←this]; exact HD
 have gz:Dz prog 40 (.slice (some ⟨bv,0,none⟩) n n) (.int .i64 i)=some (.pointer (some ⟨bv,0+i*1,none⟩)):=BH (i:=i) Iw s3 hi; rw [tP,q17]; simp only [Bf,AA]
 refine AL (fun hk=>?_) (fun hk=>?_)
 ·have hk:A9 c ix i=2:=by simpa using hk
  rw [if_pos hk] at hG; rw [q14,q3,q10,q8,q16]; simp only [Dg,AA]; rw [lx,l3,l10,l8]; simp only [Ap,AA]; rw [show ((fd:Int)+1)=((fd+1:Nat):Int) by omega,wrap64 (by omega) (by omega)]; refine GC (fD _ _ W) ?_; rw [show min ((fd+1:Nat):Int) (many:Int)=((min (fd+1) many:Nat):Int) by omega]; refine (IY I J.rd Xo).mono fun en W1 ⟨Rq,t1,hp⟩=>?_; have vd:Bl (S3 rb CF bv) WI W1:=J.Dd.then Rq fun j _ h=>.inl h; obtain ⟨l3',l8',lx'⟩:=atW W1 vd
  cases hn:Eo b at_ ((min (fd+1) many:Nat):Int) with
  | error x =>
   rw [hn] at hp hG; have hp:en=.panicked (C6 x):=hp; subst hp; refine Dm ?_; exact ⟨by simp only [l3,lx,and_self],Gc _ W1 x (Bl.refl (S3 rb CF bv) W |>.then Rq fun j _ h=>.inl h) vd t1 hG⟩
  | ok r =>
   obtain ⟨x,a1⟩:=r; rw [hn] at hp hG; obtain ⟨v,rfl,rfl,H6⟩:=hp; obtain ⟨Xg,_,CZ⟩:=Ey hn; refine Ad ?_; rw [gz]; simp only [AA]; have U5:=Rq.G1 J.rd.top ZW J.v; have YB:=Rq.G1 J.rd.top dA J.f; refine put W1 x vd t1 U5 fun W2 hu jN t2 HD=>?_; obtain ⟨ve,ACr,vg⟩:=atW W2 jN; refine ⟨by simp only [l3,lx,lx',and_self],trivial,?_⟩; have V9:Aw W2 CF 3 [.int .i64 fd]:=YB.congr (hu.obj _ lq); have ACs:ld prog 3 (.pointer (some ⟨CF,0,none⟩)) W2=some (.int .i64 fd):=AD a3 (a:=⟨CF,0,none⟩) (V9.cell rfl)
   have lv:ld prog 3 (.pointer (some ⟨bv,0+i*1,none⟩)) W2=some (.int .i64 x):=by
    refine AD a3 (a:=⟨bv,0+i*1,none⟩) (HD.cell ?_); show (Is n (vs++[(x:Int)]))[0+i*1]?=_; unfold Is Bz; rw [List.getElem?_map,List.getElem?_append_left (by simp; omega),List.getElem?_append_right (by omega),show 0+i*1-vs.length=0 by omega]; rfl
   rw [ACs,vg]; simp only [AA]; rw [gz]; simp only [AA]; rw [lv]; simp only [AA]; refine GC (AAh _ _ W2) ?_; rw [show max (fd:Int) (x:Int)=((max fd x:Nat):Int) by omega]; refine Ak s3 (a:=⟨CF,0,none⟩) (v:=.int .i64 ((max fd x:Nat):Int)) rfl V9 (by simp) fun W3 M5 Gk=>?_; have M5:DM CF W2 W3:=M5; have Gk:Aw W3 CF 3 [.int .i64 ((max fd x:Nat):Int)]:=Gk; have hC3:Bl (S3 rb CF bv) WI W3:=jN.then M5.Dd fun j _ h=>.inr (.inl h); have t3:=t2.A4 (V9.lt t2) M5; refine ⟨by simp only [and_self],trivial,?_⟩; refine Ae _ W3 a1 (max fd x) (vs++[(x:Int)]) (((Bl.refl (S3 rb CF bv) W |>.then Rq fun j _ h=>.inl h).then hu.Dd fun j _ h=>.inr (.inr h)).then M5.Dd fun j _ h=>.inr (.inl h)) ⟨hC3,⟨(H6.kp.A4 V.jK.2.2 hu).A4 V.jK.2.1 M5,t3,H6.hb,(H6.G1.congr (hu.obj _ (Ne.symm ZW))).congr (M5.obj _ (Ne.symm dA))⟩,Gk,HD.congr (M5.obj _ (Ne.symm lq))⟩ CZ (by omega) (by simp [fE]) hG
 ·have hk:A9 c ix i≠2:=by simpa using hk
  rw [if_neg hk] at hG; rw [q14,q3,q16,l3]; simp only [AA]; refine (IY (most:=2000000000) I J.rd Xo).mono fun en W1 ⟨Rq,t1,hp⟩=>?_; have vd:Bl (S3 rb CF bv) WI W1:=J.Dd.then Rq fun j _ h=>.inl h; obtain ⟨l3',l8',lx'⟩:=atW W1 vd
  cases hn:Eo b at_ 2000000000 with
  | error x =>
   rw [hn] at hp hG; have hp:en=.panicked (C6 x):=hp; subst hp; refine Dm ?_; exact Gc _ W1 x (Bl.refl (S3 rb CF bv) W |>.then Rq fun j _ h=>.inl h) vd t1 hG
  | ok r =>
   obtain ⟨x,a1⟩:=r; rw [hn] at hp hG; obtain ⟨v,rfl,rfl,H6⟩:=hp; obtain ⟨Xg,_,CZ⟩:=Ey hn; refine Ad ?_; simp only [Dg,AA]; rw [lx']; simp only [AA]; refine A3 (Yo _ _ _ (by decide)) ?_; rw [show ((x:Int).tdiv 2)=((x / 2:Nat):Int) by rw [Int.tdiv_eq_ediv_of_nonneg (by omega)]; omega,wrap64 (by omega) (by omega)]; rw [gz]; simp only [AA]; have U5:=Rq.G1 J.rd.top ZW J.v; have YB:=Rq.G1 J.rd.top dA J.f; refine put W1 _ vd t1 U5 fun W2 hu jN t2 HD=>?_; obtain ⟨ve,ACr,vg⟩:=atW W2 jN; have V9:Aw W2 CF 3 [.int .i64 fd]:=YB.congr (hu.obj _ lq); have OP:Rd A W2 rb vb a1:=⟨H6.kp.A4 V.jK.2.2 hu,t2,H6.hb,H6.G1.congr (hu.obj _ (Ne.symm ZW))⟩
   refine A3 (Yp _ _ _ (by decide)) ?_; rw [show ((x:Int).tmod 2)=((x % 2:Nat):Int) by rw [Int.tmod_eq_emod_of_nonneg (by omega)]; rfl]; refine A3 (Bf _ _ _) ?_
   refine AL (fun ho=>?_) (fun ho=>?_)
   ·have ho:x % 2=1:=by have:=eq_of_beq ho; omega
    rw [vg]; simp only [Ap,AA]; rw [show ((x:Int)+1)=((x+1:Nat):Int) by omega,wrap64 (by omega) (by omega)]
    refine A3 (v:=.int .i64 (-((x+1:Nat):Int))) (by
     show some (Value.int .i64 (IntKind.i64.wrap (0-((x+1:Nat):Int))))=_
     rw [wrap64 (by omega) (by omega),Int.zero_sub]) ?_
    refine A3 (Yo _ _ _ (by decide)) ?_; rw [show ((-((x+1:Nat):Int)).tdiv 2)=-(((x+1) / 2:Nat):Int) by rw [Int.neg_tdiv,Int.tdiv_eq_ediv_of_nonneg (by omega)]; omega,wrap64 (by omega) (by omega)]; rw [gz]; simp only [AA]; have L8:=LR (n:=n) (vs:=vs++[((x / 2:Nat):Int)]) (by simp; omega); refine Ak s3 (a:=⟨bv,0+i*1,none⟩) (v:=.int .i64 (-(((x+1) / 2:Nat):Int))) rfl HD (by rw [L8]; simp; omega) fun W3 M5 Gk=>?_; have M5:DM bv W2 W3:=M5; have xW:=h_ (n:=n) (vs:=vs) (by omega) ((x / 2:Nat):Int) (-(((x+1) / 2:Nat):Int)); rw [fE] at xW; have Gk:Aw W3 bv 3 (Is n (vs++[-(((x+1) / 2:Nat):Int)])):=by rw [←xW]; exact Gk
    have t3:=t2.A4 (HD.lt t2) M5; have Xd:OD x=-(((x+1) / 2:Nat):Int):=by unfold OD; rw [if_pos ho]
    refine Ae _ W3 a1 fd (vs++[-(((x+1) / 2:Nat):Int)]) (((Bl.refl (S3 rb CF bv) W |>.then Rq fun j _ h=>.inl h).then hu.Dd fun j _ h=>.inr (.inr h)).then M5.Dd fun j _ h=>.inr (.inr h)) ⟨jN.then M5.Dd fun j _ h=>.inr (.inr h),⟨OP.kp.A4 V.jK.2.2 M5,t3,H6.hb,OP.G1.congr (M5.obj _ (Ne.symm ZW))⟩,V9.congr (M5.obj _ lq),Gk⟩ CZ jg (by simp [fE]) (by rw [hG]; show E8 b c ix many m (i+1) a1 fd (vs++[OD x])=_; rw [Xd])
   ·have ho:¬x % 2=1:=by
     intro e; rw [e] at ho; simp at ho
    have Xd:OD x=((x / 2:Nat):Int):=by unfold OD; rw [if_neg ho]
    exact Ae _ W2 a1 fd (vs++[((x / 2:Nat):Int)]) ((Bl.refl (S3 rb CF bv) W |>.then Rq fun j _ h=>.inl h).then hu.Dd fun j _ h=>.inr (.inr h)) ⟨jN,OP,V9,HD⟩ CZ jg (by simp [fE]) (by rw [hG]; show E8 b c ix many m (i+1) a1 fd (vs++[OD x])=_; rw [Xd])
end Go.Ce
namespace Go.Ce
open Go Go.Proofs Go.Proofs.Tryz
def Marks (B:Nat) (W:CW) (ds:List Deferred):Prop:=∃ rs:List Nat,ds=rs.map mark∧rs.Nodup∧∀ r,r ∈ rs→W.obj r=some .deferred∧B≤r
theorem Marks.nil (B:Nat) (W:CW):Marks B W []:=⟨[],rfl,List.nodup_nil,fun r h=>by cases h⟩
theorem Ib {P:Program} {fn:Func} {Q:Ending→CW→Prop} {x:Exit} {e:Env} {B:Nat} {W:CW} (ht:At W) {ds:List Deferred} (h:Marks B W ds) (hq:∀ W',(∀ j o,W.obj j=some o→o≠.deferred→W'.obj j=some o)→(∀ j,j<B→W'.obj j=W.obj j)→W'.sz=W.sz→At W'→AK P fn Q x e [] W'):AK P fn Q x e ds W:=by
 obtain ⟨rs,rfl,QB,hr⟩:=h
 suffices key:∀ (rs:List Nat) (W0:CW),At W0→rs.Nodup→(∀ r,r ∈ rs→W0.obj r=some .deferred∧B≤r)→(∀ W',(∀ j o,W0.obj j=some o→o≠.deferred→W'.obj j=some o)→(∀ j,j<B→W'.obj j=W0.obj j)→W'.sz=W0.sz→At W'→AK P fn Q x e [] W')→AK P fn Q x e (rs.map mark) W0 from key rs W ht QB hr hq
 intro rs
 induction rs with
 | nil=>intro W0 ht _ _ hq; exact hq W0 (fun j o h _=>h) (fun j _=>rfl) rfl ht
 | cons r rs ih =>
  intro W0 ht QB hr hq; obtain ⟨H6,OP⟩:=hr r (by simp); obtain ⟨R3,P0⟩:=List.nodup_cons.1 QB
  refine KA H6 (ih (W0.A4 r .dead) (ht.A4 (ht _ _ H6) (DM.of _ _ _)) P0 (fun r' h'=>?_) fun W' h1 h2 h3 h4=>hq W' (fun j o hj ho=>?_) (fun j hj=>?_) h3 h4)
  ·obtain ⟨a,b⟩:=hr r' (by simp [h']); exact ⟨by rw [FW,if_neg (by rintro rfl; exact R3 h')]; exact a,b⟩
  ·refine h1 j o ?_ ho
   rw [FW,if_neg]
   ·exact hj
   ·rintro rfl; rw [H6] at hj; cases hj; exact ho rfl
  ·rw [h2 j hj,FW,if_neg (by omega)]
theorem Marks.Dd {B:Nat} {W W':CW} {ds:List Deferred} (h:Marks B W ds) (ho:∀ j,W.obj j=some .deferred→B≤j→W'.obj j=some .deferred):Marks B W' ds:=by
 obtain ⟨rs,h1,h2,h3⟩:=h; exact ⟨rs,h1,h2,fun r hr=>⟨ho r (h3 r hr).1 (h3 r hr).2,(h3 r hr).2⟩⟩
theorem Marks.push {B:Nat} {W:CW} {ds:List Deferred} {r:Nat} (h:Marks B W ds) (hr:W.obj r=some .deferred) (hB:B≤r) (hn:mark r ∉ ds):Marks B W (mark r::ds):=by
 obtain ⟨rs,rfl,h2,h3⟩:=h; refine ⟨r::rs,rfl,List.nodup_cons.2 ⟨fun hm=>hn (List.mem_map.2 ⟨r,hm,rfl⟩),h2⟩,fun r' H5=>?_⟩
 rcases List.mem_cons.1 H5 with rfl | hm
 ·exact ⟨hr,hB⟩
 ·exact h3 r' hm
def EF (b:List UInt8) (c:List Af) (ts:List ByteArray) (many:Nat):Nat→Nat→Nat→Nat→Nat→List BR→Except Int (List BR × Nat × Nat × Nat)
 | 0,_,at_,used,fd,out=>.ok (out,used,fd,at_)
 | m+1,i,at_,used,fd,out=>if i<fd then
   (match Eo b at_ (min (used:Int) ((ts.length:Int)-1)) with
   | .error e=>.error e
   | .ok (t,a1)=>match ts[t]? with
    | none=>.error 4
    | some ty=>match BC c ty with
     | none=>.error 4
     | some ix=>match (if elemAt c ix≠0 then Eo b a1 200 else .ok ((Ai c ix).length,a1)) with
      | .error e=>.error e
      | .ok (n,a2)=>match E8 b c ix many n 0 a2 fd [] with
       | .error e=>.error e
       | .ok (vs,F3,a3)=>EF b c ts many m (i+1) a3 (if t=used then used+1 else used) F3 (out++[⟨ty,vs⟩]))
  else .error 4
def Bn (b:List UInt8) (c:List Af) (ask:ByteArray→Option Int) (at_:Nat):Except Int (List BR × Nat):=match Ia b ask at_ with
 | .error e=>.error e
 | .ok (ts,a1)=>match Eo b a1 1000 with
  | .error e=>.error e
  | .ok (many,a2)=>match EF b c ts many many 0 a2 0 (min many 1) [] with
   | .error e=>.error e
   | .ok (out,used,fd,a3)=>if fd=many∧used=ts.length∧a3=b.length then .ok (out,a3) else .error 4
def DJ (p:BR × Value):List Value:=[.string p.1.type,p.2]
def ACt (B:Nat) (W:CW) (ps:List (BR × Value)):Prop:=∀ p,p ∈ ps→∃ bv,p.2=.slice (some ⟨bv,0,none⟩) p.1.AJ.length p.1.AJ.length∧Aw W bv 3 (Bz p.1.AJ)∧B≤bv
structure EG (B:Nat) (W:CW) (v:Value) (ps:List (BR × Value)):Prop where
 own:DN W 56 2 v (ps.flatMap DJ)
 new:Bw B v
 pv:ACt B W ps
 nd:(ps.map (·.2)).Nodup
theorem EG.of {B:Nat} {W W':CW} {v:Value} {ps:List (BR × Value)} (h:EG B W v ps) (ho:∀ j o,B≤j→W.obj j=some o→o≠.deferred→W'.obj j=some o):EG B W' v ps:=by
 refine ⟨VZ h.own fun j hj=>?_,h.new,fun p hp=>?_,h.nd⟩
 ·obtain ⟨c,n,z,RC,_⟩:=Dh h.own hj; rw [RC]; exact ho j _ (h.new.in hj) RC (by simp)
 ·obtain ⟨bv,h1,hB,h3⟩:=h.pv p hp; refine ⟨bv,h1,?_,h3⟩; obtain ⟨c,n,z,RC,hx⟩:=hB; exact ⟨c,n,z,ho bv _ h3 RC (by simp),hx⟩
end Go.Ce
namespace Go.Ce
open Go Go.Proofs Go.Proofs.Tryz
structure TP where
 A:CW
 L:CW
 rb:Nat
 b3:Nat
 b4:Nat
 b8:Nat
 CF:Nat
 r1:Nat
 r2:Nat
 vb:Value
 vt:Value
 b:List UInt8
 c:List Af
 ts:List ByteArray
 many:Nat
 G:Except Int (List BR × Nat × Nat × Nat)
structure rQ (p:TP):Prop where
 rd:ZU p.A p.vb p.b
 cat:DW p.A p.r1 p.r2 p.c
 ok:BN p.c=true
 C:Qz p.c
 top:At p.L
 kA:Kp p.A p.L
 c3:Aw p.L p.b3 124 [.pointer (some ⟨p.rb,0,none⟩)]
 c4:Aw p.L p.b4 78 [.map (some p.r1),.map (some p.r2)]
 c8:Aw p.L p.b8 3 [.int .i64 p.many]
 vt:DN p.L 9 1 p.vt (strs p.ts)
 tl:p.ts.length≤100
 known:∀ s,s ∈ p.ts→(BC p.c s).isSome=true
 xr:∃ v,Aw p.L p.rb 170 v
 xf:∃ v,Aw p.L p.CF 3 v
 jK:p.A.sz≤p.rb∧p.A.sz≤p.CF
 ne:p.b8≠p.CF
 many:p.many≤1000
def S2 (rb CF j:Nat):Prop:=j=rb∨j=CF
structure TJ (p:TP) (W:CW) (at_ fd:Nat) (vo:Value) (ps:List (BR × Value)) (ds:List Deferred):Prop where
 Dd:Bl (S2 p.rb p.CF) p.L W
 rd:Rd p.A W p.rb p.vb at_
 f:Aw W p.CF 3 [.int .i64 fd]
 heap:EG p.L.sz W vo ps
 marks:Marks p.L.sz W ds
structure TE (p:TP) (e:Env) (i used:Nat) (vo:Value):Prop where
 e3:e 3=.pointer (some ⟨p.b3,0,none⟩)
 e4:e 4=.pointer (some ⟨p.b4,0,none⟩)
 e7:e 7=p.vt
 e8:e 8=.pointer (some ⟨p.b8,0,none⟩)
 e9:e 9=.int .i64 used
 UC:e 10=.pointer (some ⟨p.CF,0,none⟩)
 OQ:e 11=vo
 pQ:e 26=.int .i64 p.many
 vh:e 27=.int .i64 i
def TP.J (p:TP) (i:Nat) (e:Env) (ds:List Deferred) (W:CW):Prop:=∃ at_ fd used vo ps,TJ p W at_ fd vo ps ds∧TE p e i used vo∧at_≤p.b.length∧fd≤1000∧used≤p.ts.length∧ps.length=i∧p.G=EF p.b p.c p.ts p.many (p.many-i) i at_ used fd (ps.map (·.1))
section
variable {p:TP} (I:rQ p)
include I
theorem rQ.lts:p.rb<p.L.sz∧p.CF<p.L.sz:=by
 obtain ⟨_,h1⟩:=I.xr; obtain ⟨_,h2⟩:=I.xf; exact ⟨h1.lt I.top,h2.lt I.top⟩
theorem rQ.rne:p.rb≠p.CF:=by
 obtain ⟨_,h1⟩:=I.xr; obtain ⟨_,h2⟩:=I.xf; intro e; rw [e] at h1; have:=Bb h1 h2; cases this
theorem rQ.vi {b:Nat} {el:TypeId} {vs:List Value} (h:Aw p.L b el vs) (h1:el≠170) (h2:el≠3):¬S2 p.rb p.CF b:=by
 obtain ⟨_,k1⟩:=I.xr; obtain ⟨_,k2⟩:=I.xf
 rintro (rfl | rfl)
 ·exact h1 (Bb h k1)
 ·exact h2 (Bb h k2)
theorem rQ.at {W:CW} (h:Bl (S2 p.rb p.CF) p.L W):ld prog 124 (.pointer (some ⟨p.b3,0,none⟩)) W=some (.pointer (some ⟨p.rb,0,none⟩))∧Aw W p.b4 78 [.map (some p.r1),.map (some p.r2)]∧Aw W p.b3 124 [.pointer (some ⟨p.rb,0,none⟩)]∧Aw W p.b8 3 [.int .i64 p.many]∧DN W 9 1 p.vt (strs p.ts):=by
 have h3:=h.G1 I.top (I.vi I.c3 (by decide) (by decide)) I.c3; refine ⟨AD vZ (a:=⟨p.b3,0,none⟩) (h3.cell rfl),h.G1 I.top (I.vi I.c4 (by decide) (by decide)) I.c4,h3,h.G1 I.top ?_ I.c8,h.own I.top I.vt fun j hj=>I.vi (Dh I.vt hj) (by decide) (by decide)⟩
 rintro (e | e)
 ·obtain ⟨_,k1⟩:=I.xr; have h8:=I.c8; rw [e] at h8; have:=Bb h8 k1; cases this
 ·exact I.ne e
theorem TJ.step {W W':CW} {at_ fd DX:Nat} {vo:Value} {ps:List (BR × Value)} {ds:List Deferred} (J:TJ p W at_ fd vo ps ds) (hc:Bl (Ug p.rb) W W') (hr:Rd p.A W' p.rb p.vb DX):TJ p W' DX fd vo ps ds:=by
 have hl:=I.lts; have hs:=J.Dd.sz; have RC:∀ j o,W.obj j=some o→j≠p.rb→W'.obj j=some o:=fun j o hj Dp=>by rw [hc.obj j (J.rd.top _ _ hj) Dp]; exact hj
 exact ⟨J.Dd.then hc fun j _ h=>.inl h,hr,J.f.congr (hc.obj _ (by omega) (Ne.symm I.rne)),J.heap.of fun j o hB hj _=>RC j o hj (by omega),J.marks.Dd fun j hj hB=>RC j _ hj (by omega)⟩
end
end Go.Ce
namespace Go.Ce
open Go Go.Proofs Go.Proofs.Tryz
theorem vj:(prog.info? 56).map (·.bytes)=some 40:=by kernel_rfl
theorem AAi (s:ByteArray) (a:Addr) (n m:Nat) (W:CW):WX prog 24 1 [(0,.agg [.string s,.slice (some a) n m].toArray)] W=some (.slice (some ⟨W.sz,0,none⟩) 1 1,W.new (.cells (Tr.nil.AZ 0 [.string s,.slice (some a) n m]) [Value.string s,.slice (some a) n m].length #[] 56)):=by kernel_rfl
theorem ACu:DC prog 40=some 1:=by kernel_rfl
theorem mW (n:Nat):Is n []=List.replicate n (.int .i64 0):=by
 unfold Is Bz; simp
theorem mX {n:Nat} {vs:List Int} (h:vs.length=n):Is n vs=Bz vs:=by
 unfold Is; rw [h,Nat.sub_self]; simp
theorem DH:∀ ps:List (BR × Value),(ps.flatMap DJ).length=ps.length*2
 | []=>rfl
 | q::ps=>by
  have ih:=DH ps; simp only [List.flatMap_cons,List.length_append,ih,List.length_cons,DJ,List.length_nil]; omega
theorem ZX {a b:Nat} (h:mark a=mark b):a=b:=by
 unfold mark at h
 injection h with h1 h2
 injection h1
theorem dB {p:TP} (I:rQ p) {K:AG} {W:CW} {e:Env} {ds:List Deferred} {i n ix Rr at_ fd used m:Nat} {vo:Value} {ps:List (BR × Value)} {ty:ByteArray} (J:TJ p W at_ fd vo ps ds) (E:TE p e i used vo)
  (nm:e 14=.pointer (some ⟨Rr,0,none⟩)) (pf:e 15=.int .i64 n) (hx:Aw W Rr 56 [.string ty,.slice none 0 0]) (p9:p.L.sz≤Rr) (Dp:∀ j,C2 vo j→j≠Rr) (OA:BC p.c ty=some ix) (JP:elemAt p.c ix=0→n≤(Ai p.c ix).length) (hn:n≤20100) (Xo:at_≤p.b.length) (jg:fd≤1000) (hi:i<1000)
  (hlen:ps.length=i)
  (hG:p.G=match E8 p.b p.c ix p.many n 0 at_ fd [] with | .error e=>.error e | .ok (vs,F3,a3)=>EF p.b p.c p.ts p.many m (i+1) a3 used F3 (ps.map (·.1)++[⟨ty,vs⟩]))
  (GN:∀ e' C_ W' x,Marks p.L.sz W' C_→Bl (S2 p.rb p.CF) p.L W'→At W'→p.G=.error x→K (.panic (C6 x)) e' C_ W')
  (Ae:∀ e' C_ W' DX F3 cu q,TJ p W' DX F3 cu (ps++[q]) C_→TE p e' (i+1) used cu→DX≤p.b.length→F3≤1000→p.G=EF p.b p.c p.ts p.many m (i+1) DX used F3 ((ps++[q]).map (·.1))→K .normal e' C_ W') :
  (Js none K) .normal e ds W:=by
 obtain ⟨YT,L8⟩:=I.lts; have hs:=J.Dd.sz; simp only [Js,Bs]; rw [pf,nm]; refine q5 Iw s3 z3 rfl zO (by omega) (n:=n) (by omega) J.rd.top fun W1 k1 t1 z1 mL=>?_; simp only [Dg,AA]; have Xg:=hx.ext J.rd.top k1; refine Ak ACu (a:=⟨Rr,0+1,none⟩) (v:=.slice (some ⟨W.sz,0,none⟩) n n) rfl Xg (by simp) fun W2 hu HD=>?_; have hu:DM Rr W1 W2:=hu; have HD:Aw W2 Rr 56 [.string ty,.slice (some ⟨W.sz,0,none⟩) n n]:=by simpa [putAt] using HD
 have AEB:=hx.lt J.rd.top; have t2:=t1.A4 (Xg.lt t1) hu; have Ni:∀ j,j<W.sz→j≠Rr→W2.obj j=W.obj j:=fun j hj Dp=>by rw [hu.obj j Dp,k1.obj j hj]
 have jN:Bl (S2 p.rb p.CF) p.L W2:=⟨by rw [hu.sz]; have:=k1.sz; omega,fun j hj hS=>by rw [Ni j (by omega) (by omega)]; exact J.Dd.obj j hj hS⟩
 have OP:Rd p.A W2 p.rb p.vb at_:=⟨(J.rd.kp.trans k1).A4 (by have:=I.kA.sz; omega) hu,t2,J.rd.hb,J.rd.G1.congr (Ni _ (by omega) (by omega))⟩
 have ACv:Aw W2 W.sz 3 (Is n []):=by
  rw [mW]; exact mL.congr (hu.obj _ (by omega))
 have J2:TJ p W2 at_ fd vo ps ds:=by
  refine ⟨jN,OP,J.f.congr (Ni _ (by omega) (by omega)),⟨VZ J.heap.own fun j hj=>Ni j (VL J.rd.top J.heap.own hj) (Dp j hj),J.heap.new,fun q hq=>?_,J.heap.nd⟩,J.marks.Dd fun j hj hB=>?_⟩
  ·obtain ⟨bv,h1,h2,h3⟩:=J.heap.pv q hq; exact ⟨bv,h1,h2.congr (Ni _ (h2.lt J.rd.top) (by rintro rfl; have:=Bb h2 hx; cases this)),h3⟩
  ·rw [Ni j (J.rd.top _ _ hj) (by
    rintro rfl; obtain ⟨c,nn,z,ho,_⟩:=hx
    rw [ho] at hj; cases hj)]
   exact hj
 obtain ⟨l3,B4,B3,B8,BT⟩:=I.at jN; rw [E.e4,MH B4,Bd (vs:=[.string ty,.slice (some ⟨W.sz,0,none⟩) n n]) (a:=⟨Rr,0,none⟩) Yr Io rfl (by omega) HD.cells]; simp only [AA]; refine (LO (r1:=p.r1) (r2:=p.r2) (ty:=ty) (vx:=.slice (some ⟨W.sz,0,none⟩) n n) t2).mono fun en W3 ⟨k3,t3,bk,bx,GI,dn,xV,cl,cn⟩=>?_; subst GI; refine Ad ?_; have z2:W.sz<W2.sz:=by rw [hu.sz,z1]; omega
 have hs3:=k3.sz; have J3:TJ p W3 at_ fd vo ps ds:=J2.step I k3.rd (OP.VU k3 t3); have hC3:=J3.Dd; obtain ⟨l3',B4',B3',B8',BT'⟩:=I.at hC3; have AAj:Aw W3 Rr 56 [.string ty,.slice (some ⟨W.sz,0,none⟩) n n]:=HD.ext t2 k3; have p_:Aw W3 W.sz 3 (Is n []):=ACv.ext t2 k3; have V:VIn p.A W3 p.rb p.b3 p.b8 p.CF Rr W.sz n p.many ty:=⟨t3,B3',B8',AAj,⟨I.jK.1,I.jK.2,by have:=I.kA.sz; omega⟩,⟨I.ne,by have:=I.c8.lt I.top; omega,by omega⟩,I.many⟩
 have nS:∀ j,W3.sz≤j→¬S3 p.rb p.CF W.sz j:=by
  rintro j hj (rfl | rfl | rfl) <;> omega
 have mk:∀ W',Bl (S3 p.rb p.CF W.sz) W3 W'→W'.obj W3.sz=some .deferred→(∀ j o,W.obj j=some o→p.L.sz≤j→j≠Rr→W'.obj j=some o)∧Marks p.L.sz W' (mark W3.sz::ds)∧Bl (S2 p.rb p.CF) p.L W':=by
  intro W' hc hd
  have RC:∀ j o,W.obj j=some o→p.L.sz≤j→j≠Rr→W'.obj j=some o:=by
   intro j o hj hB ACw; have TG:=J.rd.top _ _ hj; rw [hc.obj j (by omega) (by rintro (rfl | rfl | rfl) <;> omega),k3.obj j (by omega),Ni j TG ACw]; exact hj
  refine ⟨RC,Marks.push (J.marks.Dd fun j hj hB=>?_) hd (by omega) fun hm=>?_,⟨by have:=hc.sz; omega,fun j hj hS=>by rw [hc.obj j (by omega) (by rintro (e | e | e); exact hS (.inl e); exact hS (.inr e); omega)]; exact hC3.obj j hj hS⟩⟩
  ·exact RC j _ hj hB (by
    rintro rfl; obtain ⟨c,nn,z,ho,_⟩:=hx
    rw [ho] at hj; cases hj)
  ·obtain ⟨rs,T',_,hr⟩:=J.marks; rw [T'] at hm; obtain ⟨r,H6,OP⟩:=List.mem_map.1 hm; have:=ZX OP; subst this; have:=J.rd.top _ _ (hr _ H6).1; omega
 have fin:∀ (W':CW) DX F3 vs,VJ p.A W3 p.rb p.CF W.sz n p.vb W' DX F3 vs→W'.obj W3.sz=some .deferred→vs.length=n→TJ p W' DX F3 vo ps (mark W3.sz::ds)∧Aw W' W.sz 3 (Bz vs)∧Aw W' Rr 56 [.string ty,.slice (some ⟨W.sz,0,none⟩) n n]:=by
  intro W' DX F3 vs hv hd fE; obtain ⟨RC,oT,hcL⟩:=mk W' hv.Dd hd
  refine ⟨⟨hcL,hv.rd,hv.f,⟨VZ J.heap.own fun j hj=>?_,J.heap.new,fun q hq=>?_,J.heap.nd⟩,oT⟩,?_,?_⟩
  ·obtain ⟨c,nn,z,ho,_⟩:=Dh J.heap.own hj; rw [ho]; exact RC j _ ho (J.heap.new.in hj) (Dp j hj)
  ·obtain ⟨bv,h1,h2,h3⟩:=J.heap.pv q hq; refine ⟨bv,h1,?_,h3⟩; obtain ⟨c,nn,z,ho,JI⟩:=h2
   exact ⟨c,nn,z,RC bv _ ho h3 (by
    rintro rfl
    have:=Bb (⟨c,nn,z,ho,JI⟩:Aw W bv 3 _) hx; cases this),JI⟩
  ·rw [←mX fE]; exact hv.v
  ·refine AAj.congr (hv.Dd.obj _ (by omega) ?_); rintro (e | e | e) <;> omega
 have xr3:=J3.rd.G1; have xf3:=J3.f
 refine mT (bk:=bk) (bx:=bx) (r1:=p.r1) (r2:=p.r2) (n:=n) (ix:=ix) (c:=p.c) (ty:=ty) t3 rfl OA (by omega) JP (fun ro e0 ds K W=>tO ro e0 ds K W) ⟨by decide,by decide⟩
  (fun j W'=>W'.obj W3.sz=some .deferred∧W3.sz+2≤W'.sz∧∃ DX F3 vs,VJ p.A W3 p.rb p.CF W.sz n p.vb W' DX F3 vs∧DX≤p.b.length∧F3≤1000∧vs.length=j∧E8 p.b p.c ix p.many n 0 at_ fd []=E8 p.b p.c ix p.many (n-j) j DX F3 vs)
  (fun ch W'=>W'.obj W3.sz=some .deferred∧∃ x,ch=C6 x∧Bl (S3 p.rb p.CF W.sz) W3 W'∧At W'∧E8 p.b p.c ix p.many n 0 at_ fd []=.error x)
  ?_ ?_ ?_ ?_ ?_ ?_
 ·rintro j W' ⟨_,_,DX,F3,vs,hv,_⟩; have hk:=hv.Dd.G1 t3 (XR cl xr3 xf3 p_ (by decide) (by decide)) cl; have sK:=hv.Dd.G1 t3 (XR cn xr3 xf3 p_ (by decide) (by decide)) cn; exact ⟨hk.cell rfl,hk.cell rfl,I.cat.kp I.rd.top hv.rd.kp,sK.cell rfl,_,_,sK.cell rfl⟩
 ·rintro j j7 W2' ⟨hd,HV,DX,F3,vs,hv,h1,h2,h3,h4⟩ qA _; refine ⟨by rw [qA.obj _ (by omega)]; exact hd,by rw [qA.sz]; exact HV,DX,F3,vs,⟨⟨by rw [qA.sz]; exact hv.Dd.sz,fun j hj hS=>by rw [qA.obj j (by omega)]; exact hv.Dd.obj j hj hS⟩,⟨hv.rd.kp.A4 (by have:=I.kA.sz; omega) qA,hv.rd.top.A4 (by omega) qA,hv.rd.hb,hv.rd.G1.congr (qA.obj _ (by omega))⟩,hv.f.congr (qA.obj _ (by omega)),hv.v.congr (qA.obj _ (by omega))⟩,h1,h2,h3,h4⟩
 ·rintro W4 k4 t4 z4 hd4; exact ⟨hd4,by omega,at_,fd,[],⟨Bl.FN k4,J3.rd.VU k4 t4,xf3.ext t3 k4,p_.ext t3 k4⟩,Xo,jg,rfl,rfl⟩
 ·rintro j W1 Kb E' hE CZ p6 hj ⟨hd,HV,DX,F3,vs,hv,qB,qC,fE,QS⟩ hlo AAk AAl
  refine mV (m:=n-j-1) (G:=E8 p.b p.c ix p.many n 0 at_ fd []) I.rd V xr3 xf3 p_ hv qB fE hj qC ((hE 3 (by decide) (by decide) (by decide) (by decide)).trans (by simp only [Aa,Av,Nat.reduceEqDiff,↓reduceIte,E.e3])) ((hE 8 (by decide) (by decide) (by decide) (by decide)).trans (by simp only [Aa,Av,Nat.reduceEqDiff,↓reduceIte,E.e8])) ((hE 10 (by decide) (by decide) (by decide) (by decide)).trans (by simp only [Aa,Av,Nat.reduceEqDiff,↓reduceIte,E.UC])) ((hE 14 (by decide) (by decide) (by decide) (by decide)).trans (by simp only [Aa,Av,Nat.reduceEqDiff,↓reduceIte,nm])) CZ p6 (by rw [QS,Nat.sub_add_cancel (show 1≤n-j by omega)]) (fun e' W' ACx ACy ACz xY F7 AC0 AC1 AC2 AC3=>?_) (fun e' W' x xY WM ht' JI=>?_)
  ·have:=xY.sz; exact AAk e' [] W' (xY.obj _ (by omega) (nS _ (by omega))) ⟨by rw [xY.obj _ (by omega) (nS _ (by omega))]; exact hd,by omega,ACx,ACy,ACz,F7,AC0,AC1,AC2,by rw [AC3,show n-j-1=n-(j+1) by omega]⟩
  ·exact AAl _ e' W' (xY.obj _ (by omega) (nS _ (by omega))) ⟨by rw [xY.obj _ (by omega) (nS _ (by omega))]; exact hd,x,rfl,WM,ht',JI⟩
 ·rintro W' ⟨hd,HV,DX,F3,vs,hv,qB,qC,fE,QS⟩; rw [Nat.sub_self] at QS; obtain ⟨JF,mY,AC4⟩:=fin W' DX F3 vs hv hd fE; have QS:E8 p.b p.c ix p.many n 0 at_ fd []=.ok (vs,F3,DX):=QS; rw [QS] at hG; simp only [RL,Bs,qu]; simp only [Aa,Av,Nat.reduceEqDiff,↓reduceIte,nm,E.OQ]; rw [Bd (vs:=[.string ty,.slice (some ⟨W.sz,0,none⟩) n n]) (a:=⟨Rr,0,none⟩) Yr Io rfl (by omega) AC4.cells]; simp only [AA]; have Hm:=DH ps; refine Nv L4 Io q7 rfl (by omega) vj (by omega) (AAi _ _ _ _) rfl rfl hv.rd.top JF.heap.own (by rw [Hm]; omega) fun u Wa oH QF ka ta KG t10 o10 n10=>?_; have AEC:=KG.sz; have hzv:=hv.Dd.sz; have hpo:∀ j o,W'.obj j=some o→¬C2 vo j→QF.obj j=some o:=fun j o hj hS=>by rw [KG.Dd.obj j (hv.rd.top _ _ hj) hS]; exact hj
  have hnS:∀ j,j<p.L.sz→¬C2 vo j:=fun j hj hi=>by have:=J.heap.new.in hi; omega
  have hnB:∀ {j:Nat} {el:TypeId} {ws:List Value},Aw W' j el ws→el≠56→¬C2 vo j:=fun hB he hi=>he (Bb hB (Dh JF.heap.own hi))
  have mZ:∀ {j:Nat} {ws:List Value},Aw W' j 3 ws→Aw QF j 3 ws:=fun {j ws} hB=>by
   obtain ⟨c,nn,z,ho,JI⟩:=hB; exact ⟨c,nn,z,hpo j _ ho (hnB (⟨c,nn,z,ho,JI⟩:Aw W' j 3 ws) (by decide)),JI⟩
  simp only [GB,Bs]; simp only [Aa,Av,Nat.reduceEqDiff,↓reduceIte,E.vh,Ap,AA]
  refine Ae _ _ QF DX F3 oH (⟨ty,vs⟩,.slice (some ⟨W.sz,0,none⟩) n n) ⟨?_,⟨?_,t10,hv.rd.hb,?_⟩,mZ hv.f,⟨?_,n10 _ (by omega),fun q hq=>?_,?_⟩,JF.marks.Dd fun j hj hB=>?_⟩ ⟨?_,?_,?_,?_,?_,?_,?_,?_,?_⟩ qB qC ?_
  ·exact JF.Dd.then KG.Dd fun j hj hi=>(hnS j hj hi).elim
  ·exact KG.kp hv.rd.kp fun b' l' c' e'=>by have:=J.heap.new b' l' c' e'; have:=I.kA.sz; omega
  ·exact hv.rd.G1.congr (KG.Dd.obj _ (by omega) (hnS _ YT))
  ·rw [List.flatMap_append]
   simpa [DJ] using o10
  ·rcases List.mem_append.1 hq with hq | hq
   ·obtain ⟨bv,h1,h2,h3⟩:=JF.heap.pv q hq; exact ⟨bv,h1,mZ h2,h3⟩
   ·cases List.mem_singleton.1 hq
    exact ⟨W.sz,by rw [←fE],mZ mY,by omega⟩
  ·rw [List.map_append,List.nodup_append]; refine ⟨JF.heap.nd,List.pairwise_singleton _ _,fun x hx y hy=>?_⟩; rw [List.mem_singleton.1 hy]; rintro rfl; obtain ⟨q,hq,he⟩:=List.mem_map.1 hx; obtain ⟨bv,h1,h2,_⟩:=J.heap.pv q hq; have h3:=h2.lt J.rd.top; rw [h1] at he
   cases he
   omega
  ·refine hpo j _ hj fun hi=>?_; obtain ⟨c,nn,z,ho,_⟩:=Dh JF.heap.own hi; rw [ho] at hj; cases hj
  ·simp only [Aa,Av,Nat.reduceEqDiff,↓reduceIte,E.e3]
  ·simp only [Aa,Av,Nat.reduceEqDiff,↓reduceIte,E.e4]
  ·simp only [Aa,Av,Nat.reduceEqDiff,↓reduceIte,E.e7]
  ·simp only [Aa,Av,Nat.reduceEqDiff,↓reduceIte,E.e8]
  ·simp only [Aa,Av,Nat.reduceEqDiff,↓reduceIte,E.e9]
  ·simp only [Aa,Av,Nat.reduceEqDiff,↓reduceIte,E.UC]
  ·first | rfl | (simp only [Aa,Av,xM,Nat.reduceEqDiff,↓reduceIte,xN,zM,oy,and_self])
  ·simp only [Aa,Av,Nat.reduceEqDiff,↓reduceIte,E.pQ]
  ·rw [Dv (by omega)]; rfl
  ·rw [hG,List.map_append]; rfl
 ·rintro ch W' ⟨hd,x,rfl,hc,ht',JI⟩; obtain ⟨_,oT,hcL⟩:=mk W' hc hd; simp only [RL,GB,Bs,VE,jI]; exact GN _ _ W' x oT hcL ht' (by rw [hG,JI])
end Go.Ce
namespace Go.Ce
open Go Go.Proofs Go.Proofs.Tryz
theorem vk (s:ByteArray):RE prog 56 [(0,.string s)]=some (.agg [.string s,.slice none 0 0].toArray):=by kernel_rfl
theorem AC5:DC prog 124=some 1:=by kernel_rfl
theorem fF {c:List Af} (C:Qz c) (i:Nat):(Ai c i).length≤20100:=by
 unfold Ai; rw [List.length_map]; exact LH C.len C.fields i
theorem Va {b:List UInt8} {ask:ByteArray→Option Int}:∀ {k at_:Nat} {out ts:List ByteArray} {a:Nat},IZ b ask k at_ out=.ok (ts,a)→at_≤b.length→(∀ s,s ∈ ts→s ∈ out∨ask s=none)∧ts.length=k+out.length∧a≤b.length
 | 0,at_,out,ts,a,h,ha=>by cases h; exact ⟨fun s hs=>.inl hs,by omega,ha⟩
 | k+1,at_,out,ts,a,h,ha=>by
  unfold IZ at h
  split at h
  ·cases h
  ·rename_i n a1 hn
   split at h
   ·cases h
   ·rename_i a2 ht
    split at h
    ·split at h
     ·cases h
     ·rename_i cz; obtain ⟨h1,h2,h3⟩:=Va h (TV ht).2; refine ⟨fun s hs=>?_,by rw [h2]; simp; omega,h3⟩
      rcases h1 s hs with h | h
      ·rcases List.mem_append.1 h with h | h
       ·exact .inl h
       ·rw [List.mem_singleton.1 h]; exact .inr cz
      ·exact .inr h
    ·cases h
theorem iA {b:List UInt8} {ask:ByteArray→Option Int} {at_:Nat} {ts:List ByteArray} {a:Nat} (h:Ia b ask at_=.ok (ts,a)):(∀ s,s ∈ ts→ask s=none)∧ts.length≤100∧a≤b.length:=by
 unfold Ia at h
 split at h
 ·cases h
 ·split at h
  ·split at h
   ·cases h
   ·rename_i k a2 hn; obtain ⟨h1,h2,h3⟩:=Ey hn; obtain ⟨h4,h5,h6⟩:=Va h h3; refine ⟨fun s hs=>?_,by simp at h5; omega,h6⟩
    rcases h4 s hs with h | h
    ·cases h
    ·exact h
  ·cases h
theorem ma {p:TP} (I:rQ p) {K:AG} {e:Env} {W:CW} (h0:p.J 0 e [] W)
  (GN:∀ e' C_ W' x,Marks p.L.sz W' C_→Bl (S2 p.rb p.CF) p.L W'→At W'→p.G=.error x→K (.panic (C6 x)) e' C_ W')
  (EA:∀ e' C_ W',p.J p.many e' C_ W'→K (.exit 0) e' C_ W'):C1 prog AT none 74 140 (.loop (Ag prog 74 0)) e [] W K:=by
 obtain ⟨YT,L8⟩:=I.lts; have rP:=I.many; refine Du p.J p.many h0 ?_; rintro i e ds W hi ⟨at_,fd,used,vo,ps,J,E,Xo,jg,hus,hlen,hG⟩; rw [tN,E.vh,E.pQ]; simp only [A6,AA]; refine Gx (fun Ax=>?_) (fun NW=>?_)
 rotate_left
 ·have:i=p.many:=by omega
  subst this; simp only [ON]; exact EA _ ds W ⟨at_,fd,used,vo,ps,J,⟨by simp only [Aa,Av,Nat.reduceEqDiff,↓reduceIte,E.e3],by simp only [Aa,Av,Nat.reduceEqDiff,↓reduceIte,E.e4],by simp only [Aa,Av,Nat.reduceEqDiff,↓reduceIte,E.e7],by simp only [Aa,Av,Nat.reduceEqDiff,↓reduceIte,E.e8],by simp only [Aa,Av,Nat.reduceEqDiff,↓reduceIte,E.e9],by simp only [Aa,Av,Nat.reduceEqDiff,↓reduceIte,E.UC],by simp only [Aa,Av,Nat.reduceEqDiff,↓reduceIte,E.OQ],by simp only [Aa,Av,Nat.reduceEqDiff,↓reduceIte,E.pQ],by simp only [Aa,Av,Nat.reduceEqDiff,↓reduceIte,E.vh]⟩,Xo,jg,hus,hlen,hG⟩
 ·obtain ⟨m,hm⟩:∃ m,p.many-i=m+1:=⟨p.many-i-1,by omega⟩
  rw [hm,EF] at hG; have pan:∀ e' W' x,Marks p.L.sz W' ds→Bl (S2 p.rb p.CF) p.L W'→At W'→p.G=.error x→(J5 p.J i p.many K) (.panic (C6 x)) e' ds W':=fun e' W' x h1 h2 h3 h4=>GN e' ds W' x h1 h2 h3 h4; obtain ⟨l3,B4,B3,B8,BT⟩:=I.at J.Dd; have l10:ld prog 3 (.pointer (some ⟨p.CF,0,none⟩)) W=some (.int .i64 fd):=AD a3 (a:=⟨p.CF,0,none⟩) (J.f.cell rfl); rw [E.UC,l10]; simp only [A6,AA]; refine GH (fun hb=>?_) (fun hb=>?_)
  rotate_left
  ·have hb:¬i<fd:=by have:=of_decide_eq_false hb; omega
   rw [if_neg hb] at hG; simp only [GB,VE,HC,nh]; exact GN _ ds W 4 J.marks J.Dd J.rd.top hG
  have hb:i<fd:=by have:=of_decide_eq_true hb; omega
  rw [if_pos hb] at hG; rw [E.e3,l3,E.e7,Nu xO BT,S_]; simp only [GD,AA]; have o9:=I.tl; rw [wrap64 (by omega) (by omega),E.e9]; refine GC (fD _ _ W) ?_; refine (IY I.rd J.rd Xo).mono fun en W1 ⟨Rq,t1,hp⟩=>?_
  cases hn:Eo p.b at_ (min (used:Int) ((p.ts.length:Int)-1)) with
  | error x =>
   rw [hn] at hp hG; have hp:en=.panicked (C6 x):=hp; subst hp; refine Dm ?_; simp only [GB,VE,HC,nh]; refine GN _ ds W1 x (J.marks.Dd fun j hj hB=>?_) (J.Dd.then Rq fun j _ h=>.inl h) t1 hG; rw [Rq.obj j (J.rd.top _ _ hj) (fun h=>by have h:j=p.rb:=h; omega)]; exact hj
  | ok r =>
   obtain ⟨t,a1⟩:=r; rw [hn] at hp hG; obtain ⟨v,rfl,rfl,H6⟩:=hp; obtain ⟨htm,_,CZ⟩:=Ey hn; have vn:t<p.ts.length:=by omega
   have Z8:t≤used:=by omega
   refine Ad ?_; have J1:TJ p W1 a1 fd vo ps ds:=J.step I Rq H6; obtain ⟨l3',B4',B3',B8',BT'⟩:=I.at J1.Dd; simp only at hG; have Q0:=List.getElem?_eq_getElem vn; rw [Q0] at hG; simp only at hG; obtain ⟨ix,OA⟩:=Option.isSome_iff_exists.1 (I.known _ (List.getElem_mem vn)); rw [OA] at hG; simp only at hG; generalize so:p.ts[t]=ty at hG OA
   have k36:∀ (e1:Env) (JQ:Nat),TE p e1 i JQ vo→e1 13=.int .i64 t→JQ=(if t=used then used+1 else used)→(RM none (J5 p.J i p.many K)) .normal e1 ds W1:=by
    intro e1 JQ E1 h13 Xd; rw [←Xd] at hG; have AAm:JQ≤p.ts.length:=by rw [Xd]; split <;> omega
    simp only [RM,Bs]; obtain ⟨ao,co,hvt,rM⟩:=M3 (f:=fun (s:ByteArray)=>Value.string s) BT'; obtain ⟨q,rfl,hq⟩:=rM t _ Q0; rw [so] at hq; rw [E1.e7,h13,hvt,BH xO s9 vn]; simp only [AA]; rw [AD a9 (a:=⟨q.block,q.off+t*1,none⟩) hq]; simp only [AA]; refine A3 (vk _) ?_; refine DG (ws:=[.string ty,.slice none 0 0]) q7 Io rfl rfl rfl t1 fun W2 k2 t2 z2 p9=>?_; have OP:=H6.VU k2 t2; have J2:TJ p W2 a1 fd vo ps ds:=J1.step I k2.rd OP; obtain ⟨ve,AAn,AED,AEE,AEF⟩:=I.at J2.Dd; have AAo:=I.cat.kp I.rd.top OP.kp; obtain ⟨ea,eb,ef,eg,Mp⟩:=AAo.sh.elem OA; obtain ⟨ar,cr,lr,nj⟩:=AAo.rw.some OA; have l9:ld prog 9 (.pointer (some ⟨W1.sz,0,none⟩)) W2=some (.string ty):=AD a9 (a:=⟨W1.sz,0,none⟩) (p9.cell rfl); have l76:ld prog 76 (.pointer (some ⟨p.b4,0+1,none⟩)) W2=some (.map (some p.r2)):=AD rB (a:=⟨p.b4,0+1,none⟩) (AAn.cell rfl); have l75:ld prog 75 (.pointer (some ⟨p.b4,0,none⟩)) W2=some (.map (some p.r1)):=AD pO (a:=⟨p.b4,0,none⟩) (AAn.cell rfl); rw [E1.e4]; simp only [IW,HS,GF,AA,l76,l75,l9,lr,Mp,Ac PR,N6,B_]; have AAp:∀ j,C2 vo j→j≠W1.sz:=fun j hj e=>by have:=VL t1 J1.heap.own hj; omega
    have AC6:p.L.sz≤W1.sz:=J1.Dd.sz
    have go:∀ (e2:Env) (W3:CW) (a2 n:Nat),TJ p W3 a2 fd vo ps ds→TE p e2 i JQ vo→e2 14=.pointer (some ⟨W1.sz,0,none⟩)→e2 15=.int .i64 n→Aw W3 W1.sz 56 [.string ty,.slice none 0 0]→a2≤p.b.length→(elemAt p.c ix=0→n≤(Ai p.c ix).length)→n≤20100 →
      (if elemAt p.c ix≠0 then Eo p.b a1 200 else .ok ((Ai p.c ix).length,a1))=.ok (n,a2)→(Js none (J5 p.J i p.many K)) .normal e2 ds W3:=by
     intro e2 W3 a2 n J3 E2 nm pf Gk p6 JP AC7 AC8; rw [AC8] at hG; refine dB I (m:=m) J3 E2 nm pf Gk AC6 AAp OA JP AC7 p6 jg (by omega) hlen hG (fun e' C_ W' x h1 h2 h3 h4=>GN e' C_ W' x h1 h2 h3 h4) (fun e' C_ W' DX F3 cu q hJ' hE' ha' Z_ hG'=>?_); refine ⟨Ax,DX,F3,JQ,cu,ps++[q],hJ',hE',ha',Z_,AAm,by simp [hlen],?_⟩; rw [hG',show p.many-(i+1)=m by omega]
    refine AL (fun XS=>?_) (fun XS=>?_)
    ·have XS:elemAt p.c ix≠0:=by simpa using XS
     rw [E1.e3,ve]; simp only [AA]; refine (IY (most:=200) I.rd OP CZ).mono fun en W3 ⟨p7,t3,hp⟩=>?_
     cases P0:Eo p.b a1 200 with
     | error x =>
      rw [P0] at hp; have hp:en=.panicked (C6 x):=hp; subst hp; rw [if_pos XS,P0] at hG; refine Dm ?_; simp only [Js,GB,VE,jI,HC,nh]; refine GN _ ds W3 x (J2.marks.Dd fun j hj hB=>?_) (J2.Dd.then p7 fun j _ h=>.inl h) t3 hG; rw [p7.obj j (t2 _ _ hj) (fun h=>by have h:j=p.rb:=h; omega)]; exact hj
     | ok r =>
      obtain ⟨n,a2⟩:=r; rw [P0] at hp; obtain ⟨v,rfl,rfl,hr3⟩:=hp; obtain ⟨ADo,_,p6⟩:=Ey P0; refine Ad ?_; refine go _ W3 a2 n (J2.step I p7 hr3) ⟨by simp only [Aa,Av,Nat.reduceEqDiff,↓reduceIte,E1.e3],by simp only [Aa,Av,Nat.reduceEqDiff,↓reduceIte,E1.e4],by simp only [Aa,Av,Nat.reduceEqDiff,↓reduceIte,E1.e7],by simp only [Aa,Av,Nat.reduceEqDiff,↓reduceIte,E1.e8],by simp only [Aa,Av,Nat.reduceEqDiff,↓reduceIte,E1.e9],by simp only [Aa,Av,Nat.reduceEqDiff,↓reduceIte,E1.UC],by simp only [Aa,Av,Nat.reduceEqDiff,↓reduceIte,E1.OQ],by simp only [Aa,Av,Nat.reduceEqDiff,↓reduceIte,E1.pQ],by simp only [Aa,Av,Nat.reduceEqDiff,↓reduceIte,E1.vh]⟩ (by simp only [Aa,Nat.reduceEqDiff,↓reduceIte]) (by simp only [Aa,↓reduceIte]) (p9.congr (p7.obj _ (by omega) (fun h=>by have h:W1.sz=p.rb:=h; omega))) p6 (fun h=>(XS h).elim) (by omega) (by rw [if_pos XS,P0])
    ·have XS:elemAt p.c ix=0:=by simpa using XS
     refine go _ W2 a1 _ J2 ⟨by simp only [Aa,Av,Nat.reduceEqDiff,↓reduceIte,E1.e3],by simp only [Aa,Av,Nat.reduceEqDiff,↓reduceIte,E1.e4],by simp only [Aa,Av,Nat.reduceEqDiff,↓reduceIte,E1.e7],by simp only [Aa,Av,Nat.reduceEqDiff,↓reduceIte,E1.e8],by simp only [Aa,Av,Nat.reduceEqDiff,↓reduceIte,E1.e9],by simp only [Aa,Av,Nat.reduceEqDiff,↓reduceIte,E1.UC],by simp only [Aa,Av,Nat.reduceEqDiff,↓reduceIte,E1.OQ],by simp only [Aa,Av,Nat.reduceEqDiff,↓reduceIte,E1.pQ],by simp only [Aa,Av,Nat.reduceEqDiff,↓reduceIte,E1.vh]⟩ (by simp only [Aa,Nat.reduceEqDiff,↓reduceIte]) (by simp only [Aa,Nat.reduceEqDiff,↓reduceIte]) p9 CZ (fun _=>Nat.le_refl _) (fF I.C ix) (by rw [if_neg (by simp [XS])])
   refine A3 (Bf _ _ _) ?_
   refine AL (fun hq=>?_) (fun hq=>?_)
   ·have hq:t=used:=by have:=eq_of_beq hq; omega
    simp only [Ap,AA]; refine k36 _ (used+1) ⟨by simp only [Aa,Av,Nat.reduceEqDiff,↓reduceIte,E.e3],by simp only [Aa,Av,Nat.reduceEqDiff,↓reduceIte,E.e4],by simp only [Aa,Av,Nat.reduceEqDiff,↓reduceIte,E.e7],by simp only [Aa,Av,Nat.reduceEqDiff,↓reduceIte,E.e8],?_,by simp only [Aa,Av,Nat.reduceEqDiff,↓reduceIte,E.UC],by simp only [Aa,Av,Nat.reduceEqDiff,↓reduceIte,E.OQ],by simp only [Aa,Av,Nat.reduceEqDiff,↓reduceIte,E.pQ],by simp only [Aa,Av,Nat.reduceEqDiff,↓reduceIte,E.vh]⟩ (by simp only [Aa,Nat.reduceEqDiff,↓reduceIte]) (by rw [if_pos hq]); rw [Dv (by omega)]; rfl
   ·have hq:¬t=used:=by rintro rfl; simp at hq
    exact k36 _ used ⟨by simp only [Aa,Av,Nat.reduceEqDiff,↓reduceIte,E.e3],by simp only [Aa,Av,Nat.reduceEqDiff,↓reduceIte,E.e4],by simp only [Aa,Av,Nat.reduceEqDiff,↓reduceIte,E.e7],by simp only [Aa,Av,Nat.reduceEqDiff,↓reduceIte,E.e8],by simp only [Aa,Av,Nat.reduceEqDiff,↓reduceIte,E.e9],by simp only [Aa,Av,Nat.reduceEqDiff,↓reduceIte,E.UC],by simp only [Aa,Av,Nat.reduceEqDiff,↓reduceIte,E.OQ],by simp only [Aa,Av,Nat.reduceEqDiff,↓reduceIte,E.pQ],by simp only [Aa,Av,Nat.reduceEqDiff,↓reduceIte,E.vh]⟩ (by simp only [Aa,Nat.reduceEqDiff,↓reduceIte]) (by rw [if_neg hq])
end Go.Ce
namespace Go.Ce
open Go Go.Proofs Go.Proofs.Tryz
theorem iB {W W':CW} {v:Value} {ts:List ByteArray} (h:DN W 9 1 v (strs ts)):AY prog 51 v W'=some (.int .i64 ts.length):=by
 rw [Nu xO h,S_]
theorem ZY {A W:CW} {rb at_ r1 r2:Nat} {vb vf:Value} {b:List UInt8} {c:List Af} {ask:ByteArray→Option Int} (I:ZU A vb b) (h:Rd A W rb vb at_) (ha:at_≤b.length) (cz:mR A vf ask) (hak:∀ s,ask s=none→(BC c s).isSome=true) (EY:DW A r1 r2 c) (Ae:BN c=true) (hC:Qz c) :
  AH prog AT 74 [.pointer (some ⟨rb,0,none⟩),IA r1 r2,vf] W (LP A rb vb (fun v xs W'=>∃ ps,ps.map (·.1)=xs∧EG W.sz W' v ps) (Bn b c ask at_) W):=by
 refine zC ?_; rw [y_]; generalize ZV:LP A rb vb (fun v xs W'=>∃ ps,ps.map (·.1)=xs∧EG W.sz W' v ps) (Bn b c ask at_) W=mS; generalize JO:AK prog Tryz.f74 mS=KK; have AEG:=h.G1.lt h.top
 have GN:∀ (e:Env) (ds:List Deferred) W' x,Marks W.sz W' ds→Bl (Ug rb) W W'→At W'→Bn b c ask at_=.error x→KK (.panic (C6 x)) e ds W':=by
  intro e ds W' x hm hc ht hn; rw [←JO]; refine Ib ht hm fun W2 h1 h2 h3 t2=>?_; show mS (.panicked (C6 x)) W2; rw [←ZV]; refine ⟨⟨by rw [h3]; exact hc.sz,fun j hj hS=>by rw [h2 j hj]; exact hc.obj j hj hS⟩,t2,?_⟩; rw [hn]
 unfold IA; refine FM AC5 h.top fun W0 k0 t0 z0 Gk=>?_; have Gk:Aw W0 W.sz 124 [.pointer (some ⟨rb,0,none⟩)]:=Gk; refine FM N7 t0 fun W1 k1 t1 z1 KY=>?_; have KY:Aw W1 W0.sz 78 [.map (some r1),.map (some r2)]:=KY; have H6:=(h.VU k0 t0).VU k1 t1; have Gk:=Gk.ext t0 k1; have l3:∀ W',W'.obj W.sz=W1.obj W.sz→ld prog 124 (.pointer (some ⟨W.sz,0,none⟩)) W'=some (.pointer (some ⟨rb,0,none⟩)):=fun W' ho=>AD vZ (a:=⟨W.sz,0,none⟩) ((Gk.congr ho).cell rfl); rw [l3 W1 rfl]; simp only [AA]; have Rq:Bl (Ug rb) W W1:=(k0.trans k1).rd; refine (pz I H6 ha cz).mono fun en W2 ⟨fu,t2,hp⟩=>?_; have jN:=Rq.rd fu
 cases hh:Ia b ask at_ with
 | error x =>
  rw [hh] at hp; have hp:en=.panicked (C6 x):=hp; subst hp; refine Dm ?_; exact GN _ [] W2 x (.nil _ _) jN t2 (by unfold Bn; rw [hh])
 | ok r =>
  obtain ⟨ts,a1⟩:=r; rw [hh] at hp; obtain ⟨vt,rfl,⟨hvt,MM⟩,OP⟩:=hp; obtain ⟨R8,o9,CZ⟩:=iA hh; refine Ad ?_; have fC:∀ j,j<W1.sz→j≠rb→W2.obj j=W1.obj j:=fun j hj Dp=>fu.obj j hj Dp; rw [l3 W2 (fC _ (by omega) (by omega))]; simp only [AA]; refine (IY (most:=1000) I OP CZ).mono fun en W4 ⟨p8,t4,hp⟩=>?_; have hC4:=jN.rd p8
  cases hn:Eo b a1 1000 with
  | error x =>
   rw [hn] at hp; have hp:en=.panicked (C6 x):=hp; subst hp; refine Dm ?_; exact GN _ [] W4 x (.nil _ _) hC4 t4 (by unfold Bn; rw [hh]; simp only; rw [hn])
  | ok r =>
   obtain ⟨many,a2⟩:=r; rw [hn] at hp; obtain ⟨v,rfl,rfl,hr4⟩:=hp; obtain ⟨rP,_,p6⟩:=Ey hn; have WA:W.sz<W1.sz:=by omega
   have Xf:=fu.sz; have kH:=p8.sz; refine Ad ?_; refine Hu z3 s3 t4 fun W6 k6 t6 z6 OO=>?_; have OO:Aw W6 W4.sz 3 [.int .i64 0]:=OO; refine Ak s3 (a:=⟨W4.sz,0,none⟩) (v:=.int .i64 many) rfl OO (by simp) fun W7 Xp OO=>?_; have Xp:DM W4.sz W6 W7:=Xp; have OO:Aw W7 W4.sz 3 [.int .i64 many]:=OO; have t7:=t6.A4 (by omega) Xp; have z7:W7.sz=W4.sz+1:=by rw [Xp.sz,z6]
   have kn:Kp W7 (W7.new (.cells .nil 1 #[.int .i64 0] 3)):=.new _; have tn:=t7.new (.cells .nil 1 #[.int .i64 0] 3); have UD:(W7.new (.cells .nil 1 #[.int .i64 0] 3)).obj W7.sz=some (.cells .nil 1 #[.int .i64 0] 3):=by rw [BF,if_pos rfl]
   have vu:Aw (W7.new (.cells .nil 1 #[.int .i64 0] 3)) W7.sz 3 [.int .i64 0]:=⟨.nil,1,_,UD,rfl,fun k v hk=>by
    match k,hk with
    | 0,hk=>cases hk; rfl⟩
   have qD:(W7.new (.cells .nil 1 #[.int .i64 0] 3)).sz=W7.sz+1:=rfl; have RB:JA (.pointer (some ⟨W7.sz,0,none⟩)) ((W7.new (.cells .nil 1 #[.int .i64 0] 3)).obj W7.sz) (W7.new (.cells .nil 1 #[.int .i64 0] 3))=true:=HY UD rfl; generalize hAn:W7.new (.cells .nil 1 #[.int .i64 0] 3)=An at kn tn UD vu qD RB ⊢; have l8:∀ W',W'.obj W4.sz=W7.obj W4.sz→ld prog 3 (.pointer (some ⟨W4.sz,0,none⟩)) W'=some (.int .i64 many):=fun W' ho=>AD a3 (a:=⟨W4.sz,0,none⟩) ((OO.congr ho).cell rfl); have ho8:=kn.obj W4.sz (by omega); rw [l8 An ho8]; simp only [AA]; refine GC (fD _ _ An) ?_; rw [show min (many:Int) 1=((min many 1:Nat):Int) by omega]; refine ⟨trivial,?_⟩; refine Ak s3 (a:=⟨W7.sz,0,none⟩) (v:=.int .i64 ((min many 1:Nat):Int)) rfl vu (by simp) fun L mb OE=>?_; have mb:DM W7.sz An L:=mb; have OE:Aw L W7.sz 3 [.int .i64 ((min many 1:Nat):Int)]:=OE; refine ⟨by simp only [l8 An ho8,and_self],by simp only [RB,and_self],?_⟩; have hoL:∀ j,j<W7.sz→L.obj j=W7.obj j:=fun j hj=>by rw [mb.obj j (by omega),kn.obj j hj]
   rw [l8 L (hoL _ (by omega))]; simp only [AA]; have tL:=tn.A4 (by omega) mb; have zL:L.sz=W7.sz+1:=by rw [mb.sz,qD]
   have ho4:∀ j,j<W4.sz→L.obj j=W4.obj j:=fun j hj=>by rw [hoL j (by omega),Xp.obj j (by omega),k6.obj j hj]
   have k4L:Kp W4 L:=⟨by omega,ho4⟩
   have hCL:Bl (Ug rb) W L:=hC4.rd k4L.rd; have hrL:=hr4.VU k4L tL; have nm:∀ j,j<W1.sz→j≠rb→L.obj j=W1.obj j:=fun j hj Dp=>by rw [ho4 j (by omega),p8.obj j (by omega) Dp,fC j hj Dp]
   have AC9:DN L 9 1 vt (strs ts):=VZ hvt fun j hj=>by
    have:=VL t2 hvt hj; have Dp:j≠rb:=by rintro rfl; have:=Bb OP.G1 (Dh hvt hj); cases this
    rw [ho4 j (by omega),p8.obj j this Dp]
   let p:TP:={ A:=A,L:=L,rb:=rb,b3:=W.sz,b4:=W0.sz,b8:=W4.sz,CF:=W7.sz,r1:=r1,r2:=r2,vb:=vb,vt:=vt,b:=b,c:=c,ts:=ts,many:=many,G:=EF b c ts many many 0 a2 0 (min many 1) [] }
   have hAW:=h.kp.sz; have IN:rQ p:=⟨I,EY,Ae,hC,tL,hrL.kp,Gk.congr (nm _ (by omega) (by omega)),KY.congr (nm _ (by omega) (by omega)),OO.congr (hoL _ (by omega)),AC9,o9,fun s hs=>hak s (R8 s hs),⟨_,hrL.G1⟩,⟨_,OE⟩,⟨h.hb,by show A.sz≤W7.sz; omega⟩,by show W4.sz≠W7.sz; omega,by show many≤1000; omega⟩
   have J0:TJ p L a2 (min many 1) (.slice none 0 0) [] []:=⟨.refl _ _,hrL,OE,⟨DN.nil,Bw.nil _ _ _,fun q hq=>(by cases hq),List.nodup_nil⟩,.nil _ _⟩
   have aH:∀ W',Bl (S2 p.rb p.CF) p.L W'→Bl (Ug rb) W W':=fun W' hc=>⟨by have:=hc.sz; have:L.sz≤W'.sz:=this; omega,fun j hj hS=>by
    rw [hc.obj j (show j<L.sz by omega) (by
     rintro (e | e)
     ·exact hS e
     ·have e:j=W7.sz:=e
      omega),]
    exact hCL.obj j hj hS⟩
   have qE:∀ W' ds,Marks p.L.sz W' ds→Marks W.sz W' ds:=fun W' ds ⟨rs,h1,h2,h3⟩=>⟨rs,h1,h2,fun r hr=>⟨(h3 r hr).1,by have:L.sz≤r:=(h3 r hr).2; omega⟩⟩
   have hR:Bn b c ask at_=match p.G with | .error e=>.error e | .ok (out,used,fd,a3)=>if fd=many∧used=ts.length∧a3=b.length then .ok (out,a3) else .error 4:=by
    unfold Bn; rw [hh]; simp only; rw [hn] <;> rfl
   refine ma IN ⟨a2,min many 1,0,.slice none 0 0,[],J0,⟨rfl,rfl,rfl,rfl,rfl,rfl,rfl,rfl,rfl⟩,p6,by omega,Nat.zero_le _,rfl,rfl⟩ (fun e' C_ W' x h1 h2 h3 h4=>?_) (fun e' C_ W' hj=>?_)
   ·simp only [jI,Ws,VE]; exact GN e' C_ W' x (qE _ _ h1) (aH _ h2) h3 (by rw [hR,h4])
   ·obtain ⟨DX,F3,JQ,vo,ps,J,E,qB,qC,AAm,Z7,hG⟩:=hj; have hG:p.G=EF b c ts many (many-many) many DX JQ F3 (ps.map (·.1)):=hG; rw [Nat.sub_self] at hG; have hG:p.G=.ok (ps.map (·.1),JQ,F3,DX):=hG; rw [hG] at hR; have hR:Bn b c ask at_=if F3=many∧JQ=ts.length∧DX=b.length then .ok (ps.map (·.1),DX) else .error 4:=hR; obtain ⟨q3,Q4,Q3,Q8,QT⟩:=IN.at J.Dd; have q10:ld prog 3 (.pointer (some ⟨W7.sz,0,none⟩)) W'=some (.int .i64 F3):=AD a3 (a:=⟨W7.sz,0,none⟩) (J.f.cell rfl); have q8:ld prog 3 (.pointer (some ⟨W4.sz,0,none⟩)) W'=some (.int .i64 many):=AD a3 (a:=⟨W4.sz,0,none⟩) (Q8.cell rfl); have q3:ld prog 124 (.pointer (some ⟨W.sz,0,none⟩)) W'=some (.pointer (some ⟨rb,0,none⟩)):=q3; have e3:e' 3=.pointer (some ⟨W.sz,0,none⟩):=E.e3; have e7:e' 7=vt:=E.e7; have e8:e' 8=.pointer (some ⟨W4.sz,0,none⟩):=E.e8; have UC:e' 10=.pointer (some ⟨W7.sz,0,none⟩):=E.UC; have qT:AY prog 51 vt W'=some (.int .i64 ts.length):=iB QT; simp only [Md,if_true,Ws,Bs,e3,e7,e8,UC,E.e9,q10,q8,Bf,AA]
    have bad:∀ e2,¬(F3=many∧JQ=ts.length∧DX=b.length)→(HO none KK) (.panic (C6 4)) e2 C_ W':=by
     intro e2 HJ; simp only [HO,VE]; exact GN _ C_ W' 4 (qE _ _ J.marks) (aH _ J.Dd) J.rd.top (by rw [hR,if_neg HJ])
    refine AL (fun h1=>?_) (fun h1=>?_)
    ·have h1:F3=many:=by have:=eq_of_beq h1; omega
     simp only [qT,AA,Bf]
     refine AL (fun h2=>?_) (fun h2=>?_)
     ·have h2:JQ=ts.length:=by have:=eq_of_beq h2; omega
      obtain ⟨av,cv,aF,_,_⟩:=I.sl; have lb:AY prog 29 vb W'=some (.int .i64 b.length):=by rw [aF]; exact Ac PR _ _ _ _
      have AC':ld prog 29 (.pointer (some ⟨rb,0,none⟩)) W'=some vb:=J.rd.ld0; have AC_:ld prog 3 (.pointer (some ⟨rb,0+1,none⟩)) W'=some (.int .i64 DX):=J.rd.xG; simp only [q3,IX,ZS,ZT,AA,AC',AC_,lb,Bf]
      refine GH (fun h3=>?_) (fun h3=>?_)
      ·have h3:DX=b.length:=by have:=eq_of_beq h3; omega
       refine ⟨by simp only [and_self],trivial,?_⟩; simp only [HO,Bs]; rw [←JO]; refine Ib J.rd.top (qE _ _ J.marks) fun W2 g1 g2 g3 t2'=>?_; rw [gP,←ZV]; have AAq:=aH _ J.Dd; refine ⟨⟨by rw [g3]; exact AAq.sz,fun j hj hS=>by rw [g2 j hj]; exact AAq.obj j hj hS⟩,t2',?_⟩; rw [hR,if_pos ⟨h1,h2,h3⟩]; have hz:p.L.sz=L.sz:=rfl
       refine ⟨_,rfl,⟨ps,rfl,?_⟩,⟨⟨by rw [g3]; exact J.rd.kp.sz,fun j hj=>by rw [g2 j (by omega)]; exact J.rd.kp.obj j hj⟩,t2',h.hb,?_⟩⟩
       ·have hH:=J.heap.of fun j o hB hj ho=>g1 j o hj ho; simp only [Aa,Av,Nat.reduceEqDiff,↓reduceIte,E.OQ]
        refine ⟨hH.own,fun b' l' c' e=>?_,fun q hq=>?_,hH.nd⟩
        ·have:=hH.new b' l' c' e; omega
        ·obtain ⟨bv,k1,k2,k3⟩:=hH.pv q hq; exact ⟨bv,k1,k2,by omega⟩
       ·obtain ⟨cc,nn,zz,ho,hx⟩:=J.rd.G1; exact ⟨cc,nn,zz,g1 _ _ ho (by simp),hx⟩
      ·have h3:¬DX=b.length:=by rintro rfl; simp at h3
       exact ⟨by simp only [and_self],bad _ fun hh=>h3 hh.2.2⟩
     ·have h2:¬JQ=ts.length:=by rintro rfl; simp at h2
      refine GH (fun hf=>by cases hf) (fun _=>?_); exact ⟨by simp only [and_self],bad _ fun hh=>h2 hh.2.1⟩
    ·have h1:¬F3=many:=by rintro rfl; simp at h1
     refine GH (fun hf=>by cases hf) (fun _=>?_); exact ⟨by simp only [and_self],bad _ fun hh=>h1 hh.1⟩
end Go.Ce
namespace Go.Ce
open Go Go.Proofs Go.Proofs.Tryz
theorem vz (v:Value):AQ prog .neq 20 true (.iface 167 v) .nilIface=some (.bool true):=by kernel_rfl
theorem v_:AQ prog .neq 20 true .nilIface .nilIface=some (.bool false):=by kernel_rfl
theorem wA (v:Value):tas prog 167 (.iface 167 v) true=some (.tuple #[v,.bool true]):=by kernel_rfl
theorem ADA:GP prog 167=some (.agg #[.int .i64 0]):=by kernel_rfl
theorem ADB:DC prog 167=some 1:=by kernel_rfl
theorem wB (a:Addr):A_ prog 167 (.pointer (some a)) 0=some (.pointer (some ⟨a.block,a.off,none⟩)):=by kernel_rfl
theorem a30:agg? prog 30=some false:=by kernel_rfl
theorem rR:DC prog 30=some 1:=by kernel_rfl
theorem z30:GP prog 30=some (.int .i64 0):=by kernel_rfl
theorem wC (v:Value) (a:Option Addr) (n m:Nat) (h:v=.slice a n m):RE prog 170 [(0,v)]=some (.agg [v,.int .i64 0].toArray):=by subst h; kernel_rfl
theorem OF:Tryz.f109.results.toList=[]:=by kernel_rfl
theorem ZZ:∃ ty,Tryz.f72.results.toList=[.cell 4 ty]∧ty=30:=⟨30,by kernel_rfl,rfl⟩
theorem AAr (x:Int) (K:Value→FrameMode→Prop):kj (.panicking (C6 x)) K=K (.iface 167 (.agg #[.int .i64 x])) (.panicking [{ v:=.iface 167 (.agg #[.int .i64 x]),recovered:=true }]):=rfl
theorem AAs (K:Value→FrameMode→Prop):kj .returning K=K .nilIface .returning:=rfl
structure me (b:Nat) (W W':CW):Prop where
 sz:W.sz≤W'.sz
 obj:∀ j,j<W.sz→j≠b→W'.obj j=W.obj j
theorem wD {W:CW} {b:Nat} {x y:Int} (ht:At W) (hB:Aw W b 30 [.int .i64 y]) {Q:FrameMode→CW→Prop} (hq:∀ W',me b W W'→At W'→Aw W' b 30 [.int .i64 x]→Q (.panicking [{ v:=.iface 167 (.agg #[.int .i64 x]),recovered:=true }]) W'):LB prog AT 109 [.pointer (some ⟨b,0,none⟩)] (.panicking (C6 x)) W Q:=by
 refine VC (fn:=Tryz.f109) (c:=AS prog 109) (by kernel_rfl) Tryz.func109 (by kernel_rfl) (by kernel_rfl) ?_; have:=lE (.pointer (some ⟨b,0,none⟩)) (.panicking (C6 x)) (fun x e u W=>(x=.normal∨x=.ret)∧(∃ v,Bu prog Tryz.f109.results.toList e W=some v)∧Q u W) W; refine this.mpr ?_; rw [AAr]; refine A3 (vz _) ?_; simp only [Bm]; refine A3 (wA _) ?_; refine A3 (CA _ _) ?_; refine A3 (CB _ _) ?_; refine DG (ws:=[.int .i64 x]) ADA ADB rfl rfl rfl ht fun W2 k2 t2 z2 HD=>?_; simp only [Al,AA,Bool.not_true,Ao,wB]; refine ⟨by first | rfl | trivial,?_⟩; rw [AD a30 (a:=⟨W.sz,0,none⟩) (HD.cell rfl)]; simp only [AA]; have hb:=hB.lt ht; have np:=hB.ext ht k2; refine Ak rR (a:=⟨b,0,none⟩) (v:=.int .i64 x) rfl np (by simp) fun W3 hu Gk=>?_; have hu:DM b W2 W3:=hu; refine ⟨.inl (by first | rfl | trivial),⟨.tuple #[],by simp only [Bu,OF,Hp]⟩,hq W3 ⟨by rw [hu.sz]; exact k2.sz,fun j hj Dp=>by rw [hu.obj j Dp,k2.obj j hj]⟩ (t2.A4 (np.lt t2) hu) Gk⟩
theorem qF {W:CW} {b:Nat} {Q:FrameMode→CW→Prop} (hq:Q .returning W):LB prog AT 109 [.pointer (some ⟨b,0,none⟩)] .returning W Q:=by
 refine VC (fn:=Tryz.f109) (c:=AS prog 109) (by kernel_rfl) Tryz.func109 (by kernel_rfl) (by kernel_rfl) ?_; have:=lE (.pointer (some ⟨b,0,none⟩)) .returning (fun x e u W=>(x=.normal∨x=.ret)∧(∃ v,Bu prog Tryz.f109.results.toList e W=some v)∧Q u W) W; refine this.mpr ?_; rw [AAs]; refine A3 v_ ?_; simp only [Ao]; exact ⟨by first | rfl | trivial,.inl (by first | rfl | trivial),⟨.tuple #[],by simp only [Bu,OF,Hp]⟩,hq⟩
theorem dC {W:CW} {a:Option Addr} {n cap:Nat} {vf:Value} (ht:At W) {Q:Ending→CW→Prop}
  (X5:100000<n→∀ W',Kp W W'→At W'→Q (.returned (.int .i64 2)) W')
  (hdo:n≤100000→∀ W0,Kp W W0→At W0→W0.sz=W.sz+2→Aw W0 W.sz 30 [.int .i64 0]→Aw W0 (W.sz+1) 170 [.slice a n cap,.int .i64 0]→Dj prog AT vf [.pointer (some ⟨W.sz+1,0,none⟩)] W0
   (fun _ W3=>At W3∧Aw W3 W.sz 30 [.int .i64 0]∧∀ W',me W.sz W3 W'→At W'→Q (.returned (.int .i64 0)) W')
   (fun ch W4=>∃ x,ch=C6 x∧At W4∧Aw W4 W.sz 30 [.int .i64 0]∧∀ W',me W.sz W4 W'→At W'→Q (.returned (.int .i64 x)) W')) :
  AH prog AT 72 [.slice a n cap,vf] W Q:=by
 obtain ⟨ty,SR,rfl⟩:=ZZ; refine lA (fn:=Tryz.f72) (c:=AS prog 72) (by kernel_rfl) (by kernel_rfl) (by kernel_rfl) Tryz.func72 (by kernel_rfl) (by kernel_rfl) ?_; refine (yz (.slice a n cap) vf _ W).mpr ?_
 have ret:∀ (e:Env) W' x,e 4=.pointer (some ⟨W.sz,0,none⟩)→Aw W' W.sz 30 [.int .i64 x]→Q (.returned (.int .i64 x)) W'→k_ prog AT Tryz.f72 Q e [] .returning W':=by
  intro e W' x h4 hB hq; have hv:IC prog 30 ⟨W.sz,0,none⟩ W'=some (.int .i64 x):=AD a30 (a:=⟨W.sz,0,none⟩) (hB.cell rfl); simp only [k_,Bu,SR,Hp,gD,h4,hv,AA]; exact hq
 refine Hu z30 rR ht fun W1 k1 t1 z1 hB=>?_; have hB:Aw W1 W.sz 30 [.int .i64 0]:=hB; rw [Ac PR]; simp only [Bg,AA]
 refine AL (fun hb=>?_) (fun hb=>?_)
 ·have hb:100000<n:=by have:=of_decide_eq_true hb; omega
  refine Ak rR (a:=⟨W.sz,0,none⟩) (v:=.int .i64 2) rfl hB (by simp) fun W2 hu HD=>?_; have hu:DM W.sz W1 W2:=hu; exact ret _ W2 2 rfl HD (X5 hb W2 (k1.A4 (Nat.le_refl _) hu) (t1.A4 (hB.lt t1) hu))
 ·have hb:n≤100000:=by have:=of_decide_eq_false hb; omega
  refine A3 (wC _ a n cap rfl) ?_; refine FM ACl t1 fun W2 k2 t2 z2 fG=>?_; rw [z1] at fG z2 ⊢; have fG:Aw W2 (W.sz+1) 170 [.slice a n cap,.int .i64 0]:=fG; have HD:=hB.ext t1 k2
  have UL:∀ (d:Deferred) (l:List Value) (m:FrameMode) W' Q',d=({ target:=.fn (.func 109) #[.pointer (some ⟨W.sz,0,none⟩)],args:=#[] }:Deferred)→LB prog AT 109 [.pointer (some ⟨W.sz,0,none⟩)] m W' Q'→LB prog AT 109 (d.args.toList++[Value.pointer (some ⟨W.sz,0,none⟩)]) m W' Q':=by
   intro d l m W' Q' hd h; subst hd; exact h
  have Ds:=hdo hb W2 (k1.trans k2) t2 (by rw [z2]) HD fG; unfold Dj at Ds ⊢
  have wE:∀ (v:Value) (W3:CW),(At W3∧Aw W3 W.sz 30 [.int .i64 0]∧∀ W',me W.sz W3 W'→At W'→Q (.returned (.int .i64 0)) W')→∀ (e:Env),e 4=.pointer (some ⟨W.sz,0,none⟩)→wV (CP prog 30 (.pointer (some ⟨W.sz,0,none⟩)) (.int .i64 0) W3) fun W5=>k_ prog AT Tryz.f72 Q e [({ target:=.fn (.func 109) #[.pointer (some ⟨W.sz,0,none⟩)],args:=#[] }:Deferred)] .returning W5:=by
   rintro v W3 ⟨t3,Gk,hq⟩ e h4; refine Ak rR (a:=⟨W.sz,0,none⟩) (v:=.int .i64 0) rfl Gk (by simp) fun W5 hu MI=>?_; have hu:DM W.sz W3 W5:=hu; show LB _ _ _ _ _ _ _; refine qF ?_; exact ret e W5 0 h4 MI (hq W5 ⟨by rw [hu.sz]; exact Nat.le_refl _,fun j hj Dp=>hu.obj j Dp⟩ (t3.A4 (Gk.lt t3) hu))
  have bad:∀ ch W4,(∃ x,ch=C6 x∧At W4∧Aw W4 W.sz 30 [.int .i64 0]∧∀ W',me W.sz W4 W'→At W'→Q (.returned (.int .i64 x)) W')→∀ (e:Env),e 4=.pointer (some ⟨W.sz,0,none⟩)→k_ prog AT Tryz.f72 Q e [({ target:=.fn (.func 109) #[.pointer (some ⟨W.sz,0,none⟩)],args:=#[] }:Deferred)] (.panicking ch) W4:=by
   rintro ch W4 ⟨x,rfl,t4,KY,hq⟩ e h4; show LB _ _ _ _ _ _ _; refine wD t4 KY fun W' hu t' np=>?_; exact ret e W' x h4 np (hq W' hu t')
  have AAt:∀ {f:FuncId} {xs:List Value} {K K':Value→CW→Prop} {KP KP':List PanicEntry→CW→Prop},AH prog AT f xs W2 (AV K KP)→(∀ v W,K v W→K' v W)→(∀ v W,KP v W→KP' v W)→AH prog AT f xs W2 (AV K' KP'):=fun h h1 h2=>h.mono fun en W' he=>by
   cases en with
   | returned v=>exact h1 _ _ he
   | panicked ch=>exact h2 _ _ he
   | outgrown=>exact he
  have wF:∀ {f:Nat} {xs:List Value} {K K':Value→CW→Prop} {KP KP':List PanicEntry→CW→Prop},Ho prog AT f xs W2 (AV K KP)→(∀ v W,K v W→K' v W)→(∀ v W,KP v W→KP' v W)→Ho prog AT f xs W2 (AV K' KP'):=fun h h1 h2=>h.mono fun en W' he=>by
   cases en with
   | returned v=>exact h1 _ _ he
   | panicked ch=>exact h2 _ _ he
   | outgrown=>exact he
  split at Ds
  ·split at Ds
   ·exact wE (.bool false) _ Ds _ rfl
   ·exact AAt Ds (fun v W h=>wE v W h _ rfl) (fun ch W h=>⟨fun k n m hh=>(by cases hh),bad ch W h _ rfl⟩)
  ·exact wF Ds (fun v W h=>wE v W h _ rfl) (fun ch W h=>⟨fun k n m hh=>(by cases hh),bad ch W h _ rfl⟩)
  ·exact Ds.elim
end Go.Ce
namespace Go.Ce
open Go Go.Proofs Go.Proofs.Tryz
def TW (l:List CE) (s:ByteArray):Option CE:=l.find? fun x=>decide (x.to=s)
def E9 (mp vs z:List Int):Nat→List Int
 | 0=>z
 | n+1=>(E9 mp vs z n).set ((mp[n]?).getD 0).toNat ((vs[n]?).getD 0)
def BP (c:List Af) (l:List CE) (x:BR):BR:=match TW l x.type with
 | none=>x
 | some s=>match BC c s.type with
  | none=>x
  | some t=>⟨s.type,E9 s.map x.AJ (List.replicate (Ai c t).length 0) s.map.length⟩
theorem JR (mp vs z:List Int):∀ n,(E9 mp vs z n).length=z.length
 | 0=>rfl
 | n+1=>by rw [E9,List.length_set,JR mp vs z n]
theorem Za:∃ ty,Tryz.f77.results.toList=[.cell 6 ty]∧ty=56:=⟨56,by kernel_rfl,rfl⟩
theorem wG (s:ByteArray) (a:Addr) (n m:Nat):RE prog 56 [(0,.string s),(1,.slice (some a) n m)]=some (.agg [.string s,.slice (some a) n m].toArray):=by kernel_rfl
def Zb (vx:Value) (x y:BR) (W:CW):Ending→CW→Prop:=fun e W'=>Kp W W'∧At W'∧∃ vv,e=.returned (.agg #[.string y.type,vv])∧((vv=vx∧y.AJ=x.AJ)∨∃ bv,vv=.slice (some ⟨bv,0,none⟩) y.AJ.length y.AJ.length∧Aw W' bv 3 (Bz y.AJ)∧W.sz≤bv)
theorem fH {z:List Int} {k:Nat} (hk:k<z.length) (x:Int):putAt (Bz z) (0+k*1) [.int .i64 x]=Bz (z.set k x):=by
 apply List.ext_getElem?; intro j; have hl:(Bz z).length=z.length:=by simp [Bz]
 rw [JD (by rw [hl]; simp; omega)]; unfold Bz; simp only [List.length_singleton,List.getElem?_map,List.getElem?_set]
 by_cases e:k=j
 ·subst e; rw [if_pos ⟨by omega,by omega⟩,if_pos rfl,if_pos hk]; simp
 ·rw [if_neg (by omega),if_neg e]
theorem iC {w r r1 r2:Nat} {vx:Value} {c:List Af} {l:List CE} {x:BR} {W:CW} (ht:At W) (hr:O3 CE.to W r l) (EY:DW W r1 r2 c) (hC:Qz c) (eu:Ay 1 (EW W) vx x.AJ)
  (hm:∀ s,TW l x.type=some s→s.map.length≤x.AJ.length∧∃ t,BC c s.type=some t∧∀ m,m ∈ s.map→0≤m∧m.toNat<(Ai c t).length) (Xm:∀ s,s ∈ l→s.map.length<100000) :
  AH prog AT 77 [.agg #[.map (some w),.map (some r)],IA r1 r2,.agg #[.string x.type,vx]] W (Zb vx x (BP c l x) W):=by
 obtain ⟨ty,SR,rfl⟩:=Za; refine zI ?_; rw [zH]; unfold IA; obtain ⟨ax,cx,rfl,hxc⟩:=id eu; refine FM vC ht fun W0 k0 t0 z0 Gk=>?_; have Gk:Aw W0 W.sz 83 [.map (some w),.map (some r)]:=Gk; refine FM N7 t0 fun W1 k1 t1 z1 KY=>?_; have KY:Aw W1 W0.sz 78 [.map (some r1),.map (some r2)]:=KY; refine FM Io t1 fun W2 k2 t2 z2 MI=>?_; have MI:Aw W2 W1.sz 56 [.string x.type,.slice ax x.AJ.length cx]:=MI; refine Hu q7 Io t2 fun A kA tA zA J'=>?_; have J':Aw A W2.sz 56 [.string ⟨#[]⟩,.slice none 0 0]:=J'; have k:=((k0.trans k1).trans k2).trans kA; have Gk:=Gk.ext t0 ((k1.trans k2).trans kA); have KY:=KY.ext t1 (k2.trans kA); have MI:=MI.ext t2 kA; have ph:W.sz≤W2.sz:=((k0.trans k1).trans k2).sz; have hrA:=hr.kp ht k; have rS:=EY.kp ht k; simp only [XK,GF,AA]; rw [AD xS (a:=⟨W.sz,0+1,none⟩) (Gk.cell rfl),AD a9 (a:=⟨W1.sz,0,none⟩) (MI.cell rfl)]; simp only [AA]; generalize JO:AK prog Tryz.f77 (Zb (.slice ax x.AJ.length cx) x (BP c l x) W)=K
 have F1:∀ j7 vv,Kp A j7→At j7→BB vv=true→(∀ W3,DM W2.sz j7 W3→(vv=.slice ax x.AJ.length cx∧(BP c l x).AJ=x.AJ)∨∃ bv,vv=.slice (some ⟨bv,0,none⟩) (BP c l x).AJ.length (BP c l x).AJ.length∧Aw W3 bv 3 (Bz (BP c l x).AJ)∧W.sz≤bv)→∀ {K':CW→Prop},(∀ W3,(∀ e',e' 6=.pointer (some ⟨W2.sz,0,none⟩)→K .ret e' [] W3)→K' W3) →
   wV (CP prog 56 (.pointer (some ⟨W2.sz,0,none⟩)) (.agg [.string (BP c l x).type,vv].toArray) j7) K':=by
  intro j7 vv w_ oU Mo aY K' uv; have hB:=J'.ext tA w_; refine Dk Io (a:=⟨W2.sz,0,none⟩) (by simp only [List.all_cons,List.all_nil,Mo,Bool.and_true]; rfl) rfl hB (by simp) fun W3 hu Gk=>uv W3 fun e' h6'=>?_; have hu:DM W2.sz j7 W3:=hu; rw [←JO]; have Gk:Aw W3 W2.sz 56 [.string (BP c l x).type,vv]:=Gk; refine S7 SR (p:=⟨W2.sz,0,none⟩) h6' (Bd (vs:=[.string (BP c l x).type,vv]) Yr Io rfl (by omega) Gk.cells) ?_; exact ⟨(k.trans w_).A4 ph hu,oU.A4 (hB.lt oU) hu,vv,rfl,aY W3 hu⟩
 cases KM:TW l x.type with
 | none =>
  have P':BP c l x=x:=by unfold BP; rw [KM]
  rw [hrA.none KM]; simp only [AA,CA,CB]; unfold vB; refine DG (ws:=[.string ⟨#[]⟩,.string ⟨#[]⟩,.slice none 0 0]) pV gR rfl rfl rfl tA fun W4 k4 t4 z4 vK=>?_; simp only [Al,AA,Bool.not_false,Bm]; rw [Bd (vs:=[.string x.type,.slice ax x.AJ.length cx]) Yr Io rfl (by omega) (MI.ext tA k4).cells]; simp only [AA]; have Q0:x.type=(BP c l x).type:=by rw [P']
  rw [Q0]; refine F1 W4 _ k4 t4 rfl (fun W3 hu=>.inl ⟨rfl,by rw [P']⟩) fun W3 hr=>hr _ rfl
 | some s =>
  obtain ⟨hsl,t,Es,Ob⟩:=hm s KM; have P':BP c l x=⟨s.type,E9 s.map x.AJ (List.replicate (Ai c t).length 0) s.map.length⟩:=by unfold BP; rw [KM]; simp only; rw [Es]
  have rG:=Xm s (List.mem_of_find?_eq_some KM); have Xi:=fF hC t; obtain ⟨u,hu,L⟩:=hrA.some KM; obtain ⟨am,cm,rfl,hum⟩:=hu; rw [L]; simp only [AA,CA,CB]; refine DG (ws:=[.string s.type,.string s.to,.slice am s.map.length cm]) pV gR rfl rfl rfl tA fun W5 k5 t5 z5 vK=>?_; simp only [Al,AA,Bool.not_true,Ao,Ln,Nt,IW]; obtain ⟨ar,cr,lr,_⟩:=rS.rw.some Es; obtain ⟨mr,hmr,_⟩:=rS.rw; have kn:Kp W5 (W5.new (.cells .nil 2 #[.string ⟨#[]⟩,.slice none 0 0] 56)):=.new _; have tn:=t5.new (.cells .nil 2 #[.string ⟨#[]⟩,.slice none 0 0] 56); have UD:(W5.new (.cells .nil 2 #[.string ⟨#[]⟩,.slice none 0 0] 56)).obj W5.sz=some (.cells .nil 2 #[.string ⟨#[]⟩,.slice none 0 0] 56):=by rw [BF,if_pos rfl]
  have vu:Aw (W5.new (.cells .nil 2 #[.string ⟨#[]⟩,.slice none 0 0] 56)) W5.sz 56 [.string ⟨#[]⟩,.slice none 0 0]:=⟨.nil,2,_,UD,rfl,fun k v hk=>by
   match k,hk with
   | 0,hk=>cases hk; rfl
   | 1,hk=>cases hk; rfl⟩
  have qD:(W5.new (.cells .nil 2 #[.string ⟨#[]⟩,.slice none 0 0] 56)).sz=W5.sz+1:=rfl; have RB:∀ W0:CW,W0.obj W5.sz=some (.cells .nil 2 #[.string ⟨#[]⟩,.slice none 0 0] 56)→JA (.pointer (some ⟨W5.sz,0,none⟩)) ((W5.new (.cells .nil 2 #[.string ⟨#[]⟩,.slice none 0 0] 56)).obj W5.sz) W0=true:=fun W0 h0=>HY h0 (by rfl); generalize hAn:W5.new (.cells .nil 2 #[.string ⟨#[]⟩,.slice none 0 0] 56)=An at kn tn UD vu qD RB ⊢; have kAn:=k5.trans kn; have l9:∀ W',Kp An W'→ld prog 9 (.pointer (some ⟨A.sz,0,none⟩)) W'=some (.string s.type):=fun W' k'=>AD a9 (a:=⟨A.sz,0,none⟩) ((vK.ext t5 (kn.trans k')).cell rfl); have l76:ld prog 76 (.pointer (some ⟨W0.sz,0+1,none⟩)) An=some (.map (some r2)):=AD rB (a:=⟨W0.sz,0+1,none⟩) ((KY.ext tA kAn).cell rfl)
  have lrn:HB prog 76 (.map (some r2)) (.string s.type) false An=some (.slice ar (Ai c t).length cr):=by
   rw [gy (kAn.obj _ (hmr.lt tA))]; exact lr
  rw [l9 An (.refl _),l76]; simp only [AA,lrn,Ac PR]; refine q5 Iw s3 z3 rfl zO (by omega) (n:=(Ai c t).length) (by omega) tn fun W7 k7 t7 z7 mL=>?_; refine A3 (wG _ _ _ _) ?_; refine ⟨trivial,?_⟩; have ADC:=vu.ext tn k7; refine Dk Io (a:=⟨W5.sz,0,none⟩) (ws:=[.string s.type,.slice (some ⟨An.sz,0,none⟩) (Ai c t).length (Ai c t).length]) rfl rfl ADC (by simp) fun W8 hu8 hBo=>?_; have hu8:DM W5.sz W7 W8:=hu8; have hBo:Aw W8 W5.sz 56 [.string s.type,.slice (some ⟨An.sz,0,none⟩) (Ai c t).length (Ai c t).length]:=hBo; refine ⟨by simp only [l9 An (.refl _),l9 W7 k7,and_self],by simp only [RB An UD,RB W7 (by rw [k7.obj _ (by omega)]; exact UD),and_self],?_⟩; have h5l:W5.sz<W7.sz:=by rw [z7]; omega
  have t8:=t7.A4 h5l hu8; have hzA:A.sz≤W5.sz:=by rw [z5]; omega
  have k58:Kp W5 W8:=(kn.trans k7).A4 (Nat.le_refl _) hu8; have kA8:Kp A W8:=k5.trans k58; rw [AD ND (a:=⟨A.sz,0+2,none⟩) ((vK.ext t5 k58).cell rfl)]; simp only [AA,Ac Iw]
  have ADD:Aw W8 An.sz 3 (Bz (E9 s.map x.AJ (List.replicate (Ai c t).length 0) 0)):=by
   have:Bz (E9 s.map x.AJ (List.replicate (Ai c t).length 0) 0)=List.replicate (Ai c t).length (.int .i64 0):=by simp [E9,Bz]
   rw [this]; exact mL.congr (hu8.obj _ (by omega))
  refine Du (fun n e ds W'=>ds=[]∧Kp A W'∧At W'∧Aw W' W5.sz 56 [.string s.type,.slice (some ⟨An.sz,0,none⟩) (Ai c t).length (Ai c t).length]∧Aw W' An.sz 3 (Bz (E9 s.map x.AJ (List.replicate (Ai c t).length 0) n))∧e 5=.pointer (some ⟨W1.sz,0,none⟩)∧e 6=.pointer (some ⟨W2.sz,0,none⟩)∧e 9=.pointer (some ⟨W5.sz,0,none⟩)∧e 34=.slice am s.map.length cm∧e 35=.int .i64 s.map.length∧e 36=.int .i64 n) s.map.length
   ⟨rfl,kA8,t8,hBo,ADD,rfl,rfl,rfl,rfl,rfl,rfl⟩ ?_
  rintro n e ds W' hn ⟨rfl,rT,t',mf,mY,h5,h6,h9,h34,h35,h36⟩; rw [tR,h34,h35,h36]; simp only [A6,AA]
  refine Gx (fun Ax=>?_) (fun NW=>?_)
  ·obtain ⟨_,_,he,hmc⟩:=hum
   cases he
   have hmn:=List.getElem?_eq_getElem Ax; obtain ⟨q,rfl,hq⟩:=hmc n _ hmn; rw [BH Iw s3 Ax]; simp only [AA]; have hqc:=rT.cell tA hq.1; rw [AD a3 (a:=⟨q.block,q.off+n*1,none⟩) hqc,h9,h5]; simp only [AA,Dg]; have yb:n<x.AJ.length:=by omega
   have hxn:=List.getElem?_eq_getElem yb; obtain ⟨p,rfl,hp⟩:=hxc n _ hxn; have AAu:=MI.ext tA rT; rw [AD ND (a:=⟨W5.sz,0+1,none⟩) (mf.cell rfl),AD ND (a:=⟨W1.sz,0+1,none⟩) (AAu.cell rfl)]; simp only [AA]; rw [BH Iw s3 yb]; simp only [AA]; have hpc:=(k.trans rT).cell ht hp.1; rw [AD a3 (a:=⟨p.block,p.off+n*1,none⟩) hpc]; simp only [AA]; obtain ⟨jY,Z6⟩:=Ob _ (List.getElem_mem Ax); have hmi:(s.map[n]:Int)=((s.map[n].toNat:Nat):Int):=by omega
   rw [hmi,BH Iw s3 Z6]; simp only [AA]; have uB:(E9 s.map x.AJ (List.replicate (Ai c t).length 0) n).length=(Ai c t).length:=by rw [JR]; simp
   refine Ak s3 (a:=⟨An.sz,0+s.map[n].toNat*1,none⟩) (v:=.int .i64 x.AJ[n]) rfl mY (by simp only [Bz,List.length_map,uB]; omega) fun W9 mb wH=>?_; have mb:DM An.sz W' W9:=mb
   have wH:Aw W9 An.sz 3 (Bz (E9 s.map x.AJ (List.replicate (Ai c t).length 0) (n+1))):=by
    rw [E9,hmn,hxn,oy,oy,←fH (by rw [uB]; exact Z6)]; exact wH
   have AEH:ld prog 40 (.pointer (some ⟨W5.sz,0+1,none⟩)) W'=some (.slice (some ⟨An.sz,0,none⟩) (Ai c t).length (Ai c t).length):=AD ND (a:=⟨W5.sz,0+1,none⟩) (mf.cell rfl); refine ⟨by simp only [AD ND (a:=⟨W5.sz,0+1,none⟩) (mf.cell rfl),AD ND (a:=⟨W1.sz,0+1,none⟩) (AAu.cell rfl),AD a3 (a:=⟨p.block,p.off+n*1,none⟩) hpc,and_self],trivial,?_⟩; simp only [eQ,Bs,HC]; simp only [Aa,Av,Nat.reduceEqDiff,↓reduceIte,h36,Ap,AA]
   refine ⟨Ax,trivial,rT.A4 (by omega) mb,t'.A4 (mY.lt t') mb,mf.congr (mb.obj _ (by omega)),wH,?_,?_,?_,?_,?_,?_⟩
   ·simp only [h5]
   ·simp only [h6]
   ·simp only [h9]
   ·simp only [h34]
   ·simp only [h35]
   ·rw [Dv (by omega)]
  ·have oJ:n=s.map.length:=by omega
   subst oJ; simp only [Bs,VD,Md,ON,Md,if_true,eP]; simp only [Aa,Av,Nat.reduceEqDiff,↓reduceIte,h6,h9]; rw [Bd (vs:=[.string s.type,.slice (some ⟨An.sz,0,none⟩) (Ai c t).length (Ai c t).length]) (a:=⟨W5.sz,0,none⟩) Yr Io rfl (by omega) mf.cells]; simp only [AA]; have Q0:s.type=(BP c l x).type:=by rw [P']
   have fE:(Ai c t).length=(BP c l x).AJ.length:=by rw [P']; simp only [JR,List.length_replicate]
   rw [Q0]; refine F1 W' _ rT t' rfl (fun W3 hu=>.inr ⟨An.sz,by rw [fE],?_,by have:=k.sz; omega⟩) fun W3 hr=>hr _ (by simp only [Aa,Av,Nat.reduceEqDiff,↓reduceIte,h6]); have:(BP c l x).AJ=E9 s.map x.AJ (List.replicate (Ai c t).length 0) s.map.length:=by rw [P']
   rw [this]; exact mY.congr (hu.obj _ (by have:=zA; omega))
end Go.Ce
namespace Go.Ce
open Go Go.Proofs Go.Proofs.Tryz
def JS (c:List Af) (l:List CE) (s:ByteArray):Option Int:=if (BC c s).isSome then (if (l.find? fun x=>decide (x.type=s)).isSome then some 214 else none) else some 213
structure fI (A:CW) (bk br r1 r2 w r:Nat) (c:List Af) (l:List CE):Prop where
 top:At A
 k:Aw A bk 78 [.map (some r1),.map (some r2)]
 rr:Aw A br 83 [.map (some w),.map (some r)]
 cat:DW A r1 r2 c
 w:O3 CE.type A w l
 rd:O3 CE.to A r l
theorem ADE:GP prog 48=some pN:=by kernel_rfl
theorem ADF:DC prog 48=some 5:=by kernel_rfl
theorem mg {A:CW} {bk br r1 r2 w r:Nat} {c:List Af} {l:List CE} (I:fI A bk br r1 r2 w r c l):mR A (.func (.func 75) #[] #[.pointer (some ⟨bk,0,none⟩),.pointer (some ⟨br,0,none⟩)]) (JS c l):=by
 intro s W K KP kA ht HJ gi; refine Ll Tryz.func75 (by kernel_rfl) ?_; refine zE (v0:=.string s) (v1:=.pointer (some ⟨bk,0,none⟩)) (v2:=.pointer (some ⟨br,0,none⟩)) ?_; rw [zD]; have hk:=I.k.ext I.top kA; have hr:=I.rr.ext I.top kA; have EY:=I.cat.kp I.top kA; simp only [HS,AA]; rw [AD pO (a:=⟨bk,0,none⟩) (hk.cell rfl)]; simp only [AA]; obtain ⟨ws,YT,hwl,hwo,_⟩:=XM EY.sh s; rw [YT]; simp only [AA,CA,CB]; refine DG (ws:=ws) ADE ADF rfl hwo hwl ht fun W2 k2 t2 z2 hB=>?_
 refine GH (fun h1=>?_) (fun h1=>?_)
 ·have Er:=(I.w.kp I.top (kA.trans k2))
  obtain ⟨ws2,L8,ADG,ADH⟩:=cZ Er s; simp only [XJ,AA]; rw [AD xS (a:=⟨br,0,none⟩) ((hr.ext ht k2).cell rfl)]; simp only [AA]; rw [L8]; simp only [AA,CA,CB]; refine DG (ws:=ws2) pV gR rfl ADH ADG t2 fun W5 k5 t5 z5 MI=>?_; simp only [Al,AA]
  refine GH (fun h2=>?_) (fun h2=>?_)
  ·have h2:(l.find? fun x=>decide (CE.type x=s)).isSome=false:=by simpa using h2
   exact cw (by kernel_rfl) _ _ (.inl rfl) _ _ (HJ (by unfold JS; rw [if_pos h1,if_neg (by rw [h2]; simp)]) _ W5 (k2.trans k5) t5)
  ·have h2:(l.find? fun x=>decide (CE.type x=s)).isSome=true:=by simpa using h2
   exact gi 214 (by unfold JS; rw [if_pos h1,if_pos h2]) W5 (k2.trans k5) t5
 ·exact gi 213 (by unfold JS; rw [if_neg (by rw [h1]; simp)]) W2 k2 t2
theorem Vb {c:List Af} {l:List CE} {s:ByteArray} (h:JS c l s=none):(BC c s).isSome=true∧(l.find? fun x=>decide (x.type=s))=none:=by
 unfold JS at h
 split at h
 ·rename_i h1
  split at h
  ·cases h
  ·rename_i h2; exact ⟨h1,by simpa using h2⟩
 ·cases h
theorem O8 {b:List UInt8} {ask:ByteArray→Option Int} (ha:∀ s e,ask s=some e→e≠0):∀ {k at_:Nat} {out:List ByteArray} {e:Int},IZ b ask k at_ out=.error e→e≠0
 | 0,at_,out,e,h=>by cases h
 | k+1,at_,out,e,h=>by
  unfold IZ at h
  split at h
  ·rename_i hn; cases h; exact FP hn
  ·split at h
   ·rename_i ht; cases h; rw [hZ ht]; decide
   ·split at h
    ·split at h
     ·rename_i hq; cases h; exact ha _ _ hq
     ·exact O8 ha h
    ·cases h; decide
where
 FP {b:List UInt8} {at_:Nat} {m e:Int} (h:Eo b at_ m=.error e):e≠0:=by
  unfold Eo at h
  split at h
  ·rename_i hg; cases h; exact Zc hg
  ·split at h
   ·cases h
   ·cases h; decide
 Zc {b:List UInt8}:∀ {f at_ n sh:Nat} {e:Int},LQ b f at_ n sh=.error e→e≠0
  | 0,_,_,_,_,h=>by cases h; decide
  | f+1,at_,n,sh,e,h=>by
   unfold LQ at h
   split at h
   ·cases h; decide
   ·split at h
    ·split at h
     ·cases h
     ·cases h; decide
    ·exact Zc h
theorem FP {b:List UInt8} {at_:Nat} {m e:Int} (h:Eo b at_ m=.error e):e≠0:=O8.FP h
theorem O9 {b:List UInt8} {c:List Af} {ix many:Nat}:∀ {m k at_ fd:Nat} {vs:List Int} {e:Int},E8 b c ix many m k at_ fd vs=.error e→e≠0
 | 0,_,_,_,_,_,h=>by cases h
 | m+1,k,at_,fd,vs,e,h=>by
  unfold E8 at h
  split at h
  ·split at h
   ·rename_i hn; cases h; exact FP hn
   ·exact O9 h
  ·split at h
   ·rename_i hn; cases h; exact FP hn
   ·exact O9 h
theorem TX {b:List UInt8} {c:List Af} {ts:List ByteArray} {many:Nat}:∀ {m i at_ used fd:Nat} {out:List BR} {e:Int},EF b c ts many m i at_ used fd out=.error e→e≠0
 | 0,_,_,_,_,_,_,h=>by cases h
 | m+1,i,at_,used,fd,out,e,h=>by
  unfold EF at h
  split at h
  ·split at h
   ·rename_i hn; cases h; exact FP hn
   ·split at h
    ·cases h; decide
    ·split at h
     ·cases h; decide
     ·split at h
      ·rename_i hn
       cases h
       split at hn
       ·exact FP hn
       ·cases hn
      ·split at h
       ·rename_i hv; cases h; exact O9 hv
       ·exact TX h
  ·cases h; decide
theorem QL {b:List UInt8} {c:List Af} {ask:ByteArray→Option Int} (ha:∀ s e,ask s=some e→e≠0) {at_:Nat} {e:Int} (h:Bn b c ask at_=.error e):e≠0:=by
 unfold Bn at h
 split at h
 ·rename_i hh
  cases h
  unfold Ia at hh
  split at hh
  ·rename_i hn; cases hh; exact FP hn
  ·split at hh
   ·split at hh
    ·rename_i hn; cases hh; exact FP hn
    ·exact O8 ha hh
   ·cases hh; decide
 ·split at h
  ·rename_i hn; cases h; exact FP hn
  ·split at h
   ·rename_i hg; cases h; exact TX hg
   ·split at h
    ·cases h
    ·cases h; decide
theorem Zd {c:List Af} {l:List CE}:∀ s e,JS c l s=some e→e≠0:=by
 intro s e h; unfold JS at h
 split at h
 ·split at h
  ·cases h; decide
  ·cases h
 ·cases h; decide
theorem O' {b:List UInt8} {c:List Af} {ix many:Nat}:∀ {m k at_ fd:Nat} {vs:List Int} {r:List Int × Nat × Nat},E8 b c ix many m k at_ fd vs=.ok r→r.1.length=vs.length+m
 | 0,_,_,_,_,_,h=>by cases h; rfl
 | m+1,k,at_,fd,vs,r,h=>by
  unfold E8 at h
  split at h
  ·split at h
   ·cases h
   ·have:=O' h; rw [this]; simp; omega
  ·split at h
   ·cases h
   ·have:=O' h; rw [this]; simp; omega
def fJ (c:List Af) (x:BR):Prop:=∃ ix,BC c x.type=some ix∧(elemAt c ix=0→x.AJ.length=(Ai c ix).length)
theorem TY {b:List UInt8} {c:List Af} {ts:List ByteArray} {many:Nat}:∀ {m i at_ used fd:Nat} {out:List BR} {r:List BR × Nat × Nat × Nat},EF b c ts many m i at_ used fd out=.ok r→(∀ x,x ∈ out→fJ c x)→∀ x,x ∈ r.1→fJ c x
 | 0,_,_,_,_,_,_,h,ho=>by cases h; exact ho
 | m+1,i,at_,used,fd,out,r,h,ho=>by
  unfold EF at h
  split at h
  ·split at h
   ·cases h
   ·split at h
    ·cases h
    ·rename_i ty _
     split at h
     ·cases h
     ·rename_i ix OA
      split at h
      ·cases h
      ·rename_i n a2 hn
       split at h
       ·cases h
       ·rename_i vs F3 a3 hv; refine TY h fun x hx=>?_
        rcases List.mem_append.1 hx with hx | hx
        ·exact ho x hx
        ·cases List.mem_singleton.1 hx
         refine ⟨ix,OA,fun he=>?_⟩; rw [if_neg (by simp [he])] at hn
         cases hn
         have:=O' hv
         simpa using this
  ·cases h
theorem Ze {b:List UInt8} {c:List Af} {ask:ByteArray→Option Int} {at_:Nat} {r:List BR × Nat} (h:Bn b c ask at_=.ok r):(∀ x,x ∈ r.1→fJ c x)∧r.1.length≤1000:=by
 unfold Bn at h
 split at h
 ·cases h
 ·split at h
  ·cases h
  ·rename_i many a2 hn
   split at h
   ·cases h
   ·rename_i hg
    split at h
    ·cases h
     obtain ⟨hm,_,_⟩:=Ey hn; exact ⟨TY hg (fun x hx=>by cases hx),by have:=TZ hg; simp at this; simp only; omega⟩
    ·cases h
where
 TZ {b:List UInt8} {c:List Af} {ts:List ByteArray} {many:Nat}:∀ {m i at_ used fd:Nat} {out:List BR} {r:List BR × Nat × Nat × Nat},EF b c ts many m i at_ used fd out=.ok r→r.1.length=out.length+m
  | 0,_,_,_,_,_,_,h=>by cases h; rfl
  | m+1,i,at_,used,fd,out,r,h=>by
   unfold EF at h
   split at h
   ·split at h
    ·cases h
    ·split at h
     ·cases h
     ·split at h
      ·cases h
      ·split at h
       ·cases h
       ·split at h
        ·cases h
        ·rw [TZ h]; simp; omega
   ·cases h
end Go.Ce
namespace Go.Ce
open Go Go.Proofs Go.Proofs.Tryz
def iD (x:BR):Prop:=∀ v,v ∈ x.AJ→-9223372036854775808≤v∧v≤9223372036854775807
theorem Tm {b:List UInt8} {c:List Af} {ix many:Nat} (hm:many≤1000):∀ {m k at_ fd:Nat} {vs:List Int} {r:List Int × Nat × Nat},E8 b c ix many m k at_ fd vs=.ok r→(∀ v,v ∈ vs→-9223372036854775808≤v∧v≤9223372036854775807)→∀ v,v ∈ r.1→-9223372036854775808≤v∧v≤9223372036854775807
 | 0,_,_,_,_,_,h,hv=>by cases h; exact hv
 | m+1,k,at_,fd,vs,r,h,hv=>by
  unfold E8 at h
  split at h
  ·split at h
   ·cases h
   ·rename_i n a hn; obtain ⟨h1,_,_⟩:=Ey hn; refine Tm hm h fun v jo=>?_
    rcases List.mem_append.1 jo with hq | hq
    ·exact hv v hq
    ·rw [List.mem_singleton.1 hq]; omega
  ·split at h
   ·cases h
   ·rename_i n a hn; obtain ⟨h1,_,_⟩:=Ey hn; refine Tm hm h fun v jo=>?_
    rcases List.mem_append.1 jo with hq | hq
    ·exact hv v hq
    ·rw [List.mem_singleton.1 hq]; unfold OD; split <;> omega
theorem Vc {b:List UInt8} {c:List Af} {ts:List ByteArray} {many:Nat} (hmn:many≤1000):∀ {m i at_ used fd:Nat} {out:List BR} {r:List BR × Nat × Nat × Nat},EF b c ts many m i at_ used fd out=.ok r→(∀ x,x ∈ out→iD x)→∀ x,x ∈ r.1→iD x
 | 0,_,_,_,_,_,_,h,ho=>by cases h; exact ho
 | m+1,i,at_,used,fd,out,r,h,ho=>by
  unfold EF at h
  split at h
  ·split at h
   ·cases h
   ·split at h
    ·cases h
    ·split at h
     ·cases h
     ·split at h
      ·cases h
      ·split at h
       ·cases h
       ·rename_i vs F3 a3 hv; refine Vc hmn h fun x hx=>?_
        rcases List.mem_append.1 hx with hx | hx
        ·exact ho x hx
        ·cases List.mem_singleton.1 hx
         exact Tm hmn hv (fun v hv=>by cases hv)
  ·cases h
theorem dD {b:List UInt8} {c:List Af} {ask:ByteArray→Option Int} {at_:Nat} {r:List BR × Nat} (h:Bn b c ask at_=.ok r):∀ x,x ∈ r.1→iD x:=by
 unfold Bn at h
 split at h
 ·cases h
 ·split at h
  ·cases h
  ·rename_i many a2 hn
   split at h
   ·cases h
   ·rename_i hg
    split at h
    ·cases h
     obtain ⟨hm,_,_⟩:=Ey hn; exact Vc (by omega) hg (fun x hx=>by cases hx)
    ·cases h
theorem Zf {mp vs z:List Int} (hz:∀ v,v ∈ z→-9223372036854775808≤v∧v≤9223372036854775807) (hv:∀ v,v ∈ vs→-9223372036854775808≤v∧v≤9223372036854775807):∀ n v,v ∈ E9 mp vs z n→-9223372036854775808≤v∧v≤9223372036854775807
 | 0,v,h=>hz v h
 | n+1,v,h=>by
  rw [E9] at h
  rcases List.mem_or_eq_of_mem_set h with h | h
  ·exact Zf hz hv n v h
  ·rw [h]
   cases hq:vs[n]? with
   | none=>rw [Option.getD_none]; omega
   | some w=>rw [oy]; exact hv w (List.mem_of_getElem? hq)
theorem mh {c:List Af} {l:List CE} {x:BR} (h:iD x):iD (BP c l x):=by
 unfold BP
 split
 ·exact h
 ·split
  ·exact h
  ·exact Zf (fun v hv=>by rw [List.eq_of_mem_replicate hv]; omega) h _
theorem H3:∀ (l:List (BR × Value)) (k:Nat),(l.flatMap DJ)[k]?=(l[k / 2]?).bind fun q=>(DJ q)[k % 2]?
 | [],k=>by simp
 | q::l,0=>rfl
 | q::l,1=>rfl
 | q::l,k+2=>by
  have h:((q::l).flatMap DJ)[k+2]?=(l.flatMap DJ)[k]?:=by
   simp only [List.flatMap_cons]; rfl
  rw [h,H3 l k,show (k+2) / 2=k / 2+1 by omega,show (k+2) % 2=k % 2 by omega]; rfl
theorem mi {l:List (BR × Value)} {i:Nat} (hi:i<l.length) (q:BR × Value):putAt (l.flatMap DJ) (0+i*2) (DJ q)=(l.set i q).flatMap DJ:=by
 apply List.ext_getElem?; intro k; have hl:=DH l; have h2:(DJ q).length=2:=rfl; rw [JD (by rw [hl,h2]; omega),H3,H3,h2,List.getElem?_set]
 by_cases e:i=k / 2
 ·rw [if_pos ⟨by omega,by omega⟩,if_pos e,if_pos hi]; show _=(DJ q)[k % 2]?; congr 1; omega
 ·rw [if_neg (by omega),if_neg e]
theorem iE {l:List Value} (h:l.Nodup) {i:Nat} {x:Value} (hx:x ∉ l∨l[i]?=some x):(l.set i x).Nodup:=by
 rcases hx with hx | hx
 ·unfold List.Nodup at h ⊢; rw [List.pairwise_iff_getElem] at h ⊢; intro j k hj hk hjk; rw [List.length_set] at hj hk; rw [List.getElem_set,List.getElem_set]
  split
  ·rw [if_neg (by omega)]; exact fun e=>hx (e ▸ List.getElem_mem _)
  ·split
   ·exact fun e=>hx (e ▸ List.getElem_mem _)
   ·exact h j k hj hk hjk
 ·have:l.set i x=l:=by
   apply List.ext_getElem?; intro k; rw [List.getElem?_set]
   split
   ·rename_i e; subst e; rw [if_pos (List.getElem?_eq_some_iff.1 hx).1,hx]
   ·rfl
  rw [this]; exact h
theorem mj {B:Nat} {W:CW} {v:Value} {ps:List (BR × Value)} (h:EG B W v ps) (hb:∀ p,p ∈ ps→iD p.1):Ay 2 (Fk W) v (ps.map (·.1)):=by
 have hl:=DH ps; have hpv:=h.pv; obtain ⟨hO,_,_,_⟩:=h; generalize fj:ps.flatMap DJ=cs at hO hl
 cases hO with
 | nil =>
  have:ps=[]:=List.length_eq_zero_iff.1 (by simp at hl; omega); subst this; exact ⟨none,0,rfl,fun i x hx=>by cases hx⟩
 | @some b0 len _ hB L8 =>
  have Z7:len=ps.length:=by omega
  refine ⟨some ⟨b0,0,none⟩,len,by rw [List.length_map,Z7],fun i x hx=>⟨_,rfl,?_⟩⟩; rw [List.getElem?_map,Option.map_eq_some_iff] at hx; obtain ⟨p,hp,rfl⟩:=hx; have rU:=List.mem_of_getElem? hp; obtain ⟨bv,h1,h2,_⟩:=hpv p rU
  have hg:∀ j,j<2→cs[i*2+j]?=(DJ p)[j]?:=fun j hj=>by
   rw [←fj,H3,show (i*2+j) / 2=i by omega,show (i*2+j) % 2=j by omega,hp]; rfl
  refine ⟨?_,p.2,?_,?_⟩
  ·show W.cell b0 (0+i*2)=_; rw [Nat.zero_add]; exact hB.cell (hg 0 (by omega))
  ·show W.cell b0 (0+i*2+1)=_; rw [Nat.zero_add]; exact hB.cell (hg 1 (by omega))
  ·refine ⟨some ⟨bv,0,none⟩,p.1.AJ.length,h1,fun j y hy=>⟨_,rfl,?_,hb p rU y (List.mem_of_getElem? hy)⟩⟩; show W.cell bv (0+j*1)=_; rw [show 0+j*1=j by omega]; refine h2.cell ?_; unfold Bz; rw [List.getElem?_map,hy]; rfl
theorem ml {A W:CW} {K:AG} {e:Env} {bk br Ix B r1 r2 w r:Nat} {vo:Value} {c:List Af} {l:List CE} {ps:List (BR × Value)} (Q:fI A bk br r1 r2 w r c l) (hC:Qz c) (hs:BZ c l=true) (Xm:∀ s,s ∈ l→s.map.length<100000) (JP:∀ p,p ∈ ps→fJ c p.1) (Un:∀ p,p ∈ ps→iD p.1) (Z7:ps.length≤1000)
  (kA:Kp A W) (t0:At W) (hAB:A.sz≤B) (dE:A.sz≤Ix) (qG:Aw W Ix 24 [vo]) (hH:EG B W vo ps)
  (g9:e 9=.pointer (some ⟨bk,0,none⟩)) (rV:e 11=.pointer (some ⟨br,0,none⟩)) (g12:e 12=.pointer (some ⟨Ix,0,none⟩)) (g37:e 37=vo) (g38:e 38=.int .i64 ps.length) (g39:e 39=.int .i64 0)
  (EA:∀ e' W' qs,Kp A W'→At W'→Aw W' Ix 24 [vo]→EG B W' vo qs→qs.map (·.1)=ps.map (fun p=>BP c l p.1)→e' 12=.pointer (some ⟨Ix,0,none⟩)→K (.exit 0) e' [] W') :
  C1 prog AT none 19 56 (.loop (Ag prog 19 0)) e [] W K:=by
 refine Du (fun i e' C_ W'=>C_=[]∧Kp A W'∧At W'∧Aw W' Ix 24 [vo]∧e' 9=.pointer (some ⟨bk,0,none⟩)∧e' 11=.pointer (some ⟨br,0,none⟩)∧e' 12=.pointer (some ⟨Ix,0,none⟩)∧e' 37=vo∧e' 38=.int .i64 ps.length∧e' 39=.int .i64 i∧∃ qs,qs.length=i∧EG B W' vo (qs++ps.drop i)∧qs.map (·.1)=(ps.take i).map (fun p=>BP c l p.1)) ps.length
  ⟨rfl,kA,t0,qG,g9,rV,g12,g37,g38,g39,[],rfl,hH,rfl⟩ ?_
 rintro i e' C_ W' hi ⟨rfl,rT,t',mm,h9,rX,fC,h37,h38,h39,qs,rY,qH,xZ⟩; rw [tK,h37,h38,h39]; simp only [A6,AA]; refine Gx (fun Ax=>?_) (fun NW=>?_)
 rotate_left
 ·have QP:i=ps.length:=by omega
  subst QP; simp only [ON]; refine EA _ W' qs rT t' mm ?_ (by rw [xZ,List.take_length]) (by simp only [Aa,Av,Nat.reduceEqDiff,↓reduceIte,fC])
  simpa using qH
 ·have hp:=List.getElem?_eq_getElem Ax; generalize hpp:ps[i]=p at hp; have rU:p ∈ ps:=List.mem_of_getElem? hp; have Na:ps.drop i=p::ps.drop (i+1):=by rw [←hpp]; exact List.drop_eq_getElem_cons Ax
  have Xo:(qs++ps.drop i)[i]?=some p:=by rw [List.getElem?_append_right (by omega),rY,Nat.sub_self,Na]; rfl
  have fi:(qs++ps.drop i).length=ps.length:=by rw [List.length_append,List.length_drop,rY]; omega
  have Hm:=DH (qs++ps.drop i); obtain ⟨bv,hv,mL,hBB⟩:=qH.pv p (List.mem_of_getElem? Xo)
  obtain ⟨b0,hvo,eo,AEI⟩:∃ b0,vo=.slice (some ⟨b0,0,none⟩) ps.length ps.length∧Aw W' b0 56 ((qs++ps.drop i).flatMap DJ)∧B≤b0:=by
   have hO:=qH.own; have hN:=qH.new; generalize (qs++ps.drop i).flatMap DJ=cs at hO Hm
   cases hO with
   | nil=>simp at Hm; omega
   | @some b0 len _ hB hl =>
    have:len=ps.length:=by omega
    subst this; exact ⟨b0,rfl,hB,hN _ _ _ rfl⟩
  subst hvo; rw [BH L4 Io Ax]; simp only [AA]
  have BA:Cells W' b0 (0+i*2) (DJ p):=fun j v hj=>by
   have oO:j<2:=by have:=(List.getElem?_eq_some_iff.1 hj).1; simpa [DJ] using this
   refine eo.cell ?_; rw [H3,show (0+i*2+j) / 2=i by omega,show (0+i*2+j) % 2=j by omega,Xo]; exact hj
  rw [Bd (vs:=DJ p) (a:=⟨b0,0+i*2,none⟩) Yr Io rfl (by omega) BA]; simp only [AA]; have Mo:(DJ p).all BB=true:=by unfold DJ; rw [hv]; rfl
  refine DG (ws:=DJ p) q7 Io rfl Mo rfl t' fun W2 k2 t2 z2 AAv=>?_; have NG:=rT.trans k2; have dF:=mm.ext t' k2; rw [fC,rX,h9]; rw [AD pk (a:=⟨Ix,0,none⟩) (dF.cell rfl),XL ((Q.rr.ext Q.top NG)),MH (Q.k.ext Q.top NG),Bd (vs:=DJ p) (a:=⟨W'.sz,0,none⟩) Yr Io rfl (by omega) AAv.cells]; simp only [AA]; have ADI:=mL.ext t' k2
  have eu:Ay 1 (EW W2) p.2 p.1.AJ:=by
   refine ⟨some ⟨bv,0,none⟩,p.1.AJ.length,hv,fun j y hy=>⟨_,rfl,?_,Un p rU y (List.mem_of_getElem? hy)⟩⟩; show W2.cell bv (0+j*1)=_; rw [show 0+j*1=j by omega]; refine ADI.cell ?_; unfold Bz; rw [List.getElem?_map,hy]; rfl
  have hm:∀ s,TW l p.1.type=some s→s.map.length≤p.1.AJ.length∧∃ t,BC c s.type=some t∧∀ m,m ∈ s.map→0≤m∧m.toNat<(Ai c t).length:=by
   intro s KM; unfold TW at KM; have xa:s.to=p.1.type:=by simpa using List.find?_some KM
   obtain ⟨j,hj⟩:=List.getElem?_of_mem (List.mem_of_find?_eq_some KM); obtain ⟨t,a,S⟩:=cB hs hj; obtain ⟨ix,OA,Xi⟩:=JP p rU; rw [←xa,S.ai] at OA
   cases OA
   refine ⟨by rw [Xi S.ea,S.len]; exact Nat.le_refl _,t,S.ti,fun m Ob=>?_⟩; obtain ⟨k,hk⟩:=List.getElem?_of_mem Ob; have cS:k<(Ai c a).length:=by rw [←S.len]; exact (List.getElem?_eq_some_iff.1 hk).1
   obtain ⟨n,R3,P0,lq,_⟩:=S.map k cS; rw [hk] at R3
   cases R3
   omega
  refine (iC (w:=w) (r:=r) (r1:=r1) (r2:=r2) t2 (Q.rd.kp Q.top NG) (Q.cat.kp Q.top NG) hC eu hm Xm).mono fun en W3 ⟨k3,t3,vv,GI,aY⟩=>?_; subst GI; refine Ad ?_; have k23:=k2.trans k3; have UE:=NG.trans k3; have wJ:=dF.ext t2 k3; have mn:=eo.ext t' k23; rw [BH L4 Io Ax]; simp only [AA]; generalize hy:BP c l p.1=y at aY
  have mE:(DJ (y,vv)).all BB=true:=by
   rcases aY with ⟨rfl,_⟩ | ⟨bv2,rfl,_⟩
   ·unfold DJ; rw [hv]; rfl
   ·rfl
  refine Dk Io (a:=⟨b0,0+i*2,none⟩) (ws:=DJ (y,vv)) mE rfl mn (by show 0+i*2+2≤_; rw [Hm,fi]; omega) fun W4 iF KY=>?_; have iF:DM b0 W3 W4:=iF
  have jy:(qs++ps.drop i).set i (y,vv)=(qs++[(y,vv)])++ps.drop (i+1):=by
   rw [Na,List.set_append_right _ _ (by omega),rY,Nat.sub_self]; simp
  have KY:Aw W4 b0 56 (((qs++[(y,vv)])++ps.drop (i+1)).flatMap DJ):=by
   rw [←jy,←mi (by rw [fi]; exact Ax)]; exact KY
  have AAw:Ix≠b0:=by
   rintro rfl; have:=Bb mm eo; cases this
  have ADJ:=mn.lt t3; have t4:=t3.A4 ADJ iF; have l15:∀ W0,Kp W2 W0→ld prog 24 (.pointer (some ⟨Ix,0,none⟩)) W0=some (.slice (some ⟨b0,0,none⟩) ps.length ps.length):=fun W0 k0=>AD pk (a:=⟨Ix,0,none⟩) ((dF.ext t2 k0).cell rfl); refine ⟨by simp only [Bd (vs:=DJ p) (a:=⟨W'.sz,0,none⟩) Yr Io rfl (by omega) AAv.cells,l15 W2 (.refl _),l15 W3 k3,XL ((Q.rr.ext Q.top NG)),MH (Q.k.ext Q.top NG),and_self],trivial,?_⟩; simp only [eO,Bs,HC]; simp only [Aa,Av,Nat.reduceEqDiff,↓reduceIte,h39,Ap,AA]
  have mo:∀ {j:Nat} {ws:List Value},Aw W3 j 3 ws→Aw W4 j 3 ws:=fun {j ws} hB=>hB.congr (iF.obj j (by
   rintro rfl
   have:=Bb hB mn; cases this))
  refine ⟨Ax,trivial,UE.A4 (by omega) iF,t4,wJ.congr (iF.obj _ AAw),?_,?_,?_,?_,?_,?_,qs++[(y,vv)],by simp [rY],⟨?_,qH.new,fun q hq=>?_,?_⟩,?_⟩
  ·simp only [h9]
  ·simp only [rX]
  ·simp only [fC]
  ·simp only [h37]
  ·simp only [h38]
  ·rw [Dv (by omega)]
  ·refine DN.some KY ?_; rw [DH,←jy,List.length_set,fi]
  ·have old:∀ q,q ∈ qs++ps.drop i→∃ bv,q.2=.slice (some ⟨bv,0,none⟩) q.1.AJ.length q.1.AJ.length∧Aw W4 bv 3 (Bz q.1.AJ)∧B≤bv:=fun q hq=>by
    obtain ⟨bq,h1,h2,h3⟩:=qH.pv q hq; exact ⟨bq,h1,mo (h2.ext t' k23),h3⟩
   rw [List.append_assoc] at hq
   rcases List.mem_append.1 hq with hq | hq
   ·exact old q (List.mem_append_left _ hq)
   ·rcases List.mem_append.1 hq with hq | hq
    ·cases List.mem_singleton.1 hq
     rcases aY with ⟨h1,h2⟩ | ⟨bv2,h1,h2,h3⟩
     ·refine ⟨bv,?_,?_,hBB⟩
      ·show vv=_; rw [h1,hv]; show _=Value.slice _ y.AJ.length y.AJ.length; rw [h2]
      ·show Aw W4 bv 3 (Bz y.AJ); rw [h2]; exact mo (mL.ext t' k23)
     ·have:=k2.sz; have:=VL t' qH.own (⟨_,_,_,rfl,rfl⟩:C2 (.slice (some ⟨b0,0,none⟩) ps.length ps.length) b0); exact ⟨bv2,h1,mo h2,by omega⟩
    ·exact old q (List.mem_append_right _ (by rw [Na]; exact List.mem_cons_of_mem _ hq))
  ·rw [←jy,List.map_set]; refine iE qH.nd ?_
   rcases aY with ⟨h1,_⟩ | ⟨bv2,h1,_,h3⟩
   ·right; rw [List.getElem?_map,Xo,h1]; rfl
   ·left; intro hm; obtain ⟨q,hq,he⟩:=List.mem_map.1 hm; obtain ⟨bq,g1,g2,_⟩:=qH.pv q hq; have hl:=g2.lt t'; have:=k2.sz; have he:q.2=vv:=he; rw [g1,h1] at he; have e2:bq=bv2:=by injection he with e1; injection e1 with e1; injection e1
    omega
  ·rw [List.map_append,xZ,List.take_add_one,hp,List.map_append,←hy]; rfl
end Go.Ce
namespace Go.Ce
open Go Go.Proofs Go.Proofs.Tryz
theorem ADK:GP prog 24=some (.slice none 0 0):=by kernel_rfl
theorem EG.low {B B':Nat} {W:CW} {v:Value} {ps:List (BR × Value)} (h:EG B W v ps) (hB:B'≤B):EG B' W v ps:=⟨h.own,fun b l c e=>by have:=h.new b l c e; omega,fun p hp=>by
 obtain ⟨bv,h1,h2,h3⟩:=h.pv p hp
 exact ⟨bv,h1,h2,by omega⟩,h.nd⟩
def C7 (c:List Af) (l:List CE) (b:List UInt8):List BR × Int × Int :=
 if BN c=false then ([],0,210) else if BZ c l=false then ([],0,212) else if 100000<b.length then ([],0,2) else match Bn b c (JS c l) 0 with
 | .error e=>([],0,e)
 | .ok (xs,_)=>(xs.map (BP c l),min (xs.length:Int) 1,0)
def Zg (r:List BR × Int × Int) (W:CW):Ending→CW→Prop:=fun en W'=>Kp W W'∧At W'∧∃ v qs,en=.returned (.tuple #[v,.int .i64 r.2.1,.int .i64 r.2.2])∧EG W.sz W' v qs∧qs.map (·.1)=r.1∧∀ q,q ∈ qs→iD q.1
structure dG (A:CW) (vb:Value) (b:List UInt8):Prop where
 sl:∃ a cap,vb=.slice a b.length cap∧b.length≤cap∧∀ i x,b[i]?=some x→∃ p,a=some p∧JE A p.block (p.off+i*1) x
theorem dG.kp {A W:CW} {vb:Value} {b:List UInt8} (h:dG A vb b) (ht:At A) (k:Kp A W):dG W vb b:=by
 obtain ⟨a,cap,h1,h2,h3⟩:=h.sl
 exact ⟨a,cap,h1,h2,fun i x hx=>by
  obtain ⟨p,q1,q2⟩:=h3 i x hx
  exact ⟨p,q1,k.cell ht q2⟩⟩
theorem qI {A W:CW} {bk br r1 r2 w r Ix rb:Nat} {vb:Value} {b:List UInt8} {c:List Af} {l:List CE} (Q:fI A bk br r1 r2 w r c l) (I:ZU A vb b) (h:Rd A W rb vb 0) (qG:Aw W Ix 24 [.slice none 0 0]) (xD:A.sz≤Ix) (Dp:Ix≠rb) (Ae:BN c=true) (hC:Qz c) {K:Value→CW→Prop} {KP:List PanicEntry→CW→Prop}
  (hk:∀ W' v xs DX ps,Bn b c (JS c l) 0=.ok (xs,DX)→Bl (fun j=>j=rb∨j=Ix) W W'→At W'→Aw W' Ix 24 [v]→EG W.sz W' v ps→ps.map (·.1)=xs→K (.tuple #[]) W')
  (hp:∀ W' x,Bn b c (JS c l) 0=.error x→Bl (Ug rb) W W'→At W'→KP (C6 x) W') :
  Dj prog AT (.func (.func 73) #[] #[.pointer (some ⟨bk,0,none⟩),.pointer (some ⟨br,0,none⟩),.pointer (some ⟨Ix,0,none⟩)]) [.pointer (some ⟨rb,0,none⟩)] W K KP:=by
 refine Ll Tryz.func73 (by kernel_rfl) ?_; refine y9 (v0:=.pointer (some ⟨rb,0,none⟩)) (v1:=.pointer (some ⟨bk,0,none⟩)) (v2:=.pointer (some ⟨br,0,none⟩)) (v3:=.pointer (some ⟨Ix,0,none⟩)) ?_; rw [y8]; rw [MH (Q.k.ext Q.top h.kp)]; simp only [AA]; refine (ZY (c:=c) I h (Nat.zero_le _) (mg Q) (fun s hs=>(Vb hs).1) Q.cat Ae hC).mono fun en W1 ⟨k1,t1,hr⟩=>?_
 cases IB:Bn b c (JS c l) 0 with
 | error x =>
  rw [IB] at hr; simp only at hr; subst hr; exact hp W1 x IB k1 t1
 | ok r =>
  obtain ⟨xs,DX⟩:=r; rw [IB] at hr; obtain ⟨v,GI,⟨ps,h1,h2⟩,_⟩:=hr; subst GI; refine Ad ?_; have lN:=k1.G1 h.top (b:=Ix) Dp qG; refine Ak s24 (a:=⟨Ix,0,none⟩) (v:=v) (b_ h2.own) lN (by simp) fun W2 hu HD=>?_; have hu:DM Ix W1 W2:=hu; have hl:=qG.lt h.top; refine cw (by kernel_rfl) _ _ (.inl rfl) _ _ (hk W2 v xs DX ps IB ⟨by rw [hu.sz]; exact k1.sz,fun j hj hS=>?_⟩ (t1.A4 (lN.lt t1) hu) HD (h2.of fun j o hj ho _=>by rw [hu.obj j (by omega)]; exact ho) h1); rw [hu.obj j (fun e=>hS (.inr e)),k1.obj j hj (fun e=>hS (.inl e))]
theorem Vd {v0 v1 vb:Value} {c:List Af} {l:List CE} {b:List UInt8} {W:CW} (ht:At W) (hc:Ay 5 (MF W) v0 c) (hC:Qz c) (hl:Ay 3 (Ou W) v1 l) (fi:l.length<100000) (Xm:∀ s,s ∈ l→s.map.length<100000) (hb:dG W vb b) :
  AH prog AT 19 [v0,v1,vb] W (Zg (C7 c l b) W):=by
 refine yy ?_; rw [yw]; generalize JO:AK prog Tryz.f19 (Zg (C7 c l b) W)=KK
 have F1:∀ (e':Env) W' v n m qs,Kp W W'→At W'→e' 6=v→e' 7=.int .i64 n→e' 8=.int .i64 m→EG W.sz W' v qs→(∀ q,q ∈ qs→iD q.1)→C7 c l b=(qs.map (·.1),n,m)→KK .ret e' [] W':=by
  intro e' W' v n m qs k t h6 h7 h8 hH Un hn; rw [←JO,gN,h6,h7,h8,hn]; exact ⟨k,t,v,qs,rfl,hH,rfl,Un⟩
 have Gq:∀ W',EG W.sz W' (.slice none 0 0) []:=fun W'=>⟨DN.nil,Bw.nil _ _ _,fun p hp=>(by cases hp),List.nodup_nil⟩
 refine (N9 ht hc hC).mono fun en W1 ⟨k1,t1,r1,r2,GI,H6,OP,EY⟩=>?_; subst GI; refine Ad ?_; refine A3 (CA _ _) ?_; refine A3 (CB _ _) ?_; unfold IA; refine DG (ws:=[.map (some r1),.map (some r2)]) pR N7 rfl rfl rfl t1 fun W3 k3 t3 z3 hB9=>?_; have jO:=k1.trans k3; simp only [Al,AA]
 cases Ae:BN c with
 | false =>
  simp only [Bool.not_false,Bm]; exact F1 _ W3 _ 0 210 [] jO t3 rfl rfl rfl (Gq _) (fun q hq=>by cases hq) (by unfold C7; rw [if_pos Ae]; rfl)
 | true =>
  simp only [Bool.not_true,Ao]; have Mh:=(EY Ae).kp t1 k3; rw [MH hB9]; simp only [AA]; refine (ZI t3 Mh hC (hl.imp fun _ _ _ hr=>hr.kp ht jO) fi Xm).mono fun en W4 ⟨k4,t4,w,r,GI,KM⟩=>?_; subst GI; refine Ad ?_; refine A3 (CA _ _) ?_; refine A3 (CB _ _) ?_; refine DG (ws:=[.map (some w),.map (some r)]) z83 vC rfl rfl rfl t4 fun A k7 tA z7 N'=>?_; have k3A:=k4.trans k7; have iG:=jO.trans k3A; simp only [Al,AA]
  cases hs:BZ c l with
  | false =>
   simp only [Bool.not_false,Bm]; exact F1 _ A _ 0 212 [] iG tA rfl rfl rfl (Gq _) (fun q hq=>by cases hq) (by unfold C7; rw [if_neg (by rw [Ae]; simp),if_pos hs]; rfl)
  | true =>
   simp only [Bool.not_true,Ao]; obtain ⟨hsw,sP⟩:=KM hs; have Q:fI A W1.sz W4.sz r1 r2 w r c l:=⟨tA,hB9.ext t3 k3A,N',Mh.kp t3 k3A,hsw.kp t4 k7,sP.kp t4 k7⟩
   have hbA:=hb.kp ht iG; refine Hu ADK s24 tA fun T k8 tT zT dE=>?_; have dE:Aw T A.sz 24 [.slice none 0 0]:=dE; obtain ⟨a,cap,aF,UL,gk⟩:=hbA.sl; rw [aF]
   have Iu:C7 c l b=(if 100000<b.length then ([],0,2) else match Bn b c (JS c l) 0 with
    | .error e=>([],0,e)
    | .ok (xs,_)=>(xs.map (BP c l),min (xs.length:Int) 1,0)):=by
    unfold C7; rw [if_neg (by rw [Ae]; simp),if_neg (by rw [hs]; simp)]
   have fx:∀ x,Bn b c (JS c l) 0=.error x→x≠0:=fun x=>QL Zd; have hTn:Kp A T:=k8
   refine (dC (Q:=fun en W'=>Kp A W'∧At W'∧∃ x,en=.returned (.int .i64 x)∧((x≠0∧C7 c l b=([],0,x))∨(x=0∧∃ v xs DX ps,C7 c l b=(xs.map (BP c l),min (xs.length:Int) 1,0)∧Bn b c (JS c l) 0=.ok (xs,DX)∧Aw W' A.sz 24 [v]∧EG A.sz W' v ps∧ps.map (·.1)=xs))) tT (fun X5 W' k t=>⟨k8.trans k,t,2,rfl,.inl ⟨by decide,by rw [Iu,if_pos X5]⟩⟩) (fun Ua W0 k t hz hBe hBr=>?_)).mono fun en W' ⟨kk,tt,x,GI,aY⟩=>?_
   ·have rZ:=k8.trans k
    have AAx:C7 c l b=(match Bn b c (JS c l) 0 with
     | .error e=>([],0,e)
     | .ok (xs,_)=>(xs.map (BP c l),min (xs.length:Int) 1,0)):=by rw [Iu,if_neg (by omega)]
    have I:ZU A (.slice a b.length cap) b:=⟨tA,⟨a,cap,rfl,UL,gk⟩,Ua⟩
    have R:Rd A W0 (T.sz+1) (.slice a b.length cap) 0:=⟨rZ,t,by omega,hBr⟩
    refine qI Q I R (dE.ext tT k) (Nat.le_refl _) (by omega) Ae hC (fun W3 v xs DX ps IB Gp t3 Gk hH3 O2=>?_) (fun W4 x IB Gp t4=>?_)
    ·refine ⟨t3,Gp.G1 t (fun h=>by omega) hBe,fun W' hu t'=>⟨⟨?_,fun j hj=>?_⟩,t',0,rfl,.inr ⟨rfl,v,xs,DX,ps,?_,IB,?_,?_,O2⟩⟩⟩
     ·have h1:=rZ.sz; have h2:=Gp.sz; have h3:=hu.sz; omega
     ·have h1:=rZ.sz; have h2:=Gp.sz; rw [hu.obj j (by omega) (by omega),Gp.obj j (by omega) (fun h=>by omega),rZ.obj j hj]
     ·rw [AAx,IB]
     ·exact Gk.congr (hu.obj _ (Gk.lt t3) (by omega))
     ·exact (hH3.of fun j o hj ho _=>by rw [hu.obj j (t3 _ _ ho) (by omega)]; exact ho).low rZ.sz
    ·refine ⟨x,rfl,t4,Gp.G1 t (fun h=>by have:T.sz=T.sz+1:=h; omega) hBe,fun W' hu t'=>⟨⟨?_,fun j hj=>?_⟩,t',x,rfl,.inl ⟨fx x IB,by rw [AAx,IB]⟩⟩⟩
     ·have h1:=rZ.sz; have h2:=Gp.sz; have h3:=hu.sz; omega
     ·have h1:=rZ.sz; have h2:=Gp.sz; rw [hu.obj j (by omega) (by omega),Gp.obj j (by omega) (fun h=>by have:j=T.sz+1:=h; omega),rZ.obj j hj]
   ·subst GI; refine Ad ?_; simp only [B_,AA]
    rcases aY with ⟨hx,hr⟩ | ⟨rfl,v,xs,DX,ps,hr,IB,hB,hH,O2⟩
    ·rw [show (x != 0)=true by simpa using hx,Bm]; exact F1 _ W' _ 0 x [] (iG.trans kk) tt rfl rfl rfl (Gq _) (fun q hq=>by cases hq) hr
    ·rw [show ((0:Int) != 0)=false from rfl,Ao]; rw [AD pk (a:=⟨A.sz,0,none⟩) (hB.cell rfl)]; simp only [AA]; obtain ⟨JP,LS⟩:=Ze IB; have Un:=dD IB; subst O2; rw [List.length_map] at LS
     have hlen:AY prog 24 v W'=some (.int .i64 ps.length):=by
      have:=DH ps; exact LI L4 hH.own (by omega) (by omega)
     rw [hlen]; simp only [AA]; refine ml (c:=c) (l:=l) (ps:=ps) Q hC hs Xm (fun p hp=>JP _ (List.mem_map_of_mem hp)) (fun p hp=>Un _ (List.mem_map_of_mem hp)) LS kk tt (Nat.le_refl _) (Nat.le_refl _) hB hH rfl rfl rfl rfl rfl rfl (fun e' W2 qs NG t2 HD hH2 xZ fC=>?_); simp only [eN,Bs,VD,Md]; rw [fC]; have L8:ld prog 24 (.pointer (some ⟨A.sz,0,none⟩)) W2=some v:=AD pk (a:=⟨A.sz,0,none⟩) (HD.cell rfl); rw [L8]
     have rY:qs.length=ps.length:=by
      have:=congrArg List.length xZ
      simpa using this
     have AAy:AY prog 24 v W2=some (.int .i64 qs.length):=by
      have:=DH qs; exact LI L4 hH2.own (by omega) (by omega)
     simp only [AA]; rw [AAy]; simp only [AA]; rw [fD]; simp only [lG]; refine ⟨by simp only [L8,and_self],trivial,?_⟩; refine F1 _ W2 v (min (qs.length:Int) 1) 0 qs (iG.trans NG) t2 rfl rfl rfl (hH2.low (by have:=iG.sz; omega)) (fun q hq=>?_) (by rw [hr,List.map_map,xZ,List.length_map,rY]; rfl); have:q.1 ∈ ps.map (fun p=>BP c l p.1):=by rw [←xZ]; exact List.mem_map_of_mem hq
     obtain ⟨p,hp,he⟩:=List.mem_map.1 this; rw [←he]; exact mh (Un _ (List.mem_map_of_mem hp))
end Go.Ce
namespace Go.Ce
open Go Go.Proofs Go.Proofs.Tryz
def bI (b:List UInt8):List Int:=b.map fun x=>((x.toNat:Nat):Int)
theorem XT (b:List UInt8):(bI b).length=b.length:=List.length_map _
structure KZ (b:List UInt8) (i j:Nat) (e:List Int):Prop where
 le:j≤b.length
 ij:j=i+e.length
 eq:(bI b).drop i=e++(bI b).drop j
theorem KZ.nil {b:List UInt8} {i:Nat} (h:i≤b.length):KZ b i i []:=⟨h,rfl,rfl⟩
theorem KZ.app {b:List UInt8} {i j k:Nat} {e f:List Int} (h:KZ b i j e) (g:KZ b j k f):KZ b i k (e++f):=⟨g.le,by rw [g.ij,h.ij,List.length_append]; omega,by rw [h.eq,g.eq,List.append_assoc]⟩
theorem KZ.one {b:List UInt8} {i:Nat} {x:UInt8} (h:b[i]?=some x):KZ b i (i+1) [((x.toNat:Nat):Int)]:=by
 obtain ⟨hl,he⟩:=List.getElem?_eq_some_iff.1 h; refine ⟨hl,rfl,?_⟩; unfold bI; rw [←List.map_drop,←List.map_drop,List.drop_eq_getElem_cons hl,he]; rfl
theorem qJ {n:Nat} (h:n<128):Gw n=[(n:Int)]:=by unfold Gw; rw [if_pos h]
theorem qK {n:Nat} (h:128≤n):Gw n=((n % 128+128:Nat):Int)::Gw (n / 128):=by
 conv=>lhs; unfold Gw
 rw [if_neg (by omega)]
theorem Zh {b:List UInt8}:∀ {f at_ n sh:Nat} {r:Nat × Nat},LQ b f at_ n sh=.ok r→∃ v,r.1=n+v*2 ^ sh∧v<128 ^ f∧(0<sh→0<v)∧KZ b at_ r.2 (Gw v)
 | 0,_,_,_,_,h=>by cases h
 | f+1,at_,n,sh,r,h=>by
  unfold LQ at h
  split at h
  ·cases h
  ·rename_i x hx; have hp:(1:Nat)≤128 ^ f:=Nat.one_le_pow _ _ (by omega); have yb:=x.toNat_lt
   split at h
   ·rename_i Ax
    split at h
    ·rename_i h0
     cases h
     exact ⟨x.toNat,rfl,by rw [Nat.pow_succ]; omega,fun hs=>by omega,by rw [qJ Ax]; exact KZ.one hx⟩
    ·cases h
   ·rename_i NW; obtain ⟨v,h1,h2,h3,h4⟩:=Zh h; have hv:=h3 (by omega)
    refine ⟨x.toNat % 128+128*v,?_,?_,fun _=>by omega,?_⟩
    ·rw [h1,Nat.pow_add,Nat.add_mul]
     have:v*(2 ^ sh*2 ^ 7)=128*v*2 ^ sh:=by
      rw [show (2:Nat) ^ 7=128 from rfl,Nat.mul_comm (2 ^ sh) 128,←Nat.mul_assoc,Nat.mul_comm v 128]
     omega
    ·rw [Nat.pow_succ]; omega
    ·rw [qK (by omega),show (x.toNat % 128+128*v) % 128+128=x.toNat by omega,show (x.toNat % 128+128*v) / 128=v by omega]; exact (KZ.one hx).app h4
theorem Gy {b:List UInt8} {at_:Nat} {m:Int} {n j:Nat} (h:Eo b at_ m=.ok (n,j)):KZ b at_ j (Gw n)∧(n:Int)≤m:=by
 unfold Eo at h
 split at h
 ·cases h
 ·rename_i n' j' hg
  split at h
  ·rename_i hle
   cases h
   obtain ⟨v,h1,_,_,h4⟩:=Zh hg; have:n=v:=by simpa using h1
   subst this; exact ⟨h4,hle⟩
  ·cases h
inductive JT (c:List Af) (ix many:Nat):Nat→Nat→List Int→Nat→Prop
 | nil (k fd:Nat):JT c ix many k fd [] fd
 | ref {k fd v:Nat} {vs:List Int} {F3:Nat} (hk:A9 c ix k=2) (hv:v≤min (fd+1) many) (h:JT c ix many (k+1) (max fd v) vs F3):JT c ix many k fd ((v:Int)::vs) F3
 | word {k fd:Nat} {v:Int} {vs:List Int} {F3:Nat} (hk:A9 c ix k≠2) (h1:-1000000000≤v) (h2:v≤1000000000) (h:JT c ix many (k+1) fd vs F3):JT c ix many k fd (v::vs) F3
def Zi (c:List Af) (ix:Nat):Nat→List Int→List Int
 | _,[]=>[]
 | k,v::vs=>(if A9 c ix k=2 then Gw v.toNat else Gw (eZ v).toNat)++Zi c ix (k+1) vs
theorem mq (n:Nat):(eZ (OD n)).toNat=n:=by
 unfold eZ OD; split <;> split <;> omega
theorem wK {n:Nat} (h:n≤2000000000):-1000000000≤OD n∧OD n≤1000000000:=by
 unfold OD; split <;> omega
theorem O_ {b:List UInt8} {c:List Af} {ix many:Nat}:∀ {m k at_ fd:Nat} {vs:List Int} {r:List Int × Nat × Nat},at_≤b.length→E8 b c ix many m k at_ fd vs=.ok r→∃ new,r.1=vs++new∧new.length=m∧JT c ix many k fd new r.2.1∧KZ b at_ r.2.2 (Zi c ix k new)
 | 0,k,at_,fd,vs,r,ha,h=>by cases h; exact ⟨[],by simp,rfl,.nil _ _,KZ.nil ha⟩
 | m+1,k,at_,fd,vs,r,ha,h=>by
  unfold E8 at h
  split at h
  ·rename_i hk
   split at h
   ·cases h
   ·rename_i n a hn; obtain ⟨h1,h2⟩:=Gy hn; obtain ⟨new,g1,g2,g3,g4⟩:=O_ h1.le h; refine ⟨(n:Int)::new,by rw [g1]; simp,by simp [g2],.ref hk (by omega) g3,?_⟩; rw [Zi,if_pos hk,Int.toNat_natCast]; exact h1.app g4
  ·rename_i hk
   split at h
   ·cases h
   ·rename_i n a hn; obtain ⟨h1,h2⟩:=Gy hn; obtain ⟨new,g1,g2,g3,g4⟩:=O_ h1.le h; have Un:=wK (n:=n) (by omega); refine ⟨OD n::new,by rw [g1]; simp,by simp [g2],.word hk Un.1 Un.2 g3,?_⟩; rw [Zi,if_neg hk,mq]; exact h1.app g4
end Go.Ce
namespace Go.Ce
open Go Go.Proofs Go.Proofs.Tryz
theorem iH {ts:List ByteArray} (hn:ts.Nodup) {t:Nat} {s:ByteArray} (h:ts[t]?=some s):Ip ts (fun x=>decide (x=s))=t:=by
 obtain ⟨hl,he⟩:=List.getElem?_eq_some_iff.1 h; refine JG hl (by rw [he]; simp) fun j x hj hx=>?_; obtain ⟨TG,xc⟩:=List.getElem?_eq_some_iff.1 hx
 have:x≠s:=by
  rintro rfl; have:=(List.getElem_inj hn).1 (xc.trans he.symm); omega
 simpa using this
inductive FY (c:List Af) (ts:List ByteArray) (many:Nat):Nat→Nat→Nat→List BR→Nat→Nat→Prop
 | nil (i u f:Nat):FY c ts many i u f [] u f
 | cons {i u f:Nat} {x:BR} {xs:List BR} {t ix f1 u' f':Nat} (hi:i<f) (ht:ts[t]?=some x.type) (Z8:t≤u) (hx:BC c x.type=some ix) (hn:if elemAt c ix≠0 then x.AJ.length≤200 else x.AJ.length=(Ai c ix).length) (hv:JT c ix many 0 f x.AJ f1) (h:FY c ts many (i+1) (if t=u then u+1 else u) f1 xs u' f'):FY c ts many i u f (x::xs) u' f'
def Tn (c:List Af) (ts:List ByteArray) (x:BR):List Int:=match BC c x.type with
 | some i=>Gw (Ip ts fun y=>decide (y=x.type)).toNat++(if elemAt c i≠0 then Gw x.AJ.length else [])++Zi c i 0 x.AJ
 | none=>[]
theorem To {b:List UInt8} {c:List Af} {ts:List ByteArray} {many:Nat} (QB:ts.Nodup):∀ {m i at_ u f:Nat} {out:List BR} {r:List BR × Nat × Nat × Nat},at_≤b.length→EF b c ts many m i at_ u f out=.ok r→∃ new,r.1=out++new∧new.length=m∧FY c ts many i u f new r.2.1 r.2.2.1∧KZ b at_ r.2.2.2 (new.flatMap (Tn c ts))
 | 0,i,at_,u,f,out,r,ha,h=>by cases h; exact ⟨[],by simp,rfl,.nil _ _ _,KZ.nil ha⟩
 | m+1,i,at_,u,f,out,r,ha,h=>by
  unfold EF at h
  split at h
  ·rename_i hi
   split at h
   ·cases h
   ·rename_i t a1 hn; obtain ⟨s1,ht⟩:=Gy hn
    split at h
    ·cases h
    ·rename_i ty Q0
     split at h
     ·cases h
     ·rename_i ix OA
      split at h
      ·cases h
      ·rename_i n a2 xC
       have h2:KZ b a1 a2 (if elemAt c ix≠0 then Gw n else [])∧(if elemAt c ix≠0 then n≤200 else n=(Ai c ix).length):=by
        split at xC
        ·rename_i he; obtain ⟨q1,q2⟩:=Gy xC; rw [if_pos he,if_pos he]; exact ⟨q1,by omega⟩
        ·rename_i he
         cases xC
         rw [if_neg he,if_neg he]; exact ⟨KZ.nil s1.le,rfl⟩
       split at h
       ·cases h
       ·rename_i vs f1 a3 hv; obtain ⟨new,g1,g2,g3,g4⟩:=O_ h2.1.le hv; rw [List.nil_append] at g1; have g1:vs=new:=g1; subst g1; obtain ⟨nx,k1,k2,k3,k4⟩:=To QB g4.le h
        refine ⟨⟨ty,vs⟩::nx,by rw [k1]; simp,by simp [k2],.cons (t:=t) (ix:=ix) hi Q0 (by omega) OA ?_ g3 k3,?_⟩
        ·have:=h2.2; show if elemAt c ix≠0 then vs.length≤200 else vs.length=(Ai c ix).length; rw [g2]; exact this
        ·rw [List.flatMap_cons]; refine KZ.app ?_ k4; unfold Tn; show KZ b at_ a3 (match BC c ty with | some i=>_ | none=>[]); rw [OA]
         refine KZ.app (KZ.app (j:=a1) ?_ ?_) g4
         ·show KZ b at_ a1 (Gw (Ip ts fun y=>decide (y=ty)).toNat); rw [iH QB Q0]; exact s1
         ·show KZ b a1 a2 (if elemAt c ix≠0 then Gw vs.length else []); rw [g2]; exact h2.1
  ·cases h
theorem mu (l:List UInt8):b9 (strOf l)=bI l:=by
 unfold b9 bI strOf sb; simp
theorem dH (l:List UInt8):(strOf l).size=l.length:=by
 unfold strOf; show l.toArray.size=_; simp
theorem KZ.take {b:List UInt8} {a n:Nat} (h:a+n≤b.length):KZ b a (a+n) (bI ((b.drop a).take n)):=by
 have hl:(bI ((b.drop a).take n)).length=n:=by rw [XT,List.length_take,List.length_drop]; omega
 refine ⟨h,by rw [hl],?_⟩; unfold bI; rw [←List.map_drop,←List.map_drop,←List.map_append,←List.drop_drop,List.take_append_drop]
theorem Ve {b:List UInt8} {ask:ByteArray→Option Int}:∀ {k at_:Nat} {out:List ByteArray} {r:List ByteArray × Nat},at_≤b.length→IZ b ask k at_ out=.ok r→∃ new,r.1=out++new∧new.length=k∧(∀ s,s ∈ new→Hw s=true∧ask s=none)∧(out.Nodup→(out++new).Nodup)∧KZ b at_ r.2 (new.flatMap Y2)
 | 0,at_,out,r,ha,h=>by cases h; exact ⟨[],by simp,rfl,(by simp),(by simp),KZ.nil ha⟩
 | k+1,at_,out,r,ha,h=>by
  unfold IZ at h
  split at h
  ·cases h
  ·rename_i n a1 hn; obtain ⟨s1,AEJ⟩:=Gy hn
   split at h
   ·cases h
   ·rename_i a2 ht; obtain ⟨rfl,hle⟩:=TV ht
    split at h
    ·rename_i hs
     split at h
     ·cases h
     ·rename_i cz; obtain ⟨new,g1,g2,g3,g4,g5⟩:=Ve hle h; generalize hS:strOf ((b.drop a1).take n)=S at *
      refine ⟨S::new,by rw [g1]; simp,by simp [g2],?_,fun QB=>?_,?_⟩
      ·intro s L5
       rcases List.mem_cons.1 L5 with rfl | L5
       ·exact ⟨hs.1,cz⟩
       ·exact g3 s L5
      ·have:(out++[S]).Nodup:=by
        rw [List.nodup_append]; refine ⟨QB,List.pairwise_singleton _ _,fun x hx y hy=>?_⟩; rw [List.mem_singleton.1 hy]; rintro rfl; have:=List.any_eq_false.1 hs.2 x hx; simp at this
       have:=g4 this
       simpa using this
      ·rw [List.flatMap_cons]; refine KZ.app ?_ g5; unfold Y2
       refine KZ.app (j:=a1) ?_ ?_
       ·have:S.size=n:=by rw [←hS,dH,List.length_take,List.length_drop]; omega
        rw [this]; exact s1
       ·rw [←hS,mu]; exact KZ.take hle
    ·cases h
structure Canon (c:List Af) (ask:ByteArray→Option Int) (ts:List ByteArray) (xs:List BR):Prop where
 tsl:ts.length≤100
 sym:∀ s,s ∈ ts→Hw s=true∧ask s=none
 nodup:ts.Nodup
 len:xs.length≤1000
 scan:FY c ts xs.length 0 0 (min xs.length 1) xs ts.length xs.length
def Tp (c:List Af) (ts:List ByteArray) (xs:List BR):List Int:=[1]++Gw ts.length++ts.flatMap Y2++Gw xs.length++xs.flatMap (Tn c ts)
theorem KZ.all {b:List UInt8} {e:List Int}:KZ b 0 b.length e↔bI b=e:=by
 constructor
 ·intro h; have:=h.eq; rw [List.drop_zero,List.drop_of_length_le (by rw [XT]; omega),List.append_nil] at this; exact this
 ·rintro rfl; refine ⟨by omega,by rw [XT]; omega,?_⟩; rw [List.drop_zero,List.drop_of_length_le (by rw [XT]; omega),List.append_nil]
theorem Uh {b:List UInt8} {c:List Af} {ask:ByteArray→Option Int} {r:List BR × Nat} (h:Bn b c ask 0=.ok r):∃ ts,Canon c ask ts r.1∧bI b=Tp c ts r.1:=by
 unfold Bn at h
 split at h
 ·cases h
 ·rename_i ts a1 hh
  split at h
  ·cases h
  ·rename_i many a2 hn
   split at h
   ·cases h
   ·rename_i out u f a3 hg
    split at h
    ·rename_i hc
     cases h
     unfold Ia at hh
     split at hh
     ·cases hh
     ·rename_i v b1 hv
      split at hh
      ·rename_i U5; subst U5
       split at hh
       ·cases hh
       ·rename_i k b2 hk; obtain ⟨s1,_⟩:=Gy hv; obtain ⟨s2,ADp⟩:=Gy hk; obtain ⟨new,g1,g2,g3,g4,g5⟩:=Ve s2.le hh; rw [List.nil_append] at g1; have g1:ts=new:=g1; subst g1; obtain ⟨s3,hm⟩:=Gy hn; have QB:=g4 List.nodup_nil; rw [List.nil_append] at QB; obtain ⟨nx,k1,k2,k3,k4⟩:=To QB s3.le hg; rw [List.nil_append] at k1; have k1:out=nx:=k1; subst k1; obtain ⟨c1,c2,c3⟩:=hc; have k3:FY c ts many 0 0 (min many 1) out u f:=k3; have k4:KZ b a2 a3 (out.flatMap (Tn c ts)):=k4; have g5:KZ b b2 a1 (ts.flatMap Y2):=g5; subst c1 c2; rw [←k2] at k3 s3; refine ⟨ts,⟨by omega,g3,QB,by show out.length≤1000; omega,k3⟩,?_⟩; rw [←KZ.all,←c3]; unfold Tp; rw [←vU,g2]; exact (((s1.app s2).app g5).app s3).app k4
      ·cases hh
    ·cases h
end Go.Ce
namespace Go.Ce
open Go Go.Proofs Go.Proofs.Tryz
theorem Vf {c:List Af} {l:List CE} (h:BZ c l=true) {i:Nat} {s:CE} (hs:l[i]?=some s):Gj l s i=false∧∀ k,k<l.length→J7 l s i k=false:=by
 unfold BZ at h; simp only [Bool.and_eq_true,Bool.not_eq_true'] at h; have hb:=D' h.2 (List.getElem?_eq_some_iff.1 hs).1; unfold Oy at hb; rw [hs] at hb; simp only at hb
 split at hb
 ·simp only [Bool.or_eq_false_iff] at hb; exact ⟨hb.1.2,fun k hk=>D' hb.2.1 hk⟩
 ·cases hb
theorem mv {c:List Af} {l:List CE} (h:BZ c l=true):∀ (k j:Nat) (x y:CE),j<k→l[j]?=some x→l[k]?=some y→Q5 (sb x.type) (sb y.type)=true:=by
 intro k
 induction k with
 | zero=>intro j x y hj; omega
 | succ k ih =>
  intro j x y hj hx hy; have hp:=(Vf h hy).1; unfold Gj at hp; have cS:k<l.length:=by have:=(List.getElem?_eq_some_iff.1 hy).1; omega
  have hz:=List.getElem?_eq_getElem cS; simp only [hz,Bool.not_eq_false'] at hp
  rcases Nat.lt_succ_iff_lt_or_eq.1 hj with h1 | rfl
  ·exact Lv _ _ _ (ih j x _ h1 hx hz) hp
  ·rw [hx] at hz; cases hz; exact hp
theorem iI {c:List Af} {l:List CE} (h:BZ c l=true) {s:CE} (hs:s ∈ l):Nw l s.type=some s:=by
 obtain ⟨i,hi,he⟩:=List.mem_iff_getElem.1 hs; have IH:=List.getElem?_eq_getElem hi; rw [he] at IH
 have:=lR (l:=l) (s:=s.type) hi (by rw [he]; simp) (fun j hj=>by
  have TG:j<l.length:=by omega
  have hj':=List.getElem?_eq_getElem TG; rw [hj']; have Ax:=mv h i j _ _ hj hj' IH; simp only [Option.map_some,Option.some.injEq,decide_eq_false_iff_not]; intro e
  rw [e,N5] at Ax; cases Ax)
 rw [this,he]
theorem AAz {c:List Af} {l:List CE} (h:BZ c l=true) {s x:CE} (hs:s ∈ l) (hx:x ∈ l):x.type≠s.to:=by
 obtain ⟨i,hi,he⟩:=List.mem_iff_getElem.1 hs; obtain ⟨k,hk,hke⟩:=List.mem_iff_getElem.1 hx; have IH:=List.getElem?_eq_getElem hi; rw [he] at IH; have:=(Vf h IH).2 k hk; unfold J7 at this; rw [List.getElem?_eq_getElem hk,hke] at this; simp only [Bool.or_eq_false_iff,decide_eq_false_iff_not] at this; exact this.1
theorem iJ {l:List CE} {s:ByteArray} {x:CE} (h:TW l s=some x):x ∈ l∧x.to=s:=⟨List.mem_of_find?_eq_some h,by simpa using List.find?_some h⟩
theorem iK {mp:List Int} {k:Nat} {n:Int} (h:Ox mp k n=false) {j:Nat} (hj:j<k):mp[j]?≠some n:=by
 have:=D' h hj
 simpa using this
theorem Tq {mp vs z:List Int} (QP:∀ (k:Nat) m,mp[k]?=some m→0≤m∧m.toNat<z.length) (hd:∀ (k j:Nat) m,j<k→mp[k]?=some m→mp[j]?≠some m):∀ n,n≤mp.length→∀ (j:Nat) m,j<n→mp[j]?=some m→(E9 mp vs z n)[m.toNat]?=some ((vs[j]?).getD 0)
 | 0,_,j,m,hj,_=>by omega
 | n+1,hn,j,m,hj,hm=>by
  have KN:n<mp.length:=by omega
  have hx:=List.getElem?_eq_getElem KN; have hb:=QP n _ hx; have Ut:=QP j _ hm; rw [E9,hx,Option.getD_some,List.getElem?_set]
  by_cases e:n=j
  ·subst e; rw [hx] at hm
   cases hm
   rw [if_pos rfl,if_pos (by rw [JR]; exact hb.2)]
  ·have hjn:j<n:=by omega
   have Dp:mp[n]≠m:=fun e'=>hd n j m hjn (by rw [hx,e']) hm; rw [if_neg (by omega)]; exact Tq QP hd n (by omega) j m hjn hm
theorem Vg {mp vs z:List Int} (QP:∀ (k:Nat) m,mp[k]?=some m→0≤m) {i:Nat} (hi:∀ m,m ∈ mp→m.toNat≠i):∀ n,n≤mp.length→(E9 mp vs z n)[i]?=z[i]?
 | 0,_=>rfl
 | n+1,hn=>by
  have KN:n<mp.length:=by omega
  have hx:=List.getElem?_eq_getElem KN; rw [E9,hx,Option.getD_some,List.getElem?_set,if_neg (hi _ (List.mem_of_getElem? hx))]; exact Vg QP hi n (by omega)
structure WIs (c:List Af) (l:List CE) (x:BR) (many ix:Nat):Prop where
 ti:BC c x.type=some ix
 ask:Nw l x.type=none
 n:if elemAt c ix≠0 then x.AJ.length≤200 else x.AJ.length=(Ai c ix).length
 val:∀ (k:Nat) v,x.AJ[k]?=some v→Ev (A9 c ix k) v many=true
theorem qL {c:List Af} {s:CE} {t a:Nat} (S:q_ c s t a):(∀ (k:Nat) m,s.map[k]?=some m→0≤m∧m.toNat<(Ai c t).length)∧∀ (k j:Nat) m,j<k→s.map[k]?=some m→s.map[j]?≠some m:=by
 constructor
 ·intro k m hk; obtain ⟨n,h1,h2,h3,_⟩:=S.map k (by rw [←S.len]; exact (List.getElem?_eq_some_iff.1 hk).1); rw [hk] at h1; cases h1; omega
 ·intro k j m hj hk; obtain ⟨n,h1,_,_,_,h5⟩:=S.map k (by rw [←S.len]; exact (List.getElem?_eq_some_iff.1 hk).1); rw [hk] at h1; cases h1; exact iK h5 hj
theorem WIs.back {c:List Af} {l:List CE} {x:BR} {many ix:Nat} (h:WIs c l x many ix) (hs:BZ c l=true):DU l (BP c l x)=x∧Ar c (BP c l x) many=true∧TW l (BP c l x).type=none:=by
 have K5:=GG h.ti
 cases xa:TW l x.type with
 | none =>
  have hb:BP c l x=x:=by unfold BP; rw [xa]
  rw [hb]; refine ⟨by unfold DU; rw [h.ask],?_,xa⟩; refine LK (i:=ix) (s:=c[ix]) ⟨h.ti,List.getElem?_eq_getElem K5,?_,h.val⟩; have hn:=h.n; unfold elemAt at hn; rw [List.getElem?_eq_getElem K5] at hn; unfold Fm; simp only at hn
  split
  ·rename_i he; rw [if_pos he] at hn; simpa using hn
  ·rename_i he; rw [if_neg he] at hn; simpa using hn
 | some s =>
  obtain ⟨rG,Es⟩:=iJ xa; obtain ⟨j,hj⟩:=List.getElem?_of_mem rG; obtain ⟨t,a,S⟩:=cB hs hj; have aG:a=ix:=by have h1:=S.ai; rw [Es,h.ti] at h1; exact (Option.some.inj h1).symm
  subst aG; obtain ⟨QP,hd⟩:=qL S; have hn:=h.n; rw [if_neg (by rw [S.ea]; simp)] at hn; have o9:=GG S.ti
  have hb:BP c l x=⟨s.type,E9 s.map x.AJ (List.replicate (Ai c t).length 0) s.map.length⟩:=by
   unfold BP; rw [xa]; simp only; rw [S.ti]
  rw [hb]; have AA0:∀ (k:Nat) m,s.map[k]?=some m→0≤m∧m.toNat<(List.replicate (Ai c t).length (0:Int)).length:=fun k m hk=>by rw [List.length_replicate]; exact QP k m hk
  have hlen:s.map.length=x.AJ.length:=by rw [S.len,hn]
  refine ⟨?_,?_,?_⟩
  ·unfold DU; show (match Nw l s.type with | some s=>_ | none=>_)=x; rw [iI hs rG]
   cases x with
   | mk ty vs =>
    simp only at Es hlen ⊢; rw [Es]; congr 1; apply List.ext_getElem?; intro k; rw [List.getElem?_map]
    cases hk:s.map[k]? with
    | none =>
     have:=List.getElem?_eq_none_iff.1 hk; rw [List.getElem?_eq_none (by omega)]; rfl
    | some m =>
     have cS:=(List.getElem?_eq_some_iff.1 hk).1; show some (eY _ m)=_; unfold eY; rw [Tq AA0 hd s.map.length (Nat.le_refl _) k m cS hk,List.getElem?_eq_getElem (by omega)]; rfl
  ·refine LK (i:=t) (s:=c[t]) ⟨S.ti,List.getElem?_eq_getElem o9,?_,fun k v hk=>?_⟩
   ·have het:=S.et; unfold elemAt at het; rw [List.getElem?_eq_getElem o9] at het; unfold Fm; rw [if_neg (by simpa using het)]; refine decide_eq_true ?_; show (E9 _ _ _ _).length=_; rw [JR,List.length_replicate]
   ·have hk:(E9 s.map x.AJ (List.replicate (Ai c t).length 0) s.map.length)[k]?=some v:=hk
    by_cases hq:∃ m,m ∈ s.map∧m.toNat=k
    ·obtain ⟨m,hm,oT⟩:=hq; obtain ⟨j,Vu⟩:=List.getElem?_of_mem hm; have TG:=(List.getElem?_eq_some_iff.1 Vu).1; have:=Tq (vs:=x.AJ) AA0 hd s.map.length (Nat.le_refl _) j m TG Vu; rw [oT,hk,List.getElem?_eq_getElem (by omega)] at this
     cases this
     have hv:=h.val j _ (List.getElem?_eq_getElem (by omega)); obtain ⟨n,h1,_,_,h4,_⟩:=S.map j (by rw [←S.len]; exact TG); rw [Vu] at h1; cases h1; rw [H0 S.ea K5] at hv; rw [H0 S.et o9,←oT,h4]; exact hv
    ·rw [Vg (fun k m hk=>(QP k m hk).1) (fun m hm e=>hq ⟨m,hm,e⟩) _ (Nat.le_refl _)] at hk
     have:v=0:=by
      have:=List.mem_of_getElem? hk; exact List.eq_of_mem_replicate this
     subst this; unfold Ev; simp
  ·show TW l s.type=none; unfold TW; rw [List.find?_eq_none]; intro y hy; have:=AAz hs hy rG
   simpa using fun e=>this e.symm
end Go.Ce
namespace Go.Ce
open Go Go.Proofs Go.Proofs.Tryz
def iota (n:Nat):List Int:=(List.range n).map fun k=>((k:Nat):Int)+1
theorem Ts (n:Nat):(iota n).length=n:=by simp [iota]
theorem Vh (n:Nat):iota (n+1)=iota n++[((n:Nat):Int)+1]:=by simp [iota,List.range_succ]
theorem Zj {n k:Nat} (h:k<n):(iota n)[k]?=some (((k:Nat):Int)+1):=by simp [iota,h]
theorem Tt {n:Nat} {v:Int}:v ∈ iota n↔1≤v∧v≤n:=by
 unfold iota; rw [List.mem_map]
 constructor
 ·rintro ⟨k,hk,rfl⟩; have:=List.mem_range.1 hk; omega
 ·rintro ⟨h1,h2⟩; exact ⟨(v-1).toNat,List.mem_range.2 (by omega),by omega⟩
theorem dI {n:Nat} {v:Nat} (h:v≤n):placeOf (iota n) v=v:=by
 rcases Nat.eq_zero_or_pos v with rfl | hp
 ·exact J8 fun hm=>by have:=Tt.1 hm; omega
 ·have hf:(iota n).findIdx? (fun x=>decide (x=(v:Int)))=some (v-1):=by
   rw [List.findIdx?_eq_some_iff_getElem]
   have hg:∀ k (hk:k<(iota n).length),(iota n)[k]=((k:Nat):Int)+1:=fun k hk=>by
    have:=Zj (n:=n) (k:=k) (by rw [←Ts n]; exact hk); rw [List.getElem?_eq_getElem hk] at this; exact Option.some.inj this
   refine ⟨by rw [Ts]; omega,by rw [hg]; simp; omega,fun j hj=>?_⟩; rw [hg]; simp; omega
  unfold placeOf; rw [hf]; simp only; omega
theorem dJ {f v:Nat} (h:v≤f+1):visit (iota f) v=iota (max f v):=by
 unfold visit
 by_cases h0:v=0
 ·subst h0; rw [if_neg (by omega),Nat.max_eq_left (by omega)]
 ·by_cases hv:v=f+1
  ·subst hv; rw [if_pos ⟨by omega,fun hm=>by have:=Tt.1 hm; omega⟩,Nat.max_eq_right (by omega),Vh]; simp
  ·rw [if_neg (fun h=>h.2 (Tt.2 (by omega))),Nat.max_eq_left (by omega)]
def E_ (g:Nat→Int→List Int):Nat→List Int→List Int
 | _,[]=>[]
 | k,v::vs=>g k v++E_ g (k+1) vs
theorem Tu (g:Nat→Int→List Int) (v:Int):∀ (vs:List Int) (k:Nat),E_ g k (vs++[v])=E_ g k vs++g (k+vs.length) v
 | [],k=>by simp [E_]
 | u::vs,k=>by
  rw [List.cons_append,E_,Tu g v vs (k+1),E_,List.append_assoc,List.length_cons]; congr 2; congr 1; omega
theorem XU {g:Nat→Int→List Int} {vs:List Int} {T:Nat→List Int} (h0:T 0=[]) (h1:∀ n v,vs[n]?=some v→T (n+1)=T n++g n v):∀ n,n≤vs.length→T n=E_ g 0 (vs.take n)
 | 0,_=>by rw [h0,List.take_zero]; rfl
 | n+1,hn=>by
  have hx:=List.getElem?_eq_getElem (show n<vs.length by omega); rw [h1 n _ hx,XU h0 h1 n (by omega),List.take_add_one,hx,Option.toList_some,Tu,List.length_take,Nat.min_eq_left (by omega),Nat.zero_add]
def Ui (c:List Af) (ix k:Nat) (v:Int):List Int:=if A9 c ix k=2 then [v] else []
theorem PA (c:List Af) (i:Nat) (vs:List Int):En c i vs vs.length=E_ (Ui c i) 0 vs:=by
 rw [XU (T:=En c i vs) (g:=Ui c i) rfl (fun n v hv=>by rw [En,hv]; rfl) vs.length (Nat.le_refl _),List.take_length]
theorem iL (c:List Af) (o:List Int) (i:Nat) (vs:List Int):S9 c o i vs vs.length=E_ (fun k v=>gV o (A9 c i k) v) 0 vs:=by
 rw [XU (T:=S9 c o i vs) (g:=fun k v=>gV o (A9 c i k) v) rfl (fun n v hv=>by rw [S9,hv]) vs.length (Nat.le_refl _),List.take_length]
theorem JT.fold {c:List Af} {ix many k fd F3:Nat} {vs:List Int} (h:JT c ix many k fd vs F3):(E_ (Ui c ix) k vs).foldl visit (iota fd)=iota F3∧fd≤F3∧(fd≤many→F3≤many):=by
 induction h with
 | nil=>exact ⟨rfl,Nat.le_refl _,id⟩
 | @ref k fd v vs F3 hk hv h ih =>
  obtain ⟨h1,h2,h3⟩:=ih; refine ⟨?_,by omega,fun hf=>h3 (by omega)⟩; rw [E_,List.foldl_append,Ui,if_pos hk]; show (E_ _ _ _).foldl visit (visit (iota fd) (v:Int))=_; rw [dJ (by omega)]; exact h1
 | @word k fd v vs F3 hk U5 QS h ih =>
  obtain ⟨h1,h2,h3⟩:=ih; refine ⟨?_,h2,h3⟩; rw [E_,Ui,if_neg hk]; exact h1
theorem JT.val {c:List Af} {ix many k fd F3:Nat} {vs:List Int} (h:JT c ix many k fd vs F3):∀ (j:Nat) v,vs[j]?=some v→Ev (A9 c ix (k+j)) v many=true:=by
 induction h with
 | nil=>intro j v hv; simp at hv
 | @ref k fd v vs F3 hk hv h ih =>
  intro j w hw
  cases j with
  | zero =>
   cases hw
   unfold Ev; rw [Nat.add_zero,hk]; simp; omega
  | succ j =>
   have:=ih j w hw; rw [show k+(j+1)=k+1+j by omega]; exact this
 | @word k fd v vs F3 hk U5 QS h ih =>
  intro j w hw
  cases j with
  | zero =>
   cases hw
   unfold Ev; rw [Nat.add_zero]; simp [hk]; omega
  | succ j =>
   have:=ih j w hw; rw [show k+(j+1)=k+1+j by omega]; exact this
theorem JT.enc {c:List Af} {ix many k fd F3:Nat} {vs:List Int} (h:JT c ix many k fd vs F3):E_ (fun k v=>gV (iota many) (A9 c ix k) v) k vs=Zi c ix k vs:=by
 induction h with
 | nil=>rfl
 | @ref k fd v vs F3 hk hv h ih =>
  rw [E_,Zi,ih,gV,if_pos hk,if_pos hk,dI (by omega),Int.toNat_natCast]
 | @word k fd v vs F3 hk U5 QS h ih =>
  rw [E_,Zi,ih,gV,if_neg hk,if_neg hk]
theorem FY.search {c:List Af} {ts:List ByteArray} {many i u f u' f':Nat} {xs:List BR} {refs:Int→List Int} (h:FY c ts many i u f xs u' f') (hr:∀ (j:Nat) x,xs[j]?=some x→refs (((i+j:Nat):Int)+1)=refsOf c x):BG refs xs.length (iota f) i=iota f':=by
 induction h with
 | nil=>rfl
 | @cons i u f x xs t ix f1 u' f' hi ht Z8 hx hn hv h ih =>
  rw [List.length_cons,BG,Zj hi]; simp only; have h0:=hr 0 x rfl; rw [Nat.add_zero] at h0; rw [h0]
  have:refsOf c x=E_ (Ui c ix) 0 x.AJ:=by
   unfold refsOf; rw [hx]; exact PA c ix x.AJ
  rw [this,hv.fold.1]
  exact ih fun j y hy=>by
   have:=hr (j+1) y hy; rw [show i+1+j=i+(j+1) by omega]; exact this
theorem FY.types {c:List Af} {ts:List ByteArray} (QB:ts.Nodup) {many i u f u' f':Nat} {xs:List BR} (h:FY c ts many i u f xs u' f'):xs.foldl (fun t x=>Lt t x.type) (ts.take u)=ts.take u':=by
 induction h with
 | nil=>rfl
 | @cons i u f x xs t ix f1 u' f' hi ht Z8 hx hn hv h ih =>
  rw [List.foldl_cons]; obtain ⟨o9,hte⟩:=List.getElem?_eq_some_iff.1 ht
  have:Lt (ts.take u) x.type=ts.take (if t=u then u+1 else u):=by
   unfold Lt
   by_cases e:t=u
   ·subst e
    rw [if_pos rfl,if_neg,List.take_add_one,ht]
    ·rfl
    ·intro ha; obtain ⟨y,hy,hye⟩:=List.any_eq_true.1 ha; have hye:y=x.type:=of_decide_eq_true hye; subst hye; obtain ⟨j,hj⟩:=List.getElem?_of_mem hy; rw [List.getElem?_take] at hj
     split at hj
     ·rename_i hjt; obtain ⟨TG,xc⟩:=List.getElem?_eq_some_iff.1 hj; have:=(List.getElem_inj QB).1 (xc.trans hte.symm); omega
     ·cases hj
   ·rw [if_neg e,if_pos]; refine List.any_eq_true.2 ⟨x.type,List.mem_of_getElem? (i:=t) ?_,by simp⟩; rw [List.getElem?_take,if_pos (by omega),ht]
  rw [this]; exact ih
theorem FY.wis {c:List Af} {l:List CE} {ts:List ByteArray} (ADL:∀ s,s ∈ ts→JS c l s=none) {many i u f u' f':Nat} {xs:List BR} (h:FY c ts many i u f xs u' f'):∀ x,x ∈ xs→∃ ix,WIs c l x many ix∧XE c ts (iota many) x=Tn c ts x:=by
 induction h with
 | nil=>intro x hx; cases hx
 | @cons i u f x xs t ix f1 u' f' hi ht Z8 hx hn hv h ih =>
  intro y hy
  rcases List.mem_cons.1 hy with rfl | hy
  ·refine ⟨ix,⟨hx,(Vb (ADL _ (List.mem_of_getElem? ht))).2,hn,fun k v hk=>?_⟩,?_⟩
   ·have:=hv.val k v hk; rw [Nat.zero_add] at this; exact this
   ·unfold XE Tn; rw [hx]; simp only; rw [iL,hv.enc]
  ·exact ih y hy
theorem Zk (h:List BR):DV h (iota h.length)=h:=by
 have key:∀ n,n≤h.length→DV h (iota n)=h.take n:=by
  intro n
  induction n with
  | zero=>intro _; rfl
  | succ n ih =>
   intro hn
   have e:DV h (iota (n+1))=DV h (iota n)++DV h [((n:Nat):Int)+1]:=by
    unfold DV; rw [Vh,List.flatMap_append]
   rw [e,ih (by omega),List.take_add_one]; congr 1; unfold DV; simp
 rw [key _ (Nat.le_refl _),List.take_length]
structure wL (c:List Af) (l:List CE) (ts:List ByteArray) (xs:List BR):Prop where
 ask:o8 c l (xs.map (BP c l)) (min (xs.length:Int) 1)=0
 found:Da c l (xs.map (BP c l)) (min (xs.length:Int) 1)=iota xs.length
 bad:rA l (xs.map (BP c l)) (iota xs.length)=false
 types:Oz l (DV (xs.map (BP c l)) (iota xs.length))=ts
 bytes:lS c l (xs.map (BP c l)) (iota xs.length)=Tp c ts xs
theorem Zl {c:List Af} {l:List CE} {ts:List ByteArray} {xs:List BR} (Ae:BN c=true) (hs:BZ c l=true) (h:Canon c (JS c l) ts xs):wL c l ts xs:=by
 have hw:=h.scan.wis (l:=l) fun s hs=>(h.sym s hs).2; have hlen:(xs.map (BP c l)).length=xs.length:=List.length_map _
 have IB:DV (xs.map (BP c l)) (iota xs.length)=xs.map (BP c l):=by
  rw [←hlen]; exact Zk _
 have mw:∀ x,x ∈ xs→DU l (BP c l x)=x:=fun x hx=>by
  obtain ⟨ix,hi,_⟩:=hw x hx; exact (hi.back hs).1
 have Q0:Oz l (xs.map (BP c l))=ts:=by
  have h1:=h.scan.types h.nodup; rw [List.take_length,List.take_zero] at h1; unfold Oz; rw [List.foldl_map]
  have key:∀ (ys:List BR) (t:List ByteArray),(∀ x,x ∈ ys→x ∈ xs)→ys.foldl (fun t x=>Lt t (DU l (BP c l x)).type) t=ys.foldl (fun t x=>Lt t x.type) t:=by
   intro ys
   induction ys with
   | nil=>intro t _; rfl
   | cons y ys ih =>
    intro t hy; rw [List.foldl_cons,List.foldl_cons,mw y (hy y (by simp)),ih _ fun x hx=>hy x (by simp [hx])]
  rw [key xs [] fun x hx=>hx]; exact h1
 have QP:CG c (xs.map (BP c l))<0:=by
  unfold CG; have:=h.len; rw [if_neg (by rw [hlen]; omega)]
  have hf:(xs.map (BP c l)).findIdx? (fun x=>!Ar c x (xs.map (BP c l)).length)=none:=by
   rw [List.findIdx?_eq_none_iff]; intro y hy; obtain ⟨x,hx,rfl⟩:=List.mem_map.1 hy; obtain ⟨ix,hi,_⟩:=hw x hx; have h1:=(hi.back hs).2.1; rw [hlen,h1]; rfl
  unfold Ip; rw [hf]; simp
 refine ⟨?_,?_,?_,?_,?_⟩
 ·unfold o8 VM; rw [Ae,hs]; simp only [if_true]; rw [if_neg (by simp),if_neg (by omega),if_neg]; rw [hlen]; omega
 ·unfold Da
  have Es:start (min (xs.length:Int) 1)=iota (min xs.length 1):=by
   unfold start
   by_cases h0:xs.length=0
   ·rw [h0]; rfl
   ·rw [if_pos (by omega),show min (xs.length:Int) 1=1 by omega,show min xs.length 1=1 by omega]; rfl
  rw [Es,hlen]; refine h.scan.search fun j x hx=>?_; unfold E7; rw [show (((0+j:Nat):Int)+1-1).toNat=j by omega,List.getElem?_map,hx]; simp only [Option.map_some]; rw [mw x (List.mem_of_getElem? hx)]
 ·unfold rA; rw [IB]; refine List.any_eq_false.2 fun y hy=>?_; obtain ⟨x,hx,rfl⟩:=List.mem_map.1 hy; obtain ⟨ix,hi,_⟩:=hw x hx; have h1:=(hi.back hs).2.2; unfold TW at h1; rw [List.find?_eq_none] at h1; have:(l.any fun s=>decide (s.to=(BP c l x).type))=false:=List.any_eq_false.2 fun s L5=>h1 s L5; rw [this]; simp
 ·rw [IB,Q0]
 ·unfold lS Tp; rw [IB,Q0,Ts]; congr 1; rw [List.flatMap_map]
  have key:∀ (ys:List BR),(∀ x,x ∈ ys→x ∈ xs)→ys.flatMap (fun x=>XE c ts (iota xs.length) (DU l (BP c l x)))=ys.flatMap (Tn c ts):=by
   intro ys
   induction ys with
   | nil=>intro _; rfl
   | cons y ys ih =>
    intro hy; obtain ⟨ix,_,he⟩:=hw y (hy y (by simp)); rw [List.flatMap_cons,List.flatMap_cons,mw y (hy y (by simp)),he,ih fun x hx=>hy x (by simp [hx])]
  exact key xs fun x hx=>hx
end Go.Ce
namespace Go.Ce
open Go Go.Proofs Go.Proofs.Tryz
theorem Tv {n:Nat}:∀ (vs o:List Int),Found o n→(∀ v,v ∈ vs→v≤n)→Found (vs.foldl visit o) n
 | [],o,h,_=>h
 | v::vs,o,h,hv=>Tv vs _ (h.visit (hv v (by simp))) fun w hw=>hv w (by simp [hw])
end Go.Ce
namespace Go.Ce
open Go Go.Proofs Go.Proofs.Tryz
end Go.Ce
namespace Go.Ce
open Go Go.Proofs Go.Proofs.Tryz
end Go.Ce
namespace Go.Ce
open Go Go.Proofs Go.Proofs.Tryz
end Go.Ce
namespace Go.Ce
section
variable {P:Program}
def Mj (P:Program) (W:CW) (t:TypeId) (v:Value):Prop:=∃ m,CT P m t W [v]
theorem Mj.int {W:CW} {t:TypeId} {k:IntKind} {v:Value} (ht:P.underlying t=some (.int k)) (h:Mj P W t v):∃ x,v=.int k x∧(Lit.int k x).wf=true:=by
 obtain ⟨m,h⟩:=h
 cases m with
 | zero=>exact h.elim
 | succ m =>
  simp only [CT,ht] at h; obtain ⟨x,hx,hw⟩:=h
  cases hx
  exact ⟨x,rfl,hw⟩
theorem Mj.string {W:CW} {t:TypeId} {v:Value} (ht:P.underlying t=some .string) (h:Mj P W t v):∃ x:ByteArray,v=.string x∧x.size≤maxLen:=by
 obtain ⟨m,h⟩:=h
 cases m with
 | zero=>exact h.elim
 | succ m =>
  simp only [CT,ht] at h; obtain ⟨x,hx,hw⟩:=h
  cases hx
  exact ⟨x,rfl,hw⟩
theorem Mj.slice {W:CW} {t e:TypeId} {v:Value} (ht:P.underlying t=some (.slice e)) (h:Mj P W t v):v=.slice none 0 0∨v=.slice (some ⟨0,0,some 0⟩) 0 0∨∃ k len cap f m,v=.slice (some ⟨k,0,none⟩) len cap∧0<cap∧len≤cap∧cap≤maxLen ∧
  W.obj k=some (.fixed f (len*P.cellsOf e) e)∧∀ i,i<len→CT P m e W (Dw f (P.cellsOf e) (i*P.cellsOf e)):=by
 obtain ⟨m,h⟩:=h
 cases m with
 | zero=>exact h.elim
 | succ m =>
  simp only [CT,ht] at h
  rcases h with h | h | ⟨k,len,cap,f,h1,h2,h3,h4,h5,h6⟩
  ·cases h; exact .inl rfl
  ·cases h; exact .inr (.inl rfl)
  ·cases h1; exact .inr (.inr ⟨k,len,cap,f,m,rfl,h2,h3,h4,h5,h6⟩)
theorem nz.cons {W:CW} {t:TypeId} {ts:List TypeId} {vs:List Value} (h:nz P (t::ts) W vs):∃ cs vs',vs=OR P t cs::vs'∧CT P 20 t W cs∧nz P ts W vs':=by
 cases vs with
 | nil=>exact h.elim
 | cons v vs =>
  obtain ⟨⟨cs,rfl,hc⟩,h2⟩:=h; exact ⟨cs,vs,rfl,hc,h2⟩
theorem nz.nil {W:CW} {vs:List Value} (h:nz P [] W vs):vs=[]:=by
 cases vs with
 | nil=>rfl
 | cons=>exact h.elim
end
end Go.Ce
namespace Go.Ce
open Go Go.Proofs Go.Proofs.Tryz
def Rs (P:Program) (t:TypeId):List (TypeId × Nat):=match P.underlying t with
 | some (.struct fs)=>fs.toList.map fun f=>(f.type,f.offset)
 | _=>[]
theorem JU {P:Program} {m:Nat} {t ty:TypeId} {off n:Nat} {W:CW} {cs:List Value} (hm:(Rs P t).any (fun x=>Nat.beq x.1 ty && Nat.beq x.2 off)=true) (hn:P.cellsOf t=n) (h1:P.cellsOf ty=1) (ho:off<n) (h:CT P m t W cs):∃ v,cs[off]?=some v∧Mj P W ty v:=by
 cases m with
 | zero=>exact h.elim
 | succ m =>
  unfold Rs at hm; simp only [CT] at h
  split at hm
  ·rename_i fs hu; rw [hu] at h; obtain ⟨hl,hf⟩:=h; obtain ⟨x,hx,he⟩:=List.any_eq_true.1 hm; obtain ⟨f,hfm,rfl⟩:=List.mem_map.1 hx; simp only [Bool.and_eq_true] at he; have e1:f.type=ty:=Nat.eq_of_beq_eq_true he.1; have e2:f.offset=off:=Nat.eq_of_beq_eq_true he.2; have:=hf f hfm; rw [e1,e2,h1] at this; have Ax:off<cs.length:=by omega
   refine ⟨cs[off],List.getElem?_eq_getElem Ax,m,?_⟩; rw [List.drop_eq_getElem_cons Ax,List.take_succ_cons,List.take_zero] at this; exact this
  ·cases hm
theorem Tw (f:Nat→Value):∀ (m k j:Nat),j<m→(Dw f m k)[j]?=some (f (k+j))
 | 0,k,j,h=>by omega
 | m+1,k,0,h=>rfl
 | m+1,k,j+1,h=>by
  unfold Dw; rw [List.getElem?_cons_succ,Tw f m (k+1) j (by omega)]; congr 2; omega
theorem fK {α:Type} {Q:Nat→α→Prop}:∀ n:Nat,(∀ i,i<n→∃ x,Q i x)→∃ l:List α,l.length=n∧∀ i x,l[i]?=some x→Q i x
 | 0,_=>⟨[],rfl,fun i x h=>by simp at h⟩
 | n+1,h=>by
  obtain ⟨l,hl,hq⟩:=fK n fun i hi=>h i (by omega); obtain ⟨x,hx⟩:=h n (by omega); refine ⟨l++[x],by simp [hl],fun i y hy=>?_⟩
  by_cases hi:i<l.length
  ·rw [List.getElem?_append_left hi] at hy; exact hq i y hy
  ·rw [List.getElem?_append_right (by omega)] at hy
   have h0:i-l.length=0:=by
    cases hd:i-l.length with
    | zero=>rfl
    | succ k=>rw [hd] at hy; simp at hy
   rw [h0] at hy
   cases hy
   have:i=n:=by omega
   subst this; exact hx
theorem Lx {P:Program} {α:Type} {R:Nat→Nat→α→Prop} {t e:TypeId} {n:Nat} (ht:P.underlying t=some (.slice e)) (hn:P.cellsOf e=n) {W:CW} {v:Value} (h:Mj P W t v)
  (Mp:∀ m cs k off,CT P m e W cs→(∀ j,j<n→W.cell k (off+j)=cs[j]?)→∃ x,R k off x):∃ l,Ay n R v l∧MG W e v∧l.length≤maxLen:=by
 rcases h.slice ht with rfl | rfl | ⟨k,len,cap,f,m,rfl,h1,h2,h3,h4,h5⟩
 ·exact ⟨[],⟨none,0,rfl,fun i x hx=>by simp at hx⟩,fun a l c hv=>by cases hv; exact ⟨rfl,Nat.le_refl _⟩,Nat.zero_le _⟩
 ·exact ⟨[],⟨_,0,rfl,fun i x hx=>by simp at hx⟩,fun a l c hv=>by cases hv; exact ⟨rfl,Nat.le_refl _⟩,Nat.zero_le _⟩
 ·rw [hn] at h4 h5
  obtain ⟨l,hl,hq⟩:=fK (Q:=fun i x=>R k (i*n) x) len fun i hi=>Mp m _ k (i*n) (h5 i hi) fun j hj=>by
   rw [Tw f n (i*n) j hj]; unfold CW.cell; rw [h4]
   have:i*n+j<len*n:=by
    have:(i+1)*n≤len*n:=Nat.mul_le_mul_right _ hi; rw [Nat.succ_mul] at this; omega
   simp only [if_pos this]
  refine ⟨l,⟨_,cap,by rw [hl],fun i x hx=>⟨_,rfl,by simpa using hq i x hx⟩⟩,fun a l c hv=>?_,by omega⟩
  cases hv
  refine ⟨?_,h2⟩; simp [Mk,h4]
theorem wf_i64 {x:Int} (h:(Lit.int .i64 x).wf=true):-9223372036854775808≤x∧x≤9223372036854775807:=by
 simp only [Lit.wf,Bool.and_eq_true,decide_eq_true_eq] at h; have h1:IntKind.i64.min=-9223372036854775808:=by rfl
 have h2:IntKind.i64.max=9223372036854775807:=by rfl
 omega
theorem wf_u8 {x:Int} (h:(Lit.int .u8 x).wf=true):0≤x∧x<256:=by
 simp only [Lit.wf,Bool.and_eq_true,decide_eq_true_eq] at h; have h1:IntKind.u8.min=0:=by rfl
 have h2:IntKind.u8.max=255:=by rfl
 omega
section
variable {W:CW} {m:Nat} {cs:List Value} {k off:Nat}
theorem u46:∃ e,prog.underlying 46=some (.slice e):=⟨match prog.underlying 46 with | some (.slice e)=>e | _=>0,by kernel_rfl⟩
theorem c3:prog.cellsOf 3=1:=by kernel_rfl
theorem c5:prog.cellsOf 5=1:=by kernel_rfl
theorem c9:prog.cellsOf 9=1:=by kernel_rfl
theorem c40:prog.cellsOf 40=1:=by kernel_rfl
theorem c45:prog.cellsOf 45=1:=by kernel_rfl
theorem c46:prog.cellsOf 46=1:=by kernel_rfl
theorem xd:prog.cellsOf 48=5:=by kernel_rfl
theorem c56:prog.cellsOf 56=2:=by kernel_rfl
theorem c58:prog.cellsOf 58=3:=by kernel_rfl
theorem c72:prog.cellsOf 72=2:=by kernel_rfl
theorem ut3:prog.underlying 3=some (.int .i64):=by kernel_rfl
theorem ut5:prog.underlying 5=some (.int .u8):=by kernel_rfl
theorem Zm {v:Value} (h:Mj prog W 40 v):∃ l,Ay 1 (EW W) v l∧MG W 3 v∧l.length≤maxLen :=
 Lx Iw c3 h fun m cs k off hc hj=>by
  cases m with
  | zero=>exact hc.elim
  | succ m =>
   simp only [CT,ut3] at hc; obtain ⟨x,rfl,hw⟩:=hc; exact ⟨x,by have:=hj 0 (by omega); simpa using this,wf_i64 hw⟩
theorem PB {n:Nat} {t:TypeId} {o:Nat} (hm:(Rs prog t).any (fun x=>Nat.beq x.1 9 && Nat.beq x.2 o)=true) (hn:prog.cellsOf t=n) (ho:o<n) (hc:CT prog m t W cs) (hj:∀ j,j<n→W.cell k (off+j)=cs[j]?):∃ s:ByteArray,W.cell k (off+o)=some (.string s):=by
 obtain ⟨v,hv,hl⟩:=JU hm hn c9 ho hc; obtain ⟨s,rfl,_⟩:=hl.string u9; exact ⟨s,(hj o ho).trans hv⟩
theorem re {n:Nat} {t:TypeId} {o:Nat} (hm:(Rs prog t).any (fun x=>Nat.beq x.1 5 && Nat.beq x.2 o)=true) (hn:prog.cellsOf t=n) (ho:o<n) (hc:CT prog m t W cs) (hj:∀ j,j<n→W.cell k (off+j)=cs[j]?):∃ x:Int,W.cell k (off+o)=some (.int .u8 x)∧0≤x∧x<256:=by
 obtain ⟨v,hv,hl⟩:=JU hm hn c5 ho hc; obtain ⟨x,rfl,hw⟩:=hl.int ut5; exact ⟨x,(hj o ho).trans hv,wf_u8 hw⟩
theorem my {v:Value} (h:Mj prog W 45 v):∃ l,Ay 2 (Ot W) v l∧MG W 72 v∧l.length≤maxLen :=
 Lx qw c72 h fun m cs k off hc hj=>by
  obtain ⟨s,h0⟩:=PB (o:=0) (by kernel_rfl) c72 (by omega) hc hj; obtain ⟨x,h1,h2,h3⟩:=re (o:=1) (by kernel_rfl) c72 (by omega) hc hj; exact ⟨⟨s,x⟩,h0,h1,h2,h3⟩
theorem jR {v:Value} (h:Mj prog W 22 v):∃ l,Ay 5 (MF W) v l∧MG W 48 v∧l.length≤maxLen :=
 Lx iv xd h fun m cs k off hc hj=>by
  obtain ⟨s,h0⟩:=PB (o:=0) (by kernel_rfl) xd (by omega) hc hj; obtain ⟨s2,h1⟩:=PB (o:=1) (by kernel_rfl) xd (by omega) hc hj; obtain ⟨v2,QS,L8⟩:=JU (ty:=45) (off:=2) (by kernel_rfl) xd c45 (by omega) hc; obtain ⟨fs,nk,_⟩:=my L8; obtain ⟨x,h3,h4,h5⟩:=re (o:=3) (by kernel_rfl) xd (by omega) hc hj; obtain ⟨v4,hv4,hl4⟩:=JU (ty:=46) (off:=4) (by kernel_rfl) xd c46 (by omega) hc; obtain ⟨e,he⟩:=u46
  have hb:∃ a l k,v4=.slice a l k:=by
   rcases hl4.slice he with rfl | rfl | ⟨k,len,cap,f,m,rfl,_⟩ <;> exact ⟨_,_,_,rfl⟩
  obtain ⟨a,l,c,rfl⟩:=hb; exact ⟨⟨s,s2,fs,x⟩,h0,h1,⟨v2,(hj 2 (by omega)).trans QS,nk⟩,h3,⟨a,l,c,(hj 4 (by omega)).trans hv4⟩,h4,h5⟩
theorem jS {v:Value} (h:Mj prog W 23 v):∃ l,Ay 3 (Ou W) v l∧MG W 58 v∧l.length≤maxLen :=
 Lx jQ c58 h fun m cs k off hc hj=>by
  obtain ⟨s,h0⟩:=PB (o:=0) (by kernel_rfl) c58 (by omega) hc hj; obtain ⟨s2,h1⟩:=PB (o:=1) (by kernel_rfl) c58 (by omega) hc hj; obtain ⟨v2,QS,L8⟩:=JU (ty:=40) (off:=2) (by kernel_rfl) c58 c40 (by omega) hc; obtain ⟨fs,nk,Ae,_⟩:=Zm L8; exact ⟨⟨s,s2,fs⟩,h0,h1,⟨v2,(hj 2 (by omega)).trans QS,nk,Ae⟩⟩
theorem jT {v:Value} (h:Mj prog W 24 v):∃ l,Ay 2 (Fk W) v l∧MG W 56 v∧l.length≤maxLen :=
 Lx L4 c56 h fun m cs k off hc hj=>by
  obtain ⟨s,h0⟩:=PB (o:=0) (by kernel_rfl) c56 (by omega) hc hj; obtain ⟨v2,QS,L8⟩:=JU (ty:=40) (off:=1) (by kernel_rfl) c56 c40 (by omega) hc; obtain ⟨fs,nk,_⟩:=Zm L8; exact ⟨⟨s,fs⟩,h0,⟨v2,(hj 1 (by omega)).trans QS,nk⟩⟩
end
end Go.Ce
