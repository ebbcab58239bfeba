/- A part of the proof: Tg. -/
import Derived.Test.YtmknebebbbjdlaaGreatW02
import Derived.Test.YtmknebebbbjdlaaGreatW05
set_option linter.unusedSectionVars false
set_option linter.unusedVariables false
set_option linter.unusedSimpArgs false
set_option maxRecDepth 200000
namespace Go.Ce
open Go Go.Proofs Go.Proofs.Tryz
structure BE (e:Env) (v0 v1 v2 v:Value) (root r:Int):Prop where
 e0:e 0=v0
 e1:e 1=v1
 e2:e 2=v2
 e3:e 3=.int .i64 root
 SX:e 11=v
 pU:e 12=.int .i64 r
theorem tB {A:CW} {K:AG} {e:Env} {v0 v1 v2 v:Value} {c:List Ad} {l:List Bc} {root r:Int} (tA:Al A) (EB:Ax 5 (Lu A) v0 c) (hC:OP c) (Ac:BL c=true) (zj:Ax 3 (OM A) v1 l) (hs:BG c l=true) (hl:l.length≤100000) (E:BE e v0 v1 v2 v root r) (tr:e 19=.int .i64 0) (h18:e 18=.bool true)
  (E3:∀ e' W' q,Kp A W'→Al W'→BE e' v0 v1 v2 v root r→e' 18=.bool q→(q=true→∀ s t,s ∈ l→A_ c s.type=some t→(Ak c t).length=s.map.length)→K (.exit 0) e' [] W') :
  C6 prog AV none 9 145 (.loop (Ae prog 9 0)) e [] A K:=by
 refine D8 (fun i e' DN W'=>DN=[]∧Kp A W'∧Al W'∧BE e' v0 v1 v2 v root r∧e' 19=.int .i64 i∧∃ q,e' 18=.bool q∧(q=true→∀ j s t,j<i→l[j]?=some s→A_ c s.type=some t→(Ak c t).length=s.map.length)) l.length ⟨rfl,.refl _,tA,E,tr,true,h18,fun _ j s t hj=>by omega⟩ ?_; rintro i e ds W hi ⟨rfl,kA,ht,E,tr,q,h18,hq⟩
 have next:i<l.length→∀ (e2:Env) W2 (q2:Bool),Kp A W2→Al W2→BE e2 v0 v1 v2 v root r→e2 19=.int .i64 i→e2 18=.bool q2→(q2=true→q=true∧∀ s t,l[i]?=some s→A_ c s.type=some t→(Ak c t).length=s.map.length)→(Q7 none (KY (fun i e' DN W'=>DN=[]∧Kp A W'∧Al W'∧BE e' v0 v1 v2 v root r∧e' 19=.int .i64 i∧∃ q,e' 18=.bool q∧(q=true→∀ j s t,j<i→l[j]?=some s→A_ c s.type=some t→(Ak c t).length=s.map.length)) i l.length K)) .normal e2 [] W2:=by
  intro Au e2 W2 q2 k2 t2 E2 g19 g18 mK; simp only [Q7,B_,HB,g19,Az,AA]; rw [Du (by omega)]; refine ⟨Au,trivial,k2,t2,⟨by simp only [Ao,BC,Nat.reduceEqDiff,↓reduceIte,E2.e0],by simp only [Ao,BC,Nat.reduceEqDiff,↓reduceIte,E2.e1],by simp only [Ao,BC,Nat.reduceEqDiff,↓reduceIte,E2.e2],by simp only [Ao,BC,Nat.reduceEqDiff,↓reduceIte,E2.e3],by simp only [Ao,BC,Nat.reduceEqDiff,↓reduceIte,E2.SX],by simp only [Ao,BC,Nat.reduceEqDiff,↓reduceIte,E2.pU]⟩,by simp only [Ao,↓reduceIte],q2,by simp only [Ao,BC,Nat.reduceEqDiff,↓reduceIte,g18],fun hh j s t hj Jf uO=>?_⟩; obtain ⟨h1,h2⟩:=mK hh
  by_cases e:j=i
  ·subst e; exact h2 s t Jf uO
  ·exact hq h1 j s t (by omega) Jf uO
 rw [AAq,E.e0,E.e1,tr,h18,pc iR zj]; simp only [AA,A7]; refine G6 (fun Au=>?_) (fun Of=>?_)
 rotate_left
 ·have:i=l.length:=by omega
  subst this; simp only [PJ]; refine E3 _ W q kA ht ⟨by simp only [Ao,BC,Nat.reduceEqDiff,↓reduceIte,E.e0],by simp only [Ao,BC,Nat.reduceEqDiff,↓reduceIte,E.e1],by simp only [Ao,BC,Nat.reduceEqDiff,↓reduceIte,E.e2],by simp only [Ao,BC,Nat.reduceEqDiff,↓reduceIte,E.e3],by simp only [Ao,BC,Nat.reduceEqDiff,↓reduceIte,E.SX],by simp only [Ao,BC,Nat.reduceEqDiff,↓reduceIte,E.pU]⟩ (by simp only [Ao,BC,Nat.reduceEqDiff,↓reduceIte,h18]) fun hh s t S5 uO=>?_; obtain ⟨j,hj⟩:=List.getElem?_of_mem S5; exact hq hh j s t (List.getElem?_eq_some_iff.1 hj).1 hj uO
 have hsi:=List.getElem?_eq_getElem Au; generalize l[i]=s at hsi; obtain ⟨t,a,S⟩:=RH hs hsi; obtain ⟨q0,p0,p2,vv,r1,r2,r3,r4,r5,r6⟩:=cR (zj.imp fun _ _ _ hr=>hr.kp tA kA) hsi; simp only [r1,r2,r4,AA]; refine (pb ht (EB.imp fun _ _ _ hr=>hr.kp tA kA) hC Ac S.ti).mono fun en W6 ⟨k6,t6,vr,Ef,hR⟩=>?_; subst Ef; refine AZ ?_; refine Ay (Be _ _) ?_; refine Ay (Bf _ _) ?_; have kA6:=kA.trans k6; obtain ⟨q1,p1',p3,vv',s1,s2,s3',s4',s5',s6⟩:=cR (zj.imp fun _ _ _ hr=>hr.kp tA kA6) hsi; have hqq:q0=q1:=Option.some.inj (r1.symm.trans s1); subst hqq
 cases q with
 | false =>
  simp only [Ar]; exact next Au _ W6 false kA6 t6 ⟨by simp only [Ao,BC,Nat.reduceEqDiff,↓reduceIte,E.e0],by simp only [Ao,BC,Nat.reduceEqDiff,↓reduceIte,E.e1],by simp only [Ao,BC,Nat.reduceEqDiff,↓reduceIte,E.e2],by simp only [Ao,BC,Nat.reduceEqDiff,↓reduceIte,E.e3],by simp only [Ao,BC,Nat.reduceEqDiff,↓reduceIte,E.SX],by simp only [Ao,BC,Nat.reduceEqDiff,↓reduceIte,E.pU]⟩ (by simp only [Ao,BC,Nat.reduceEqDiff,↓reduceIte,tr]) (by simp only [Ao,↓reduceIte]) fun hf=>(by cases hf)
 | true =>
  simp only [Bh,Bp,AA,beq_self_eq_true]; rw [iP hR]; simp only [AA,s3',s5']; rw [pc H3 s6]; simp only [AA,Bp]; refine next Au _ W6 (((Ak c t).length:Int) == (s.map.length:Int)) kA6 t6 ⟨by simp only [Ao,BC,Nat.reduceEqDiff,↓reduceIte,E.e0],by simp only [Ao,BC,Nat.reduceEqDiff,↓reduceIte,E.e1],by simp only [Ao,BC,Nat.reduceEqDiff,↓reduceIte,E.e2],by simp only [Ao,BC,Nat.reduceEqDiff,↓reduceIte,E.e3],by simp only [Ao,BC,Nat.reduceEqDiff,↓reduceIte,E.SX],by simp only [Ao,BC,Nat.reduceEqDiff,↓reduceIte,E.pU]⟩ (by simp only [Ao,BC,Nat.reduceEqDiff,↓reduceIte,tr]) (by simp only [Ao,↓reduceIte]) fun hb=>⟨rfl,fun s' t' h1 h2=>?_⟩
  rw [hsi] at h1; cases h1; rw [S.ti] at h2; cases h2; have:=eq_of_beq hb; omega
theorem iT {W:CW} {v0 v1 v2:Value} {c:List Ad} {l:List Bc} {h:List BM} {root:Int} (A:lN W v0 v1 v2 c l h):AF prog AV 9 [v0,v1,v2,.int .i64 root] W pJ:=by
 refine ADi ?_; rw [ADf]; generalize Jq:AI prog Tryz.f9 pJ=KK
 have H':∀ (e:Env) W',e 8=.bool true→KK .ret e [] W':=by
  intro e W' h8; rw [←Jq,mm,h8]; rfl
 have skip:∀ (e:Env),e 36=.bool true→(LG none KK) .normal e [] W:=by
  intro e h36; simp only [LG,B_,h36,Bh]; refine JM iO Y3 ?_; refine AZ ?_; simp only [Q5,Lm]; exact H' _ W rfl
 refine (cF A.cat).mono fun en W1 ⟨hW,b13,he,AFn⟩=>?_; subst hW; subst he; refine AZ ?_; simp only [Ai,AA]
 cases b13 with
 | false=>exact skip _ rfl
 | true =>
  simp only [Bool.not_true,Ar]; refine (WE A.spc).mono fun en W2 ⟨hW,Tj,he,AFo⟩=>?_; subst hW; subst he; refine AZ ?_; simp only [Ai,AA]
  cases Tj with
  | false=>exact skip _ rfl
  | true =>
   simp only [Bool.not_true,Ar]; refine (cE A.hp A.hlm).mono fun en W3 ⟨hW,b15,he,AFp⟩=>?_; subst hW; subst he; refine AZ ?_; simp only [Ai,AA]
   cases b15 with
   | false=>exact skip _ rfl
   | true =>
    obtain ⟨c1,c2⟩:=AFn rfl; obtain ⟨l1,l2⟩:=AFo rfl; obtain ⟨t1,t2,t3⟩:=AFp rfl; have hC:=zI c1 c2; have Nx:∀ s,s ∈ l→s.map.length<100000:=fun s hs=>by have:=l2 s hs; omega
    simp only [LG,B_]; simp only [Ao,↓reduceIte,Bool.not_true,Ar]; simp only [Q5,B_]; simp only [Ao,BC,eKa,Nat.reduceEqDiff,↓reduceIte,gKz,gKs,rD]; refine (VB A.top A.cat hC A.spc (by omega) Nx A.hp (by omega) (t1.imp_right .inl) (fun x hx=>by have:=t3 x hx; omega)).mono fun en W4 ⟨k4,t4,B7,he,tC⟩=>?_; subst he; refine AZ ?_; refine Ay (Be _ _) ?_; refine Ay (Bf _ _) ?_
    rcases gB (c:=c) (l:=l) (h:=h) (root:=root) with ⟨x,hx,hw⟩ | ⟨hz,FY,hw⟩
    ·rw [hw] at tC ⊢; simp only [DI,AA,show (x != 0)=true by simpa using hx,Bh]; refine JM iO Y3 ?_; refine AZ ?_; have hl0:Aj prog 29 B7 W4=some (.int .i64 0):=iP tC W4; simp only [Bh,hl0,AA,Bp,YN,UW,B_,Lm]; exact H' _ _ rfl
    ·have hz0:((0:Int) != 0)=false:=rfl
     have Yu:h.length≤40:=by
      have:=(ES (FN hz).2.2.1).1; omega
     obtain ⟨b,B⟩:=pM hz Yu hw; rw [B.wr] at tC ⊢; have hbs:=zO tC; simp only [DI,AA,hz0,Ar]; simp only [UW,B_]; simp only [Ao,BC,eKa,Nat.reduceEqDiff,↓reduceIte,gKz,gKs,rD]; refine (j5 t4 (A.cat.imp fun _ _ _ hr=>hr.kp A.top k4) hC (A.spc.imp fun _ _ _ hr=>hr.kp A.top k4) (by omega) Nx hbs).mono fun en W5 ⟨k5,t5,v,qs,he,hH,hq,cU⟩=>?_; have jU:b.length≤100000:=kQ hz Yu hw B; have cz:=cC B.ok B.sp B.can B.enc (m:=[]) (by simpa using jU); rw [List.append_nil,if_pos rfl] at cz; obtain ⟨p1,p2,p3,p4,p5⟩:=bu B.ok B.sp B.can; obtain ⟨_,_,hF,_⟩:=Jb hz Yu
     have vd:(Db c l h (Ab c l h root)).length≤40:=by
      unfold Db; rw [List.length_map,Ja rfl fun v hv=>⟨hF.low v hv,hF.high v hv⟩]; have:=hF.len; omega
     have Sh:=fu hz Yu FY; have hbe:=B.enc; generalize gS:Db c l h (Ab c l h root)=xs at cz p1 p2 p3 p4 p5 vd Sh hbe; have Sh:=fun hw=>Sh hw p1; subst he; rw [cz] at hq ⊢; have hq:qs.map (·.1)=xs.map (A4 c l):=hq; have Jy:Ax 2 (IZ W5) v (xs.map (A4 c l)):=by rw [←hq]; exact o9 hH cU
     have k45:=k4.trans k5; have hyl:(xs.map (A4 c l)).length≤40:=by rw [List.length_map]; exact vd
     obtain ⟨_,_,zk,yr0,yr1⟩:=FN p1; obtain ⟨_,AFq⟩:=ES zk
     have hyv:∀ x,x ∈ xs.map (A4 c l)→x.AH.length<100000:=fun x hx=>by
      obtain ⟨i,s,T⟩:=DK (AFq x hx); have:=PL hC T.many; omega
     have KC:Dg c l (xs.map (A4 c l)) (min (xs.length:Int) 1)=(bI b,0):=by
      unfold Dg; rw [if_neg (by rw [p1]; simp),p2,p3,if_neg (by simp),p5,hbe]
     refine AZ ?_; refine Ay (zJ _ _ _) ?_; refine Ay (zK _ _ _) ?_; refine Ay (zM _ _ _) ?_; refine (VB t5 (A.cat.imp fun _ _ _ hr=>hr.kp A.top k45) hC (A.spc.imp fun _ _ _ hr=>hr.kp A.top k45) (by omega) Nx Jy (by omega) (.inl hyl) hyv).mono fun en W6 ⟨k6,t6,w17,he,ho6⟩=>?_; subst he; rw [KC] at ho6 ⊢; have k46:=k45.trans k6; refine AZ ?_; refine Ay (Be _ _) ?_; refine Ay (Bf _ _) ?_; refine (f_ t6 (A.cat.imp fun _ _ _ hr=>hr.kp A.top k46) hC (Jy.imp fun _ _ _ hr=>hr.kp t5 k6) hyv (by omega)).mono fun en W7 ⟨he,k7,t7⟩=>?_; rw [if_pos B.ok,if_neg zk] at he; subst he; refine AZ ?_; refine Ay (Be _ _) ?_; refine Ay (Bf _ _) ?_; have k47:=k46.trans k7; have k57:=k6.trans k7; simp only [DI,AA,hz0,Ar]; rw [ss (ho6.kp t6 k7),XQ (hbs.kp t4 (k5.trans k57)).is]; simp only [AA,RB]; rw [pK,show strOf b=⟨b.toArray⟩ from rfl,Ug]; simp only [UU,B_]; simp only [Ao,↓reduceIte,Bool.not_true,Ar]; simp only [YM,B_]; refine tB (A:=W7) (v0:=v0) (v1:=v1) (v2:=v2) (v:=v) (root:=root) (r:=min (xs.length:Int) 1) t7 (A.cat.imp fun _ _ _ hr=>hr.kp A.top k47) hC B.ok (A.spc.imp fun _ _ _ hr=>hr.kp A.top k47) B.sp (by omega) ⟨rfl,rfl,rfl,rfl,rfl,rfl⟩ rfl rfl fun e' W8 q k8 t8 E h18 hqw=>?_; simp only [M6,if_true,mi,B_,h18,Ai,AA]; have uJ:=k47.trans k8
     cases q with
     | false =>
      simp only [Bool.not_false,Bh]; refine JM iO Y3 ?_; refine AZ ?_; exact H' _ W8 rfl
     | true =>
      simp only [Bool.not_true,Ar]; rw [E.e0,E.e2,E.e3,E.SX,E.pU]; obtain ⟨g1,g2,g3,g4,g5⟩:=FN hz
      have hE:G8 c h root (xs.map (A4 c l)) (min (xs.length:Int) 1)=0:=by
       have r1:C8 c h root=0:=by unfold C8; rw [if_pos g1,if_neg g3,if_neg (by omega)]
       have r2:C8 c (xs.map (A4 c l)) (min (xs.length:Int) 1)=0:=by unfold C8; rw [if_pos g1,if_neg zk,if_neg (by omega)]
       unfold G8; rw [if_neg (by simpa using r1),r2]
      refine (fy t8 (A.cat.imp fun _ _ _ hr=>hr.kp A.top uJ) hC (A.hp.imp fun _ _ _ hr=>hr.kp A.top uJ) (Jy.imp fun _ _ _ hr=>hr.kp t5 (k57.trans k8)) (fun x hx=>by have:=t3 x hx; omega) hyv (by omega) (by omega)).mono fun en W9 ⟨k9,t9,q,he,_,hq9⟩=>?_; rw [hE] at he hq9; subst he; have hq9:q=true:=(hq9 rfl).2 (Sh (hqw rfl)); subst hq9; refine AZ ?_; refine Ay (Be _ _) ?_; refine Ay (Bf _ _) ?_; refine JM iO Y3 ?_; refine AZ ?_; simp only [Bh,Bp,AA,beq_self_eq_true,UT,B_]; exact H' _ W9 rfl
end Go.Ce
