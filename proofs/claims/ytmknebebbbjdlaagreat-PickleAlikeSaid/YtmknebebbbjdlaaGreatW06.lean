/- A part of the proof: Uh. -/
import Derived.Test.YtmknebebbbjdlaaGreatW05
set_option linter.unusedSectionVars false
set_option linter.unusedVariables false
set_option linter.unusedSimpArgs false
set_option maxRecDepth 200000
namespace Go.Ce
open Go Go.Proofs Go.Proofs.Tryz
theorem XP (c:List Aj) (xs:List BN):xs.map (CS c [])=xs:=by
 have:CS c []=id:=by funext x; rfl
 rw [this,List.map_id]
theorem Y5 {c:List Aj} {O:List Int} {x:BN} {n i:Nat} {s:Aj} (X:Ru c x n i s):Je c O x=⟨x.type,ID c i O 0 x.AL⟩:=by unfold Je; rw [X.ti]
theorem R8 {c:List Aj} {h k:List BN} {O M:List Int} (HQ:∀ x,x ∈ h→A4 c x h.length=true) (pq:∀ x,x ∈ k→A4 c x k.length=true) (hF:Found O h.length) (kF:Found M k.length):MI c h O k M↔BR c [] h O=BR c [] k M:=by
 have lO:(BR c [] h O).length=O.length:=by unfold BR; rw [List.length_map,EI rfl fun v hv=>⟨hF.low v hv,hF.high v hv⟩]
 have lM:(BR c [] k M).length=M.length:=by unfold BR; rw [List.length_map,EI rfl fun v hv=>⟨kF.low v hv,kF.high v hv⟩]
 constructor
 ·rintro ⟨hl,hA⟩; apply List.ext_getElem?; intro i
  by_cases hi:i<O.length
  ·have hO:=List.getElem?_eq_getElem hi; have hM:=List.getElem?_eq_getElem (show i<M.length by omega); obtain ⟨p,hp⟩:=PI hF (List.mem_of_getElem? hO); obtain ⟨q,hq⟩:=PI kF (List.mem_of_getElem? hM); rw [J' hF hO hp,J' kF hM hq]; obtain ⟨ix,s,P⟩:=Bt (HQ p (List.mem_of_getElem? hp)); obtain ⟨iy,s',Q⟩:=Bt (pq q (List.mem_of_getElem? hq)); obtain ⟨a1,a2,ye⟩:=hA i _ _ p q hO hM hp hq
   have zb:ix=iy:=by
    have:=P.ti; rw [a1,Q.ti] at this; exact (Option.some.inj this).symm
   subst zb; rw [Y5 P,Y5 Q,a1]; congr 2; apply List.ext_getElem?; intro j; rw [HT,HT,Nat.zero_add]
   by_cases hj:j<p.AL.length
   ·have hx:=List.getElem?_eq_getElem hj; have hy:=List.getElem?_eq_getElem (show j<q.AL.length by omega); have:=ye j ix _ _ P.ti hx hy; rw [hx,hy]; simp only [Option.map_some]; congr 1
    by_cases hk:A5 c ix j=2
    ·rw [if_pos hk] at this ⊢; rw [if_pos hk]; exact this
    ·rw [if_neg hk] at this ⊢; rw [if_neg hk]; exact this
   ·rw [List.getElem?_eq_none (by omega),List.getElem?_eq_none (by omega)]; rfl
  ·rw [List.getElem?_eq_none (by omega),List.getElem?_eq_none (by omega)]
 ·intro he; have hl:O.length=M.length:=by rw [←lO,←lM,he]
  refine ⟨hl,fun i v w p q hv hw hp hq=>?_⟩; have h1:=J' (c:=c) hF hv hp; have h2:=J' (c:=c) kF hw hq; rw [he,h2] at h1; have h1:=Option.some.inj h1; obtain ⟨ix,s,P⟩:=Bt (HQ p (List.mem_of_getElem? hp)); obtain ⟨iy,s',Q⟩:=Bt (pq q (List.mem_of_getElem? hq)); rw [Y5 P,Y5 Q] at h1
  injection h1 with t1 t2
  have zb:ix=iy:=by
   have:=P.ti; rw [←t1,Q.ti] at this; exact (Option.some.inj this).symm
  subst zb; have hlen:=congrArg List.length t2; rw [J9,J9] at hlen; refine ⟨t1.symm,hlen.symm,fun j ix' x y Hv hx hy=>?_⟩; rw [P.ti] at Hv; cases Hv; have hj:=congrArg (fun l:List Int=>l[j]?) t2; simp only [HT,hx,hy,Nat.zero_add,Option.map_some] at hj; have hj:=Option.some.inj hj
  by_cases hk:A5 c ix j=2
  ·rw [if_pos hk,if_pos hk] at hj; rw [if_pos hk]; exact hj.symm
  ·rw [if_neg hk,if_neg hk] at hj; rw [if_neg hk]; exact hj.symm
theorem cF {c:List Aj} {h k:List BN} {a a':Int} {b b':List UInt8} {ts ts':List ByteArray} {xs Mv:List BN} (B:iQ c [] h a b ts xs) (B':iQ c [] k a' b' ts' Mv) (hb:b.length≤100000) (Y':b'.length≤100000):b=b'↔xs=Mv:=by
 have r1:=R6 B.ok B.sp B.can B.enc (m:=[]) (by simpa using hb); have r2:=R6 B'.ok B'.sp B'.can B'.enc (m:=[]) (by simpa using Y'); rw [List.append_nil,if_pos rfl,XP] at r1 r2
 constructor
 ·intro e; rw [e,r2] at r1; exact (congrArg (fun r=>r.1) r1).symm
 ·rintro rfl; obtain ⟨_,_,_,p4,_⟩:=MD B.ok B.sp B.can; obtain ⟨_,_,_,q4,_⟩:=MD B'.ok B'.sp B'.can; have ht:ts=ts':=by rw [←p4,←q4]
  have:=B.enc.trans (by rw [ht,←B'.enc]); have h2:=congrArg LF this; rw [PJ,PJ] at h2; exact h2
theorem pM {c:List Aj} {h:List BN} {a:Int} (hz:Ib c [] h a=0) (NT:h.length≤40):min a 1=min ((BR c [] h (Ad c [] h a)).length:Int) 1:=by
 obtain ⟨_,_,_,sE,_⟩:=DG hz; obtain ⟨_,_,hF,Bg⟩:=FE hz NT; have hl:(BR c [] h (Ad c [] h a)).length=(Ad c [] h a).length:=by unfold BR; rw [List.length_map,EI rfl fun v hv=>⟨hF.low v hv,hF.high v hv⟩]
 rw [hl]
 by_cases h0:a=0
 ·subst h0
  have:Ad c [] h 0=[]:=by
   unfold Ad
   cases h.length with
   | zero=>rfl
   | succ m=>rfl
  rw [this]; rfl
 ·have Ef:start a=[a]:=by unfold start; rw [if_pos (by omega)]
  rw [Ef] at Bg; have:=Bg.length_le; rw [List.length_singleton] at this; omega
structure lj (W:CW) (v0 v1 v2:Value) (c:List Aj) (h k:List BN):Prop where
 top:Aq W
 cat:A3 5 (M7 W) v0 c
 hp:A3 2 (Gx W) v1 h
 hlm:h.length≤maxLen
 kp:A3 2 (Gx W) v2 k
 klm:k.length≤maxLen
theorem Y6 (W:CW):A3 3 (Vv W) (.slice none 0 0) []:=⟨none,0,rfl,fun i x h=>by cases h⟩
theorem cZ {W:CW} {v0 v1 v2:Value} {c:List Aj} {h k:List BN} {a b:Int} (A:lj W v0 v1 v2 c h k):AD prog AM 5 [v0,v1,v2,.int .i64 a,.int .i64 b] W o_:=by
 refine ADR ?_; rw [ADP]; generalize LM:AI prog Tryz.f5 o_=KK
 have HS:∀ (e:Env) W',e 10=.bool true→KK .ret e [] W':=by
  intro e W' Nz; rw [←LM,m6,Nz]; rfl
 have skip:∀ (e:Env),e 40=.bool true→(Km none KK) .normal e [] W:=by
  intro e NT; simp only [Km,Bi,NT,Bx]; refine Lo o9 fp ?_; refine Ab ?_; simp only [QH,LC]; exact HS _ W rfl
 refine (bo A.cat).mono fun en W1 ⟨hW,b13,he,AFB⟩=>?_; subst hW; subst he; refine Ab ?_; simp only [Ar,AA]
 cases b13 with
 | false=>exact skip _ rfl
 | true =>
  simp only [Bool.not_true,Ay]; refine (R7 A.hp A.hlm).mono fun en W2 ⟨hW,b15,he,AFC⟩=>?_; subst hW; subst he; refine Ab ?_; simp only [Ar,AA]
  cases b15 with
  | false=>exact skip _ rfl
  | true =>
   simp only [Bool.not_true,Ay]; refine (R7 A.kp A.klm).mono fun en W3 ⟨hW,AFD,he,ACt⟩=>?_; subst hW; subst he; refine Ab ?_; simp only [Ar,AA]
   cases AFD with
   | false=>exact skip _ rfl
   | true =>
    obtain ⟨c1,c2⟩:=AFB rfl; obtain ⟨t1,t2,t3⟩:=AFC rfl; obtain ⟨u1,u2,u3⟩:=ACt rfl; have hC:=zF c1 c2; simp only [Km,Bi]; simp only [AW,↓reduceIte,Bool.not_true,Ay]; simp only [QH,Bi]; simp only [AW,Aa,aK,Nat.reduceEqDiff,↓reduceIte,aL,pb,ZF]; refine (N2 A.top A.cat hC (Y6 _) (by simp) (fun s hs=>by cases hs) A.hp (by omega) (t1.imp_right .inl) (fun x hx=>by have:=t3 x hx; omega)).mono fun en W4 ⟨k4,t4,Fk,he,ho4⟩=>?_; subst he; refine Ab ?_; refine BG (Bd _ _) ?_; refine BG (Be _ _) ?_; refine (N2 t4 (A.cat.imp fun _ _ _ hr=>hr.kp A.top k4) hC (Y6 _) (by simp) (fun s hs=>by cases hs) (A.kp.imp fun _ _ _ hr=>hr.kp A.top k4) (by omega) (u1.imp_right .inl) (fun x hx=>by have:=u3 x hx; omega)).mono fun en W5 ⟨k5,t5,E_,he,ho5⟩=>?_; subst he; refine Ab ?_; refine BG (Bd _ _) ?_; refine BG (Be _ _) ?_; have k45:=k4.trans k5
    have yc:∀ (e:Env) (W6:CW),Kp W5 W6→Aq W6→e 0=v0→e 1=v1→e 3=.int .i64 a→e 11=Fk→e 12=.int .i64 (C3 c [] h a).2→(KY none KK) .normal e [] W6:=by
     intro e W6 k6 t6 e0 e1 e3 ZJ zM; simp only [KY,Bi,e0,e1,e3,zM,DK,AA]; have zc:=k45.trans k6
     rcases N6 (c:=c) (l:=[]) (h:=h) (root:=a) with ⟨x,hx,hw⟩ | ⟨hz,GX,hw⟩
     ·rw [hw]; simp only [show (x != 0)=true by simpa using hx,Bx]; refine Lo o9 fp ?_; refine Ab ?_; exact HS _ _ rfl
     have NT:h.length≤40:=by
      have:=(CB (DG hz).2.2.1).1; omega
     obtain ⟨bs,B⟩:=VK hz NT hw; have eY:bs.length≤100000:=RA hz NT hw B; obtain ⟨g1,g2,g3,g4,g5⟩:=DG hz; have hre:A7 c h a=0:=by unfold A7; rw [if_pos g1,if_neg g3,if_neg (by omega)]
     have hz0:((0:Int) != 0)=false:=rfl; have pN:=ho4; rw [B.wr] at pN; rw [hw]; simp only [hz0,Ay]; refine (kb t6 (A.cat.imp fun _ _ _ hr=>hr.kp A.top zc) hC (A.hp.imp fun _ _ _ hr=>hr.kp A.top zc) (fun x hx=>by have:=t3 x hx; omega) (by omega)).mono fun en W7 ⟨k7,t7,vt,ps,r,he,hO,PO,_⟩=>?_; subst he; obtain ⟨rfl,Ye⟩:=PO hre; rw [hre]; refine Ab ?_; refine BG (zG _ _ _) ?_; refine BG (zH _ _ _) ?_; refine BG (zI _ _ _) ?_; have qK:=pM hz NT; obtain ⟨p1,p2,p3,p4,p5⟩:=MD B.ok B.sp B.can; obtain ⟨_,_,hF,_⟩:=FE hz NT; have hOl:=hF.len
     have hxl:(BR c [] h (Ad c [] h a)).length=(Ad c [] h a).length:=by
      unfold BR; rw [List.length_map,EI rfl fun v hv=>⟨hF.low v hv,hF.high v hv⟩]
     have PD:=fu hz NT GX (fun s t hs=>by cases hs); have hbe:=B.enc; rw [XP] at PD p1 p2 p3 p4 p5; have PD:=PD p1; rw [qK]; generalize lL:BR c [] h (Ad c [] h a)=xs at Ye p1 p2 p3 p4 p5 hxl PD hbe qK ⊢; obtain ⟨_,_,ACu,yr0,yr1⟩:=DG p1; obtain ⟨_,ACv⟩:=CB ACu
     have hyv:∀ x,x ∈ xs→x.AL.length<100000:=fun x hx=>by
      obtain ⟨i,s,T⟩:=Bt (ACv x hx); have:=Mg hC T.many; omega
     have AFE:∀ p,p ∈ ps→BdT p.1:=fun p hp v hv=>by
      have hpm:p.1 ∈ xs:=by rw [←Ye]; exact List.mem_map_of_mem hp
      obtain ⟨i,s,X⟩:=Bt (ACv _ hpm); obtain ⟨j,hj⟩:=List.getElem?_of_mem hv; rcases HP g1 X hj with q | q <;> omega
     have hT:A3 2 (Gx W7) vt xs:=by rw [←Ye]; exact sd hO AFE
     have MN:C3 c [] xs (min (xs.length:Int) 1)=(bI bs,0):=by
      unfold C3; rw [if_neg (by rw [p1]; simp),p2,p3,if_neg (by simp),p5,hbe]
     have k47:=zc.trans k7; refine (N2 t7 (A.cat.imp fun _ _ _ hr=>hr.kp A.top k47) hC (Y6 _) (by simp) (fun s hs=>by cases hs) hT (by omega) (.inl (by omega)) hyv).mono fun en W8 ⟨k8,t8,Dc,he,ho8⟩=>?_; subst he; rw [MN] at ho8 ⊢; refine Ab ?_; refine BG (Bd _ _) ?_; refine BG (Be _ _) ?_; have sN:=k47.trans k8
     have hE:FF c h a xs (min (xs.length:Int) 1)=0:=by
      have r2:A7 c xs (min (xs.length:Int) 1)=0:=by unfold A7; rw [if_pos g1,if_neg ACu,if_neg (by omega)]
      unfold FF; rw [if_neg (by simpa using hre),r2]
     refine (N5 t8 (A.cat.imp fun _ _ _ hr=>hr.kp A.top sN) hC (A.hp.imp fun _ _ _ hr=>hr.kp A.top sN) (hT.imp fun _ _ _ hr=>hr.kp t7 k8) (fun x hx=>by have:=t3 x hx; omega) hyv (by omega) (by omega)).mono fun en W9 ⟨k9,t9,q,he,_,hq9⟩=>?_; rw [hE] at he hq9; subst he; have hq9:q=true:=(hq9 rfl).2 PD; subst hq9; refine Ab ?_; refine BG (Bd _ _) ?_; refine BG (Be _ _) ?_; have k49:=sN.trans k9; refine (Y4 t9 (A.cat.imp fun _ _ _ hr=>hr.kp A.top k49) hC (A.hp.imp fun _ _ _ hr=>hr.kp A.top k49) (fun x hx=>by have:=t3 x hx; omega) (by omega) (fun _=>NT)).mono fun en Rq ⟨k10,t10,vr,l,he,hR,hl⟩=>?_; rw [hre] at he; subst he; have hl:=hl hre; refine Ab ?_; refine BG (Bd _ _) ?_; refine BG (Be _ _) ?_; refine Lo o9 fp ?_; refine Ab ?_; simp only [Bx,CD,AA,beq_self_eq_true]; have kx:Kp W4 Rq:=((((k5.trans k6).trans k7).trans k8).trans k9).trans k10; refine BG (TS (ho8.kp t8 (k9.trans k10))) ?_
     have hcv:qZ prog 29 9 (e 11) Rq=some (.string ⟨(LF (bI bs)).toArray⟩):=by
      rw [ZJ]; exact TS (pN.kp t4 kx)
     refine BG hcv ?_; refine BG (MY _ _) ?_; rw [US]; simp only [Bx]; rw [Jy Hq hR,CE]; simp only [AA]; have lD:ps.length=xs.length:=by rw [←Ye,List.length_map]
     have LR:=PA ps; rw [JX (m:=ps.length) WC hO.own (by omega) LR]; simp only [AA,CD,JR,Bi]; refine HS _ Rq ?_; show Value.bool _=_; rw [show ((l.length:Int) == (ps.length:Int))=true by simp; omega]
    rcases N6 (c:=c) (l:=[]) (h:=h) (root:=a) with ⟨x,hx,hw⟩ | ⟨hz,GX,hw⟩
    ·simp only [CD,AA]; rw [show ((C3 c [] h a).2 == 0)=false by rw [hw]; simpa using hx]; simp only [Ay,X',Bi]; simp only [AW,Aa,aK,Nat.reduceEqDiff,↓reduceIte,aL,pb,ZF,Ay]; exact yc _ W5 (.refl _) t5 (by simp only [AW,Aa,aK,Nat.reduceEqDiff,↓reduceIte,aL,ZF]) (by simp only [AW,Aa,aK,Nat.reduceEqDiff,↓reduceIte,aL,pb,ZF]) (by simp only [AW,Aa,aK,Nat.reduceEqDiff,↓reduceIte,aL,pb,ZF]) (by simp only [AW,Nat.reduceEqDiff,↓reduceIte]) (by simp only [AW,Nat.reduceEqDiff,↓reduceIte])
    simp only [CD,AA]; rw [show ((C3 c [] h a).2 == 0)=true by rw [hw]; rfl]; simp only [Bx,X',Bi]; simp only [AW,Aa,aK,Nat.reduceEqDiff,↓reduceIte,aL,pb,ZF]
    rcases N6 (c:=c) (l:=[]) (h:=k) (root:=b) with ⟨x,hx,Fy⟩ | ⟨gK,AFQ,Fy⟩
    ·rw [show ((C3 c [] k b).2 == 0)=false by rw [Fy]; simpa using hx]; simp only [Ay]; exact yc _ W5 (.refl _) t5 (by simp only [AW,Aa,aK,Nat.reduceEqDiff,↓reduceIte,aL,ZF]) (by simp only [AW,Aa,aK,Nat.reduceEqDiff,↓reduceIte,aL,pb,ZF]) (by simp only [AW,Aa,aK,Nat.reduceEqDiff,↓reduceIte,aL,pb,ZF]) (by simp only [AW,Nat.reduceEqDiff,↓reduceIte]) (by simp only [AW,Nat.reduceEqDiff,↓reduceIte])
    rw [show ((C3 c [] k b).2 == 0)=true by rw [Fy]; rfl]; simp only [Bx]
    have NT:h.length≤40:=by
     have:=(CB (DG hz).2.2.1).1; omega
    have k40:k.length≤40:=by
     have:=(CB (DG gK).2.2.1).1; omega
    obtain ⟨bs,B⟩:=VK hz NT hw; obtain ⟨XF,B'⟩:=VK gK k40 Fy; have eY:=RA hz NT hw B; have AFF:=RA gK k40 Fy B'; obtain ⟨g1,_,g3,g4,g5⟩:=DG hz; obtain ⟨_,_,j3,j4,j5⟩:=DG gK; obtain ⟨_,HQ⟩:=CB g3; obtain ⟨_,pq⟩:=CB j3; obtain ⟨_,_,hF,_⟩:=FE hz NT; obtain ⟨_,_,kF,_⟩:=FE gK k40; have ACw:=R8 HQ pq hF kF; have ACx:=R8 pq HQ kF hF; have hbc:=cF B B' eY AFF; have r1:A7 c h a=0:=by unfold A7; rw [if_pos g1,if_neg g3,if_neg (by omega)]
    have r2:A7 c k b=0:=by unfold A7; rw [if_pos g1,if_neg j3,if_neg (by omega)]
    have hE:FF c h a k b=0:=by unfold FF; rw [if_neg (by simpa using r1),r2]
    have hE':FF c k b h a=0:=by unfold FF; rw [if_neg (by simpa using r2),r1]
    refine (N5 t5 (A.cat.imp fun _ _ _ hr=>hr.kp A.top k45) hC (A.hp.imp fun _ _ _ hr=>hr.kp A.top k45) (A.kp.imp fun _ _ _ hr=>hr.kp A.top k45) (fun x hx=>by have:=t3 x hx; omega) (fun x hx=>by have:=u3 x hx; omega) (by omega) (by omega)).mono fun en W6 ⟨k6,t6,q,he,_,hq⟩=>?_; rw [hE] at he hq; subst he; have hq:=hq rfl; refine Ab ?_; refine BG (Bd _ _) ?_; refine BG (Be _ _) ?_; have zc:=k45.trans k6; refine (N5 t6 (A.cat.imp fun _ _ _ hr=>hr.kp A.top zc) hC (A.kp.imp fun _ _ _ hr=>hr.kp A.top zc) (A.hp.imp fun _ _ _ hr=>hr.kp A.top zc) (fun x hx=>by have:=u3 x hx; omega) (fun x hx=>by have:=t3 x hx; omega) (by omega) (by omega)).mono fun en W7 ⟨k7,t7,q',he,_,hq'⟩=>?_; rw [hE'] at he hq'; subst he; have hq':=hq' rfl; refine Ab ?_; refine BG (Bd _ _) ?_; refine BG (Be _ _) ?_
    have hqq:q=q':=by
     have h1:q=true↔q'=true:=by
      rw [hq,hq',ACw,ACx]; exact eq_comm
     cases q <;> cases q' <;> simp_all
    subst hqq; have hz0:((0:Int) != 0)=false:=rfl; simp only [DK,AA,hz0,Ay,ACq,bne_self_eq_false]; have pN:=ho4; have ACy:=ho5; rw [B.wr] at pN; rw [B'.wr] at ACy; refine BG (TS (pN.kp t4 ((k5.trans k6).trans k7))) ?_; refine BG (TS (ACy.kp t5 (k6.trans k7))) ?_; refine BG (MY _ _) ?_; rw [PJ,PJ,MZ]
    have AFG:(q != decide ((⟨bs.toArray⟩:ByteArray)=⟨XF.toArray⟩))=false:=by
     have h1:q=true↔bs=XF:=by rw [hq,ACw,hbc]
     have h2:(⟨bs.toArray⟩:ByteArray)=⟨XF.toArray⟩↔bs=XF:=by
      constructor
      ·intro e; have:=congrArg (fun x:ByteArray=>x.data.toList) e
       simpa using this
      ·rintro rfl; rfl
     by_cases R0:bs=XF
     ·rw [decide_eq_true (h2.2 R0),h1.2 R0]; rfl
     ·rw [decide_eq_false fun e=>R0 (h2.1 e)]
      cases q with
      | false=>rfl
      | true=>exact (R0 (h1.1 rfl)).elim
    simp only [ACq,AA]; rw [AFG]; simp only [UG,Bi]; simp only [AW,↓reduceIte,Ay]; exact yc _ W7 (k6.trans k7) t7 (by simp only [AW,Aa,aK,Nat.reduceEqDiff,↓reduceIte,aL,ZF]) (by simp only [AW,Aa,aK,Nat.reduceEqDiff,↓reduceIte,aL,pb,ZF]) (by simp only [AW,Aa,aK,Nat.reduceEqDiff,↓reduceIte,aL,pb,ZF]) (by simp only [AW,Aa,Nat.reduceEqDiff,↓reduceIte]) (by simp only [AW,Aa,Nat.reduceEqDiff,↓reduceIte])
end Go.Ce
