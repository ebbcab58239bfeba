/- A part of the proof: Vh, Vi, Vj. -/
import Derived.Test.YtmknebebbbjdlaaGreatW02
import Derived.Test.YtmknebebbbjdlaaGreatW05
set_option linter.unusedSectionVars false
set_option linter.unusedVariables false
set_option linter.unusedSimpArgs false
set_option linter.defProp false
set_option maxRecDepth 200000
namespace Go.Ce
open Go Go.Proofs Go.Proofs.Tryz
theorem qd {O:List Int} {n v:Nat} (h:v<n):(Dn O n)[v]?=some (.int .i64 (placeOf O (v:Nat))):=by
 unfold Dn; rw [List.getElem?_map,List.getElem?_range h]; rfl
theorem X7 {W:CW} {bp n:Nat} {O:List Int} (h:BX W bp 3 (Dn O n)) {v:Nat} (hv:v<n):ew prog 40 (.slice (some ⟨bp,0,none⟩) n n) (.int .i64 v)=some (.pointer (some ⟨bp,0+v*1,none⟩))∧ld prog 3 (.pointer (some ⟨bp,0+v*1,none⟩)) W=some (.int .i64 (placeOf O (v:Nat))):=by
 refine ⟨Ad FJ s3 hv,AF a3 (a:=⟨bp,0+v*1,none⟩) ?_⟩; show W.cell bp (0+v*1)=_; rw [show 0+v*1=v by omega]; exact h.cell (qd hv)
def upP (O:List Int) (n:Nat):List Int:=(iota n).filter fun v=>decide (placeOf O v>0)
theorem gm (O:List Int) (n:Nat):upP O (n+1)=upP O n++if placeOf O ((n+1:Nat):Int)>0 then [((n+1:Nat):Int)] else []:=by
 unfold upP; rw [TL,List.filter_append]; congr 1; rw [show ((n:Nat):Int)+1=((n+1:Nat):Int) by omega]
 by_cases h:placeOf O ((n+1:Nat):Int)>0
 ·rw [if_pos h,List.filter_cons_of_pos (by simpa using h)]; rfl
 ·rw [if_neg h,List.filter_cons_of_neg (by simpa using h)]; rfl
theorem ng (O:List Int) (n:Nat):(upP O n).length≤n:=by
 have:=List.length_filter_le (fun v=>decide (placeOf O v>0)) (iota n); rw [Lu] at this; exact this
theorem dP {v0 v1:Value} {c:List Al} {h:List B9} {a:Int} {W:CW} (ht:Ag W) (hc:AV 5 (Dc W) v0 c) (hC:Ng c) (hh:AV 2 (Ek W) v1 h) (hv:∀ x,x ∈ h→x.AH.length<100000) (hs:h.length<100000) :
  AX prog Br 38 [v0,v1,.int .i64 a] W (fun en W'=>Kp W W'∧Ag W'∧∃ vr,en=.returned (.tuple #[vr,.int .i64 (HR c [] h a)])∧CD W' 3 1 vr (Bm (if HR c [] h a=0 then upP (Ax c [] h a) h.length else []))):=by
 refine AEM ?_; rw [AEL]; generalize GD:AJ prog Tryz.f38 _=KK; refine FV (fg ht hc hC (Vs _) (by simp) hh hs (fun x hx=>by have:=hv x hx; omega)) fun W1 k1 t1=>?_; simp only [Au,AA]
 refine AD (fun he=>?_) (fun he=>?_)
 ·have he:HR c [] h a≠0:=by simpa using he
  rw [←GD,ZC]; refine ⟨k1,t1,.slice none 0 0,rfl,?_⟩; rw [if_neg he]; exact CD.nil
 have he:HR c [] h a=0:=by simpa using he
 obtain ⟨Ai,Je,Uo,Uz,Dz⟩:=GL he; obtain ⟨Lx,JC⟩:=D5 Uo; refine (UK t1 (hc.imp fun _ _ _ hr=>hr.kp ht k1) hC (Vs _) (by simp) (fun s hs=>by cases hs) (hh.imp fun _ _ _ hr=>hr.kp ht k1) Je hs JC hv Uz Dz).mono fun en A ⟨k2,tA,vo,bp,E9,ho,_,hp,hbp,hF⟩=>?_; subst E9; refine AP ?_; refine As (BU _ _) ?_; refine As (BV _ _) ?_; have lh:=k1.trans k2; generalize hO:Ax c [] h a=O at hF hp ho GD; refine DI (fun i e' DC W'=>DC=[]∧Kp A W'∧Ag W'∧e' 1=v1∧e' 7=.int .i64 0∧e' 10=.slice (some ⟨bp,0,none⟩) (h.length+1) (h.length+1)∧e' 12=.int .i64 ((i+1:Nat):Int)∧∃ vr,e' 11=vr∧CD W' 3 1 vr (Bm (upP O i))∧BF A.sz vr) h.length ⟨rfl,.refl _,tA,rfl,rfl,rfl,rfl,_,rfl,CD.nil,BF.nil _ _ _⟩ ?_; rintro i e ds W' hi ⟨rfl,kA,t',h1,h7,KC,cG,vr,Mr,jA,zo⟩; rw [AAj,h1,KC,Mr,cG,II P3 (hh.imp fun _ _ _ hr=>hr.kp ht (lh.trans kA))]; simp only [AA,DY]; refine MZ (fun hle=>?_) (fun P2=>?_)
 rotate_left
 ·have:i=h.length:=by omega
  subst this; simp only [Gc,KA,if_true,tJ,Ay]; rw [←GD,ZC]
  refine ⟨lh.trans kA,t',vr,?_,?_⟩
  ·rw [he]; simp only [AI,AQ,Nat.reduceEqDiff,↓reduceIte,Mr]
  ·rw [if_pos he]; exact jA
 have Ae:i<h.length:=by omega
 obtain ⟨p1,p2⟩:=X7 (hp.ext tA kA) (v:=i+1) (by omega); rw [p1]; simp only [p2,AA,Av]; have VG:=ng O i
 refine AD (fun hg=>?_) (fun hg=>?_)
 ·have hg:placeOf O ((i+1:Nat):Int)>0:=by simpa using hg
  refine MU FJ s3 z3 rfl (by omega) tj (by omega) (Oz _) rfl rfl t' jA (by rw [BY]; omega) fun u Wa mL W7 ka ta H6 t7 o7 n7=>?_; simp only [fF,Ay,Fz]; simp only [AI,AQ,Nat.reduceEqDiff,↓reduceIte,cG,AO,AA]; rw [C4 (by omega)]; refine ⟨Ae,trivial,H6.kp kA zo,t7,by simp only [h1],by simp only [h7],by simp only [KC],by simp only [AI],mL,by simp only [AI],?_,n7 _ kA.sz⟩; rw [gm,if_pos hg,Lm]; exact o7
 ·have hg:¬placeOf O ((i+1:Nat):Int)>0:=by simpa using hg
  simp only [fF,Ay,Fz]; simp only [AI,AQ,Nat.reduceEqDiff,↓reduceIte,cG,AO,AA]; rw [C4 (by omega)]; refine ⟨Ae,trivial,kA,t',by simp only [h1],by simp only [h7],by simp only [KC],by simp only [AI],vr,by simp only [Mr],?_,zo⟩; rw [gm,if_neg hg,List.append_nil]; exact jA
theorem gn:Tryz.f90.results.toList=[.cell 6 56]:=by kernel_rfl
theorem mC {W:CW} {v0 vx:Value} {c:List Al} {O:List Int} {x:B9} {N ix bp:Nat} {s:Al} (ht:Ag W) (hc:AV 5 (Dc W) v0 c) (hC:Ng c) (Ai:BM c=true) (X:UI c x N ix s) (YG:AV 1 (Dx W) vx x.AH) (hp:BX W bp 3 (Dn O (N+1))) :
  AX prog Br 90 [v0,.agg #[.string x.type,vx],.slice (some ⟨bp,0,none⟩) (N+1) (N+1)] W (fun en W'=>Kp W W'∧Ag W'∧∃ a n m,en=.returned (.agg #[.string x.type,.slice a n m])∧CD W' 3 1 (.slice a n m) (Bm (KE c ix O 0 x.AH))∧BF W.sz (.slice a n m)):=by
 refine AEW ?_; rw [AEV]; generalize GD:AJ prog Tryz.f90 _=KK; obtain ⟨ax,cx,rfl,_⟩:=id YG; have My:=N' hC X.many; have hC2:=hC.len; have IX:=Dm X.ti; refine Hn MN ht fun W0 k0 t0 z0 Mz=>?_; have Mz:BX W0 W.sz 56 [.string x.type,.slice ax x.AH.length cx]:=Mz; refine JB z56 MN t0 fun W1 k1 t1 z1 It=>?_; have It:BX W1 W0.sz 56 [.string ⟨#[]⟩,.slice none 0 0]:=It; have Mz:=Mz.ext t0 k1; have nU:=k0.trans k1; simp only [IP,AA]; rw [AF a9 (a:=⟨W.sz,0,none⟩) (Mz.cell rfl)]; simp only [AA]; refine At (MP (hc.imp fun _ _ _ hr=>hr.kp ht nU) (by omega)) ?_; rw [IG X.ti,AF a9 (a:=⟨W.sz,0,none⟩) (Mz.cell rfl)]; simp only [AA]; refine As (ACv _) ?_; refine Dt (ws:=[.string x.type,.slice none 0 0]) z56 MN rfl rfl rfl t1 fun W5 k5 t5 z5 OP=>?_; have yc:=nU.trans k5; have hG:=Lv (c:=c) (ix:=ix) (O:=O) x.AH 0; refine DI (fun i e' DC W'=>DC=[]∧Kp W W'∧Ag W'∧e' 0=v0∧e' 2=.slice (some ⟨bp,0,none⟩) (N+1) (N+1)∧e' 4=.pointer (some ⟨W.sz,0,none⟩)∧e' 6=.pointer (some ⟨W0.sz,0,none⟩)∧e' 7=.int .i64 ix∧e' 8=.pointer (some ⟨W1.sz,0,none⟩)∧e' 9=.int .i64 i∧BX W' W.sz 56 [.string x.type,.slice ax x.AH.length cx]∧BX W' W0.sz 56 [.string ⟨#[]⟩,.slice none 0 0]∧∃ v,BX W' W1.sz 56 [.string x.type,v]∧CD W' 3 1 v (Bm ((KE c ix O 0 x.AH).take i))∧BF W.sz v) x.AH.length ⟨rfl,yc,t5,rfl,rfl,rfl,rfl,rfl,rfl,rfl,Mz.ext t1 k5,It.ext t1 k5,_,OP,CD.nil,BF.nil _ _ _⟩ ?_; rintro i e ds W' hi ⟨rfl,kW,t',e0,e2,e4,e6,e7,e8,e9,B4,B6,v,B8,hv,hn⟩; have z01:=k0.sz; have z11:=k1.sz; rw [AAm,e0,e2,e4,e7,e9]; simp only [FL,AA]; rw [AF Nb (a:=⟨W.sz,0+1,none⟩) (B4.cell rfl)]; simp only [AA,AU FJ,AS]; refine FW (fun Ae=>?_) (fun HQ=>?_)
 rotate_left
 ·have:i=x.AH.length:=by omega
  subst this; simp only [Gc,KA,if_true,jP,Ay]; simp only [AI,AQ,Nat.reduceEqDiff,↓reduceIte,e8,e6]; obtain ⟨a',n',m',rfl⟩:=nb hv; rw [CG (vs:=[.string x.type,.slice a' n' m']) (a:=⟨W1.sz,0,none⟩) m5 MN rfl (by omega) B8.cells]; simp only [AA]; refine Eu MN (a:=⟨W0.sz,0,none⟩) (ws:=[.string x.type,.slice a' n' m']) rfl rfl B6 (by simp) fun W7 hu yR=>?_; have hu:ED W0.sz W' W7:=hu; have yR:BX W7 W0.sz 56 [.string x.type,.slice a' n' m']:=yR; rw [←GD]; refine PN gn (p:=⟨W0.sz,0,none⟩) (by simp only [AI,AQ,Nat.reduceEqDiff,↓reduceIte,e6]) (CG (vs:=[.string x.type,.slice a' n' m']) m5 MN rfl (by omega) yR.cells) ?_; rw [←hG,List.take_length] at hv; refine ⟨kW.BB (by omega) hu,t'.BB (B6.lt t') hu,a',n',m',rfl,Z2 hv fun j hj=>hu.obj j fun e=>?_,hn⟩; subst e; have:=Lq (JP hv hj) B6
  cases this
 have hx:=List.getElem?_eq_getElem Ae; generalize x.AH[i]=y at hx; have hrx:(KE c ix O 0 x.AH)[i]?=some (if A4 c ix i=2 then placeOf O y else y):=by rw [Lw,hx,Nat.zero_add]; rfl
 obtain ⟨ay,y1,y2⟩:=lI t' (YG.imp fun _ _ _ hr=>hr.kp ht kW) hx; rw [y1]; simp only [y2 W' (.refl _),AA]
 have rn:c[ix].elem=0→i<(Ap c ix).length:=fun he=>by
  have h1:=X.si; rw [List.getElem?_eq_getElem IX] at h1; have h2:=Hr X.si (by unfold elemAt; rw [X.si]; cases h1; exact he) X.many; omega
 refine FV (b7 t' (hc.imp fun _ _ _ hr=>hr.kp ht kW) hC.len hC.fields IX rn) fun W2 k2 t2=>?_; simp only [BK,AA]; have kW2:=kW.trans k2; have B4':=B4.ext t' k2; have B6':=B6.ext t' k2; have B8':=B8.ext t' k2; have HD:=hv.kp t' k2
 have Xf:∀ (wS:Env),wS 0=v0→wS 2=.slice (some ⟨bp,0,none⟩) (N+1) (N+1)→wS 4=.pointer (some ⟨W.sz,0,none⟩)→wS 6=.pointer (some ⟨W0.sz,0,none⟩)→wS 7=.int .i64 ix→wS 8=.pointer (some ⟨W1.sz,0,none⟩)→wS 9=.int .i64 i→wS 10=.int .i64 (if A4 c ix i=2 then placeOf O y else y)→(Q1 none (J_ (fun i e' DC W'=>DC=[]∧Kp W W'∧Ag W'∧e' 0=v0∧e' 2=.slice (some ⟨bp,0,none⟩) (N+1) (N+1)∧e' 4=.pointer (some ⟨W.sz,0,none⟩)∧e' 6=.pointer (some ⟨W0.sz,0,none⟩)∧e' 7=.int .i64 ix∧e' 8=.pointer (some ⟨W1.sz,0,none⟩)∧e' 9=.int .i64 i∧BX W' W.sz 56 [.string x.type,.slice ax x.AH.length cx]∧BX W' W0.sz 56 [.string ⟨#[]⟩,.slice none 0 0]∧∃ v,BX W' W1.sz 56 [.string x.type,v]∧CD W' 3 1 v (Bm ((KE c ix O 0 x.AH).take i))∧BF W.sz v) i x.AH.length (CL 0 (jP none KK)))) .normal wS [] W2:=by
  intro wS g0 g2 g4 g6 g7 g8 g9 Zi; simp only [oh,Ay,g8,Zi,FL,AA]; rw [AF Nb (a:=⟨W1.sz,0+1,none⟩) (B8'.cell rfl)]; simp only [AA]; refine MU FJ s3 z3 rfl (by omega) tj (by omega) (Oz _) rfl rfl t2 HD (by rw [BY,List.length_take]; omega) fun u Wa mL W7 ka ta H6 t7 o7 n7=>?_; have h8:=H6.j5 t2 B8' (UH HD B8' (by decide)); have h6:=H6.j5 t2 B6' (UH HD B6' (by decide)); have h4:=H6.j5 t2 B4' (UH HD B4' (by decide)); refine An zV (a:=⟨W1.sz,0+1,none⟩) (S6 o7) h8 (by simp) fun W8 hu OP=>?_; have hu:ED W1.sz W7 W8:=hu; have OP:BX W8 W1.sz 56 [.string x.type,mL]:=by simpa [putAt] using OP
  simp only [tP,Ay,Fz]; simp only [AI,AQ,Nat.reduceEqDiff,↓reduceIte,g9,AO,AA]; rw [C4 (by omega)]; have Ul:=H6.sz; have zW2:=kW2.sz; have hk7:Kp W W7:=H6.kp kW2 hn; refine ⟨Ae,trivial,hk7.BB (by omega) hu,t7.BB (h8.lt t7) hu,by simp only [g0],by simp only [g2],by simp only [g4],by simp only [g6],by simp only [g7],by simp only [g8],by simp only [AI],h4.congr (hu.obj _ (by omega)),h6.congr (hu.obj _ (by omega)),mL,OP,?_,n7 _ zW2⟩
  have h9:=Z2 o7 fun j hj=>hu.obj j fun e=>by
   subst e; have:=Lq (JP o7 hj) h8
   cases this
  rw [List.take_add_one,hrx,Option.toList_some,Lm]; exact h9
 refine AD (fun hk=>?_) (fun hk=>?_)
 ·have hk:A4 c ix i=2:=by simpa using hk
  obtain ⟨ny,hny⟩:∃ ny:Nat,y=(ny:Int)∧ny<N+1:=by
   rcases Nl Ai X hx with q | q
   ·exact ⟨y.toNat,by omega,by omega⟩
   ·rw [q.1] at hk; cases hk
  obtain ⟨v9,hny⟩:=hny; subst v9; obtain ⟨p1,p2⟩:=X7 (hp.ext ht kW2) hny; rw [p1]; simp only [p2,AA]; exact Xf _ (by simp only [AI,AQ,Nat.reduceEqDiff,↓reduceIte,e0]) (by simp only [AI,AQ,Nat.reduceEqDiff,↓reduceIte,e2]) (by simp only [AI,AQ,Nat.reduceEqDiff,↓reduceIte,e4]) (by simp only [AI,AQ,Nat.reduceEqDiff,↓reduceIte,e6]) (by simp only [AI,AQ,Nat.reduceEqDiff,↓reduceIte,e7]) (by simp only [AI,AQ,Nat.reduceEqDiff,↓reduceIte,e8]) (by simp only [AI,AQ,Nat.reduceEqDiff,↓reduceIte,e9]) (by rw [if_pos hk]; simp only [AI,↓reduceIte])
 ·have hk:¬A4 c ix i=2:=by simpa using hk
  exact Xf _ (by simp only [AI,AQ,Nat.reduceEqDiff,↓reduceIte,e0]) (by simp only [AI,AQ,Nat.reduceEqDiff,↓reduceIte,e2]) (by simp only [AI,AQ,Nat.reduceEqDiff,↓reduceIte,e4]) (by simp only [AI,AQ,Nat.reduceEqDiff,↓reduceIte,e6]) (by simp only [AI,AQ,Nat.reduceEqDiff,↓reduceIte,e7]) (by simp only [AI,AQ,Nat.reduceEqDiff,↓reduceIte,e8]) (by simp only [AI,AQ,Nat.reduceEqDiff,↓reduceIte,e9]) (by rw [if_neg hk]; simp only [AI,Nat.reduceEqDiff,↓reduceIte])
theorem TZ {v0 v1:Value} {c:List Al} {h:List B9} {a:Int} {W:CW} (ht:Ag W) (hc:AV 5 (Dc W) v0 c) (hC:Ng c) (hh:AV 2 (Ek W) v1 h) (hv:∀ x,x ∈ h→x.AH.length<100000) (hs:h.length<100000) :
  AX prog Br 39 [v0,v1,.int .i64 a] W (fun en W'=>Kp W W'∧Ag W'∧∃ vr ps r,en=.returned (.tuple #[vr,.int .i64 r,.int .i64 (HR c [] h a)])∧Ns W.sz W' vr ps∧(HR c [] h a=0→r=placeOf (Ax c [] h a) a∧ps.map (·.1)=By c [] h (Ax c [] h a))∧(HR c [] h a≠0→r=0∧ps=[])):=by
 refine AEO ?_; rw [AEN]; generalize GD:AJ prog Tryz.f39 _=KK; refine FV (fg ht hc hC (Vs _) (by simp) hh hs (fun x hx=>by have:=hv x hx; omega)) fun W1 k1 t1=>?_; simp only [Au,AA]
 refine AD (fun he=>?_) (fun he=>?_)
 ·have he:HR c [] h a≠0:=by simpa using he
  rw [←GD,ZD]; exact ⟨k1,t1,.slice none 0 0,[],0,rfl,⟨CD.nil,BF.nil _ _ _,fun p hp=>(by cases hp)⟩,fun hz=>(he hz).elim,fun _=>⟨rfl,rfl⟩⟩
 have he:HR c [] h a=0:=by simpa using he
 obtain ⟨Ai,Je,Uo,Uz,Dz⟩:=GL he; obtain ⟨Lx,JC⟩:=D5 Uo; refine (UK t1 (hc.imp fun _ _ _ hr=>hr.kp ht k1) hC (Vs _) (by simp) (fun s hs=>by cases hs) (hh.imp fun _ _ _ hr=>hr.kp ht k1) Je hs JC hv Uz Dz).mono fun en A ⟨k2,tA,vo,bp,E9,ho,_,hp,hbp,hF⟩=>?_; subst E9; refine AP ?_; refine As (BU _ _) ?_; refine As (BV _ _) ?_; have lh:=k1.trans k2; generalize hO:Ax c [] h a=O at hF hp ho GD; have hOl:=hF.len; have ADO:(By c [] h O).length=O.length:=by unfold By; rw [List.length_map,GF rfl fun v hv=>⟨hF.low v hv,hF.high v hv⟩]
 refine DI (fun i e' DC W'=>DC=[]∧Kp A W'∧Ag W'∧e' 0=v0∧e' 1=v1∧e' 2=.int .i64 a∧e' 10=vo∧e' 11=.slice (some ⟨bp,0,none⟩) (h.length+1) (h.length+1)∧e' 13=.int .i64 i∧∃ vr ps,e' 12=vr∧Ns A.sz W' vr ps∧ps.map (·.1)=(By c [] h O).take i) O.length ⟨rfl,.refl _,tA,rfl,rfl,rfl,rfl,rfl,rfl,_,[],rfl,⟨CD.nil,BF.nil _ _ _,fun p hp=>(by cases hp)⟩,rfl⟩ ?_; rintro i e ds W' hi ⟨rfl,kA,t',e0,e1,e2,qL,Z1,e13,vr,ps,zy,hOA,Ul⟩; rw [AAk,e0,e1,qL,Z1,zy,e13,GB FJ (ho.kp tA kA),BY]; simp only [AA,AS]; refine FW (fun Ae=>?_) (fun HQ=>?_)
 rotate_left
 ·have:i=O.length:=by omega
  subst this; simp only [Gc,KA,if_true,tL,Ay]; simp only [AI,AQ,Nat.reduceEqDiff,↓reduceIte,Z1,e2,zy]; obtain ⟨na,hna⟩:∃ na:Nat,a=(na:Int):=⟨a.toNat,by omega⟩
  subst hna; obtain ⟨p1,p2⟩:=X7 (hp.ext tA kA) (v:=na) (by omega); rw [p1]; simp only [p2,AA]; refine ⟨by simp only [and_self],trivial,?_⟩; rw [←GD,ZD]; refine ⟨lh.trans kA,t',vr,ps,placeOf O (na:Int),?_,⟨hOA.own,fun b l c' e=>by have:=hOA.new b l c' e; have:=lh.sz; omega,hOA.pv⟩,fun _=>⟨rfl,by rw [Ul,←ADO,List.take_length]⟩,fun D0=>(D0 he).elim⟩; rw [he]; simp only [AI,Nat.reduceEqDiff,↓reduceIte]
 have vn:=List.getElem?_eq_getElem Ae; generalize O[i]=v at vn; have zC:=hF.low v (List.mem_of_getElem? vn); have dY:=hF.high v (List.mem_of_getElem? vn); obtain ⟨nv,Ux⟩:∃ nv:Nat,v=((nv+1:Nat):Int):=⟨(v-1).toNat,by omega⟩
 subst Ux; have hx:=List.getElem?_eq_getElem (show nv<h.length by omega); generalize h[nv]'(by omega)=x at hx; have iP:=Ja (c:=c) hF vn (by rw [show (((nv+1:Nat):Int)-1).toNat=nv by omega]; exact hx); obtain ⟨ix,s,X⟩:=C_ (JC x (List.mem_of_getElem? hx)); obtain ⟨ao,o1,o2⟩:=TI tA ho vn; obtain ⟨ap,vx,p1,p2,p3⟩:=cj tA (hh.imp fun _ _ _ hr=>hr.kp ht lh) hx; rw [o1]; simp only [AA,o2 W' kA,Ak]; rw [show ((nv+1:Nat):Int)-1=(nv:Nat) by omega,wrap64 (by omega) (by omega),p1]; simp only [AA,p2 W' kA]; refine (mC t' (hc.imp fun _ _ _ hr=>hr.kp ht (lh.trans kA)) hC Ai X (p3.imp fun _ _ _ hr=>hr.kp tA kA) (hp.ext tA kA)).mono fun en W3 ⟨k3,t3,a',n',m',E9,ur,Ux⟩=>?_; subst E9; refine AP ?_; have LP:=Rw ps
 have qq:ps.length=i:=by
  have:=congrArg List.length Ul; rw [List.length_map,List.length_take] at this; omega
 have hO3:=hOA.own.kp t' k3; refine MU P3 MN z56 rfl (by omega) AGE (by omega) (vj _ _ _ _) rfl rfl t3 hO3 (by rw [LP]; omega) fun u Wa mL W4 ka ta H6 t4 o4 n4=>?_; simp only [tM,Ay,Fz]; simp only [AI,AQ,Nat.reduceEqDiff,↓reduceIte,e13,AO,AA]; rw [C4 (by omega)]; have dI:=kA.trans k3; have CR:=X6 (O:=O) X
 refine ⟨Ae,trivial,H6.kp dI hOA.new,t4,by simp only [e0],by simp only [e1],by simp only [e2],by simp only [qL],by simp only [Z1],by simp only [AI],mL,ps++[(TN c O x,.slice a' n' m')],by simp only [AI],⟨?_,n4 _ dI.sz,fun p hp=>?_⟩,?_⟩
 ·rw [List.flatMap_append,CR]
  simpa [Xr] using o4
 ·rcases List.mem_append.1 hp with hp | hp
  ·have h5:=(hOA.pv p hp).kp t' k3; exact H6.IF.own t3 h5 (dO h5 hO3 (by decide))
  ·cases List.mem_singleton.1 hp
   rw [CR]; exact H6.IF.own t3 ur (dO ur hO3 (by decide))
 ·rw [List.map_append,Ul,List.take_add_one,iP]; rfl
end Go.Ce
namespace Go.Ce
open Go Go.Proofs Go.Proofs.Tryz
theorem Ez (c:List Al) (h:List B9) (a:Int):HR c [] h a=A7 c h a:=by
 unfold HR Lj A7; rw [Xq]
 cases BM c with
 | false=>rfl
 | true=>rfl
theorem PX {c:List Al} {h:List B9} {a:Int} (hz:HR c [] h a=0) (YI:h.length≤40):placeOf (Ax c [] h a) a=min a 1:=by
 obtain ⟨_,_,_,wN,_⟩:=GL hz; obtain ⟨_,_,hF,A0⟩:=HO hz YI
 by_cases h0:a=0
 ·subst h0; exact FN fun hm=>by have:=hF.low 0 hm; omega
 ·have EB:start a=[a]:=by unfold start; rw [if_pos (by omega)]
  rw [EB] at A0; rw [TM A0 (by simp)]; unfold placeOf; simp; omega
theorem dQ {c:List Al} {h:List B9} {a:Int} {B:Nat} {W:CW} {v:Value} {ps:List (B9 × Value)} (hz:HR c [] h a=0) (YI:h.length≤40) (hO:Ns B W v ps) (Ul:ps.map (·.1)=By c [] h (Ax c [] h a)):AV 2 (Ek W) v (By c [] h (Ax c [] h a))∧(By c [] h (Ax c [] h a)).length≤1000∧∀ x,x ∈ By c [] h (Ax c [] h a)→x.AH.length≤100000:=by
 obtain ⟨Ai,hs,Uo,_,_⟩:=GL hz; obtain ⟨h1,_,_,_⟩:=HO hz YI; obtain ⟨p1,_⟩:=gR Ai hs h1; rw [qc] at p1; generalize By c [] h (Ax c [] h a)=xs at Ul p1 ⊢; obtain ⟨_,_,AIg,_,_⟩:=GL p1; obtain ⟨Lx,AGd⟩:=D5 AIg
 refine ⟨?_,Lx,fun x hx=>?_⟩
 ·rw [←Ul]; refine dN hO fun p hp v hv=>?_; have hpm:p.1 ∈ xs:=by rw [←Ul]; exact List.mem_map_of_mem hp
  obtain ⟨i,s,X⟩:=C_ (AGd _ hpm); obtain ⟨j,hj⟩:=List.getElem?_of_mem hv; rcases Nl Ai X hj with q | q <;> omega
 ·obtain ⟨i,s,X⟩:=C_ (AGd x hx); have hm:=X.many; unfold Dd at hm
  split at hm
  ·have:=of_decide_eq_true hm; omega
  ·have:=of_decide_eq_true hm; have:=(VO Ai (Dm X.ti)).1; omega
theorem mD {v0 v1 v3:Value} {c:List Al} {h k:List B9} {a b:Int} {W:CW} (ht:Ag W) (hc:AV 5 (Dc W) v0 c) (hC:Ng c) (hh:AV 2 (Ek W) v1 h) (hk:AV 2 (Ek W) v3 k) (hv:∀ x,x ∈ h→x.AH.length<100000) (kv:∀ x,x ∈ k→x.AH.length<100000) (hs:h.length<100000) (ks:k.length<100000) (YI:HR c [] h a=0→h.length≤40) (k40:HR c [] k b=0→k.length≤40) :
  AX prog Br 40 [v0,v1,.int .i64 a,v3,.int .i64 b] W (OG c h a k b W):=by
 refine AEQ ?_; rw [AEP]; generalize GD:AJ prog Tryz.f40 (OG c h a k b W)=KK; refine (TZ ht hc hC hh hv hs).mono fun en W1 ⟨k1,t1,vx,ps,r,he,hO,hz,hnz⟩=>?_; subst he; refine AP ?_; refine As (dD _ _ _) ?_; refine As (dE _ _ _) ?_; refine As (dF _ _ _) ?_; simp only [Au,AA]
 refine AD (fun he=>?_) (fun he=>?_)
 ·have he:HR c [] h a≠0:=by simpa using he
  have hr:A7 c h a≠0:=by rw [←Ez]; exact he
  rw [←GD,Sh]; have hE:Fo c h a k b=A7 c h a:=by unfold Fo; rw [if_pos hr]
  refine ⟨k1,t1,false,?_,fun _=>rfl,fun h0=>(hr (hE ▸ h0)).elim⟩; rw [hE,←Ez]; rfl
 have he:HR c [] h a=0:=by simpa using he
 obtain ⟨hr,Ul⟩:=hz he; refine (TZ t1 (hc.imp fun _ _ _ hr=>hr.kp ht k1) hC (hk.imp fun _ _ _ hr=>hr.kp ht k1) kv ks).mono fun en W2 ⟨k2,t2,vy,ju,r',OJ,hO',dU,_⟩=>?_; subst OJ; refine AP ?_; refine As (dD _ _ _) ?_; refine As (dE _ _ _) ?_; refine As (dF _ _ _) ?_; simp only [Au,AA]; have Xf:=k1.trans k2; have wN:A7 c h a=0:=by rw [←Ez]; exact he
 refine AD (fun NG=>?_) (fun NG=>?_)
 ·have NG:HR c [] k b≠0:=by simpa using NG
  have Iq:A7 c k b≠0:=by rw [←Ez]; exact NG
  rw [←GD,Sh]; have hE:Fo c h a k b=A7 c k b:=by unfold Fo; rw [if_neg (by simpa using wN)]
  refine ⟨Xf,t2,false,?_,fun _=>rfl,fun h0=>(Iq (hE ▸ h0)).elim⟩; rw [hE,←Ez]; rfl
 have NG:HR c [] k b=0:=by simpa using NG
 have AIh:A7 c k b=0:=by rw [←Ez]; exact NG
 obtain ⟨Iq,AIi⟩:=dU NG; have hE:Fo c h a k b=0:=by unfold Fo; rw [if_neg (by simpa using wN),AIh]
 obtain ⟨_,_,g3,_,_⟩:=GL he; obtain ⟨_,_,j3,_,_⟩:=GL NG; obtain ⟨_,JC⟩:=D5 g3; obtain ⟨_,ya⟩:=D5 j3; have yl:=YI he; have ym:=k40 NG; obtain ⟨_,_,hF,_⟩:=HO he yl; obtain ⟨_,_,kF,_⟩:=HO NG ym; have AIj:=gk (c:=c) JC ya hF kF; obtain ⟨hx,hxl,zY⟩:=dQ he yl ⟨hO.own.kp t1 k2,hO.new,fun p hp=>(hO.pv p hp).kp t1 k2⟩ Ul; obtain ⟨hy,hyl,hyv⟩:=dQ NG ym hO' AIi; have m1:=gl he yl; have m2:=gl NG ym; rw [PX he yl] at hr; rw [PX NG ym] at Iq
 have fin:∀ (e:Env) W' (q:Bool),Kp W W'→Ag W'→e 10=.bool q→e 11=.int .i64 0→(q=true↔By c [] h (Ax c [] h a)=By c [] k (Ax c [] k b))→(Wm none KK) .normal e [] W':=by
  intro e W' q kk tt KC Mr hq; simp only [Wm,Ay]; rw [←GD,Sh,KC,Mr]; refine ⟨kk,tt,q,by rw [hE],fun D0=>(D0 hE).elim,fun _=>?_⟩; rw [AIj]; exact hq
 simp only [BK,AA]
 refine AD (fun hb=>?_) (fun hb=>?_)
 ·refine (yh hx hy (by omega) (by omega) zY hyv).mono fun en W3 ⟨hW,q,he3,hq⟩=>?_; subst hW; subst he3; refine AP ?_; exact fin _ _ q Xf t2 (by simp only [AI,Nat.reduceEqDiff,↓reduceIte]) (by simp only [AI,↓reduceIte]) hq
 ·refine fin _ _ false Xf t2 (by simp only [AI,Nat.reduceEqDiff,↓reduceIte]) (by simp only [AI,↓reduceIte]) ⟨fun h=>(by cases h),fun LF=>?_⟩; have:r=r':=by rw [hr,Iq,m1,m2,LF]
  rw [this] at hb; simp at hb
structure rN (W:CW) (v0 v1 v2 v3:Value) (c:List Al) (l:List C5) (h k:List B9):Prop where
 top:Ag W
 cat:AV 5 (Dc W) v0 c
 spc:AV 3 (Ho W) v1 l
 hp:AV 2 (Ek W) v2 h
 qp:h.length≤maxLen
 kp:AV 2 (Ek W) v3 k
 klm:k.length≤maxLen
end Go.Ce
namespace Go.Ce
open Go Go.Proofs Go.Proofs.Tryz
theorem ADQ (c:List Al) (h:List B9):∃ m e:Int,ctV c h=.tuple #[.int .i64 m,.int .i64 e]:=by
 unfold ctV
 split
 ·split
  ·exact ⟨_,_,rfl⟩
  ·exact ⟨_,_,rfl⟩
 ·exact ⟨_,_,rfl⟩
theorem df {W:CW} {v0 v1 v2 v3:Value} {c:List Al} {l:List C5} {h k:List B9} {a b:Int} {nm:ByteArray} (A:rN W v0 v1 v2 v3 c l h k):AX prog Br 11 [v0,v1,v2,v3,.int .i64 a,.int .i64 b,.string nm] W vS:=by
 refine AEE ?_; rw [AED]; generalize GD:AJ prog Tryz.f11 vS=KK
 have Fl:∀ (e:Env) W',e 14=.bool true→KK .ret e [] W':=by
  intro e W' h14; rw [←GD,oe,h14]; rfl
 have skip:∀ (e:Env),e 60=.bool true→(G2 none KK) .normal e [] W:=by
  intro e h60; simp only [G2,Ay,h60,A3]; refine T_ zw vR ?_; refine AP ?_; simp only [ZA,G4]; exact Fl _ W rfl
 refine (ga A.cat).mono fun en W1 ⟨hW,zZ,he,AB4⟩=>?_; subst hW; subst he; refine AP ?_; simp only [Ac,AA]
 cases zZ with
 | false=>exact skip _ rfl
 | true =>
 simp only [Bool.not_true,Ab]; refine (Yi A.spc).mono fun en W2 ⟨hW,b14,he,AIk⟩=>?_; subst hW; subst he; refine AP ?_; simp only [Ac,AA]
 cases b14 with
 | false=>exact skip _ rfl
 | true =>
 simp only [Bool.not_true,Ab]; refine (UP A.hp A.qp).mono fun en W3 ⟨hW,b15,he,AIl⟩=>?_; subst hW; subst he; refine AP ?_; simp only [Ac,AA]
 cases b15 with
 | false=>exact skip _ rfl
 | true =>
 simp only [Bool.not_true,Ab]; refine (UP A.kp A.klm).mono fun en W4 ⟨hW,AIm,he,AGe⟩=>?_; subst hW; subst he; refine AP ?_; simp only [Ac,AA]
 cases AIm with
 | false=>exact skip _ rfl
 | true =>
 simp only [Bool.not_true,Ab]; rw [Ii u9]; simp only [AA,Av]
 by_cases wL:(nm.size:Int)>70
 ·exact skip _ (by show Value.bool (decide _)=_; rw [decide_eq_true wL])
 rw [decide_eq_false wL]; obtain ⟨c1,c2⟩:=AB4 rfl; obtain ⟨l1,l2⟩:=AIk rfl; obtain ⟨t1,t2,t3⟩:=AIl rfl; obtain ⟨u1,u2,u3⟩:=AGe rfl; have hC:=AC8 c1 c2; have My:∀ s,s ∈ l→s.map.length<100000:=fun s hs=>by have:=l2 s hs; omega
 have hv:∀ x,x ∈ h→x.AH.length<100000:=fun x hx=>by have:=t3 x hx; omega
 have kv:∀ x,x ∈ k→x.AH.length<100000:=fun x hx=>by have:=u3 x hx; omega
 have YI:∀ {h:List B9} {a:Int},(h.length≤40∨1000<h.length)→A7 c h a=0→h.length≤40:=fun {h a} hl hz=>by
  have:=(D5 (Lz hz).2.1).1; omega
 simp only [G2,Ay]; simp only [AI,↓reduceIte,Ab]; simp only [ZA,Ay]; simp only [AI,AQ,rC,Nat.reduceEqDiff,↓reduceIte,gKz,gKs,dKs]; generalize W4=W at *; have cat:=fun {V:CW} (kk:Kp W V)=>(A.cat.imp fun _ _ _ hr=>hr.kp A.top kk:AV 5 (Dc V) v0 c)
 have spc:=fun {V:CW} (kk:Kp W V)=>(A.spc.imp fun _ _ _ hr=>hr.kp A.top kk:AV 3 (Ho V) v1 l)
 have hp:=fun {V:CW} (kk:Kp W V)=>(A.hp.imp fun _ _ _ hr=>hr.kp A.top kk:AV 2 (Ek V) v2 h)
 have kp:=fun {V:CW} (kk:Kp W V)=>(A.kp.imp fun _ _ _ hr=>hr.kp A.top kk:AV 2 (Ek V) v3 k)
 obtain ⟨m,er,hme⟩:=ADQ c h; refine (lj A.top A.cat hC A.hp hv (by omega)).mono fun en W1 ⟨he,k1,s1⟩=>?_; have he:en=.returned (ctV c h):=he; rw [hme] at he; subst he; refine AP ?_; refine As (BU _ _) ?_; refine As (BV _ _) ?_; refine (l_ s1 (cat k1) hC (hp k1) hv (by omega)).mono fun en W2 ⟨he,k2,s2⟩=>?_; rw [hme] at he; subst he; refine AP ?_; refine As (BU _ _) ?_; refine As (BV _ _) ?_; have k02:=k1.trans k2; refine (ADI (s:=nm) s2 (cat k02) hC).mono fun en W3 ⟨k3,s3',x3,he,o3⟩=>?_; subst he; refine AP ?_; refine As (BU _ _) ?_; refine As (BV _ _) ?_; have TX:=k02.trans k3; refine (vh (s:=nm) s3' (cat TX) hC).mono fun en W4 ⟨k4,s4',x4,he,o4⟩=>?_; subst he; refine AP ?_; refine As (BU _ _) ?_; refine As (BV _ _) ?_; have pz:=TX.trans k4; refine (lq (a:=a) s4' (cat pz) hC (hp pz) hv (by omega) (YI t1)).mono fun en W5 ⟨k5,s5',x5,r5,he,o5,q5,q5'⟩=>?_; subst he; refine AP ?_; refine As (BU _ _) ?_; refine As (BV _ _) ?_; have yc:=pz.trans k5; refine (dP (a:=a) s5' (cat yc) hC (hp yc) hv (by omega)).mono fun en W6 ⟨k6,s6',x6,he,o6⟩=>?_; subst he; refine AP ?_; refine As (BU _ _) ?_; refine As (BV _ _) ?_; have k06:=yc.trans k6; refine (qZ (a:=a) s6' (cat k06) hC (hp k06) hv (by omega)).mono fun en W7 ⟨k7,s7',x7,p7,r7,he,o7,q7,q7'⟩=>?_; subst he; refine AP ?_; refine As (dD _ _ _) ?_; refine As (dE _ _ _) ?_; refine As (dF _ _ _) ?_; have k07:=k06.trans k7; refine (TZ (a:=a) s7' (cat k07) hC (hp k07) hv (by omega)).mono fun en W8 ⟨k8,s8',x8,p8,r8,he,o8,q8,q8'⟩=>?_; subst he; refine AP ?_; refine As (dD _ _ _) ?_; refine As (dE _ _ _) ?_; refine As (dF _ _ _) ?_; have k08:=k07.trans k8; refine (lZ (a:=a) (b:=b) s8' (cat k08) hC (hp k08) (kp k08) hv kv (by omega) (by omega)).mono fun en W9 ⟨k9,s9',i9,he,z9,z9'⟩=>?_; subst he; refine AP ?_; refine As (BU _ _) ?_; refine As (BV _ _) ?_; have k09:=k08.trans k9; refine (mD (a:=a) (b:=b) s9' (cat k09) hC (hp k09) (kp k09) hv kv (by omega) (by omega) (fun hz=>YI t1 (by rw [←Ez]; exact hz)) (fun hz=>YI u1 (by rw [←Ez]; exact hz))).mono fun en Wa ⟨ka,sa,ia,he,za,za'⟩=>?_; subst he; refine AP ?_; refine As (BU _ _) ?_; refine As (BV _ _) ?_; have k0a:=k09.trans ka; refine FV (l9 sa (cat k0a) hC) fun Wb kb sb=>?_; have k0b:=k0a.trans kb; refine FV (RT sb (cat k0b) hC) fun Wc kc sc=>?_; have k0c:=k0b.trans kc; simp only [BK,AA,beq_self_eq_true,A3]; refine FV (qT sc (cat k0c) hC (spc k0c) (by omega) My) fun Wd kd sd=>?_; have k0d:=k0c.trans kd; refine FV (fe sd (cat k0d) hC (spc k0d) (by omega)) fun We ke se=>?_; have k0e:=k0d.trans ke; simp only [Ez,BK,AA,beq_self_eq_true,A3]; simp only [od,Ay]; refine T_ zw vR ?_; refine AP ?_; simp only [A3]; simp only [AI,Nat.reduceEqDiff,↓reduceIte,A3,BK,AA,beq_self_eq_true]; have ke4:Kp W4 We:=((((((((k5.trans k6).trans k7).trans k8).trans k9).trans ka).trans kb).trans kc).trans kd).trans ke; have ke6:Kp W6 We:=((((((k7.trans k8).trans k9).trans ka).trans kb).trans kc).trans kd).trans ke; have ke8:Kp W8 We:=((((k9.trans ka).trans kb).trans kc).trans kd).trans ke; refine As (nZ (o3.kp s3' (k4.trans ke4))) ?_; refine As (nZ (o4.kp s4' ke4)) ?_; refine As (JV _ _) ?_; rw [XD]; simp only [A3]
 have hr:r5=if HR c [] h a=0 then upP (Ax c [] h a) h.length else []:=by
  by_cases hz:A7 c h a=0
  ·obtain ⟨hpm,EB⟩:=q5 hz; have dU:HR c [] h a=0:=by rw [Ez]; exact hz
   obtain ⟨_,_,hF,_⟩:=HO dU (YI t1 hz); rw [if_pos dU]; exact qS hF hpm EB
  ·rw [if_neg (by rw [Ez]; exact hz),q5' hz]
 have hG:r5.length≤100000:=by
  rw [hr]
  split
  ·have:=ng (Ax c [] h a) h.length; omega
  ·simp
 rw [←hr] at o6; refine At (gj (o5.kp s5' (k6.trans ke6)) (o6.kp s6' ke6) hG se) ?_; simp only [A3]
 have hx:∃ xs,AV 2 (Ek We) x7 xs∧AV 2 (Ek We) x8 xs∧xs.length≤100000∧(∀ x,x ∈ xs→x.AH.length≤100000)∧r7=r8:=by
  have O7:Ns W6.sz We x7 p7:=⟨o7.own.kp s7' (k8.trans ke8),o7.new,fun p hp=>(o7.pv p hp).kp s7' (k8.trans ke8)⟩
  have O8:Ns W7.sz We x8 p8:=⟨o8.own.kp s8' ke8,o8.new,fun p hp=>(o8.pv p hp).kp s8' ke8⟩
  by_cases hz:A7 c h a=0
  ·have dU:HR c [] h a=0:=by rw [Ez]; exact hz
   obtain ⟨g1,g2⟩:=q7 hz; obtain ⟨g3,g4⟩:=q8 dU; obtain ⟨i1,i2,i3⟩:=dQ dU (YI t1 hz) O7 g2; obtain ⟨i4,_,_⟩:=dQ dU (YI t1 hz) O8 g4; exact ⟨_,i1,i4,by omega,i3,by rw [g1,g3,PX dU (YI t1 hz)]⟩
  ·obtain ⟨g1,rfl⟩:=q7' hz; obtain ⟨g3,rfl⟩:=q8' (by rw [Ez]; exact hz); exact ⟨[],dN O7 (fun p hp=>(by cases hp)),dN O8 (fun p hp=>(by cases hp)),(by simp),fun x hx=>(by cases hx),(by rw [g1,g3])⟩
 obtain ⟨xs,hx7,hx8,hxl,zY,rfl⟩:=hx; refine (gi hx7 hx8 hxl zY).mono fun en Wf ⟨he,hW⟩=>?_; subst he; subst hW; refine AP ?_
 have hia:i9=ia:=by
  by_cases hz:Fo c h a k b=0
  ·have h1:=z9' hz; have h2:=za' hz
   cases i9 <;> cases ia <;> simp_all
  ·rw [z9 hz,za hz]
 subst hia; simp only [A3,AA,beq_self_eq_true,AIV,G0,Ay]; exact Fl _ _ (by simp only [AI,↓reduceIte])
end Go.Ce
