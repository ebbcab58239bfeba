/- A part of the proof: Qh, Qi, ShD, Qj, Qk, Ql, Qm, Qn, Qo, Qp, Qq, Qr, Qs, Ua, Ub, Uc, Ud. -/
import Derived.Test.YtmknebebbbjdlaaGreatW02
import Derived.Test.YtmknebebbbjdlaaGreatW03
import Derived.Test.YtmknebebbbjdlaaGreatProg
set_option linter.unusedSectionVars false
set_option linter.unusedVariables false
set_option linter.unusedSimpArgs false
set_option maxRecDepth 200000
namespace Go.Ce
open Go Go.Proofs Go.Proofs.Tryz
structure r_ (W:CW) (bk bx r1 r2:Nat) (c:List Aj) (ty:ByteArray) (n:Nat):Prop where
 k0:W.cell bk 0=some (.map (some r1))
 k1:W.cell bk 1=some (.map (some r2))
 cat:D_ W r1 r2 c
 x0:W.cell bx 0=some (.string ty)
 x1:∃ a cap,W.cell bx 1=some (.slice a n cap)
theorem TG.elem {W:CW} {r:Nat} {c:List Aj} (h:TG W r c) {s:ByteArray} {i:Nat} (hi:BL c s=Option.some i):∃ a b f g,HW prog 75 (.map (Option.some r)) (.string s) false W=Option.some (.agg #[a,b,f,.int .u8 (elemAt c i),g]):=by
 obtain ⟨u,x,hx,hu,_,l2⟩:=h.some hi; obtain ⟨vf,ab,lb,cb,rfl,_⟩:=hu; exact ⟨_,_,_,_,by unfold elemAt; rw [hx]; exact l2⟩
theorem O7 {l:Nat} {args:List Value} {W:CW} {K:Value→CW→Prop} {KP:List PanicEntry→CW→Prop} (h:KW prog AM l args W (AQ K KP)):Ej prog AM (.func (.yield l) #[] #[]) args W K KP:=by
 unfold Ej Ht
 simpa using h
theorem R4 (Q:Ending→CW→Prop) (x:Exit) (hx:x=.normal∨x=.ret) (e:Env) (W:CW) (h:Q (.returned (.tuple #[])) W):AI prog Tryz.f108 Q x e [] W:=by
 have hr:Tryz.f108.results.toList=[]:=by kernel_rfl
 rcases hx with rfl | rfl <;> simp only [AI,EW,hr,LA] <;> exact h
theorem jj {l bk bx r1 r2 n ix:Nat} {c:List Aj} {ty:ByteArray} (hix:BL c ty=some ix) (KO:n<100000) (hn:elemAt c ix=0→n≤(BH c ix).length) (J:Nat→CW→Prop) (Stop:CW→Prop) (hJ:∀ i W,J i W→r_ W bk bx r1 r2 c ty n)
  (fR:∀ i W,i<n→J i W→KW prog AM l [.int .i64 i,.int .u8 (A5 c ix i)] W fun e W'=>(e=.returned (.bool true)∧J (i+1) W')∨(e=.returned (.bool false)∧Stop W')) {W:CW} (h0:J 0 W) :
  AD prog AM 108 [.func (.yield l) #[] #[],.pointer (some ⟨bk,0,none⟩),.pointer (some ⟨bx,0,none⟩)] W fun e W'=>e=.returned (.tuple #[])∧(J n W'∨Stop W'):=by
 refine xK ?_; rw [xJ]; have K0:=hJ 0 W h0; obtain ⟨a0,AFe,mW⟩:=K0.x1; obtain ⟨ea,eb,ef,eg,P0⟩:=K0.cat.sh.elem hix; simp only [K1,H9,FM,AA]; rw [AF xX (a:=⟨bk,0,none⟩) K0.k0,AF a9 (a:=⟨bx,0,none⟩) K0.x0,AF Nr (a:=⟨bx,0+1,none⟩) mW]; simp only [AA,P0,TI,At Hq]; refine FT (fun i e ds W'=>ds=[]∧e 0=.func (.yield l) #[] #[]∧e 1=.pointer (some ⟨bk,0,none⟩)∧e 2=.pointer (some ⟨bx,0,none⟩)∧e 4=.int .u8 (elemAt c ix)∧e 15=.int .i64 n∧e 16=.int .i64 i∧J i W') n ⟨rfl,rfl,rfl,rfl,rfl,rfl,rfl,h0⟩ ?_; rintro i e ds W' hi ⟨rfl,h0,h1,h2,h4,h15,h16,hj⟩; rw [rT,h1,h2,h4,h15,h16]; simp only [Ax,AA]
 refine It (fun A0=>?_) (fun Mx=>?_)
 ·have IP:∀ (e1:Env),DR [0,1,2,4,15,16] e e1→e1 5=.int .i64 i→e1 6=.int .u8 (A5 c ix i) →
    (TE none (Ot (fun i e ds W'=>ds=[]∧e 0=.func (.yield l) #[] #[]∧e 1=.pointer (some ⟨bk,0,none⟩)∧e 2=.pointer (some ⟨bx,0,none⟩)∧e 4=.int .u8 (elemAt c ix)∧e 15=.int .i64 n∧e 16=.int .i64 i∧J i W') i n (Av 0 (AI prog Tryz.f108 fun e W'=>e=.returned (.tuple #[])∧(J n W'∨Stop W'))))) .normal e1 [] W':=by
   intro e1 hA h5 h6; have g0:=(hA 0 (by decide)).trans h0; have xy:=(hA 16 (by decide)).trans h16; simp only [TE,Bi,g0,h5,h6]; refine O7 ((fR i W' A0 hj).mono fun en W1 hp=>?_)
   rcases hp with ⟨rfl,s7⟩ | ⟨rfl,Ef⟩
   ·simp only [AQ,Ar,AA,Bool.not_true,Ay,Mh,Bi,LC,PV,Kv,Wm]; simp only [AW,Aa,Nat.reduceEqDiff,↓reduceIte,xy,Ae,AA]; exact ⟨A0,trivial,g0,(hA 1 (by decide)).trans h1,(hA 2 (by decide)).trans h2,(hA 4 (by decide)).trans h4,(hA 15 (by decide)).trans h15,by rw [FU (by omega)],s7⟩
   ·simp only [AQ,Ar,AA,Bool.not_false,Bx,Mh,Bi,LC,PV,Kv,Wm]; exact R4 _ _ (.inr rfl) _ _ ⟨rfl,.inr Ef⟩
  simp only [CD,AA]
  refine AN (fun he=>?_) (fun he=>?_)
  ·have he:elemAt c ix=0:=by simpa using he
   have Ki:=hJ i W' hj; have Ge:=FO hix; have df:i<(BH c ix).length:=by have:=hn he; omega
   obtain ⟨ar,cr,lr,xd⟩:=Ki.cat.rw.some hix; obtain ⟨_,_,e3,hrc⟩:=xd
   cases e3
   obtain ⟨pr,rfl,RX⟩:=hrc i _ (List.getElem?_eq_getElem df); simp only [O4,H9,AA]; rw [AF a76 (a:=⟨bk,0+1,none⟩) Ki.k1,AF a9 (a:=⟨bx,0,none⟩) Ki.x0]; simp only [AA,lr]; rw [BM eR s5 df]; simp only [AA]; rw [AF a5 (a:=⟨pr.block,pr.off+i*1,none⟩) RX]; simp only [AA]; refine IP _ (.put rfl) rfl ?_; show Value.int .u8 (BH c ix)[i]=_; rw [HO he Ge,List.getElem?_eq_getElem df]; rfl
  ·have he:elemAt c ix≠0:=by simpa using he
   refine IP _ (.put rfl) rfl ?_; show Value.int .u8 (elemAt c ix)=_; have Ge:=FO hix; unfold A5; unfold elemAt at he ⊢; rw [List.getElem?_eq_getElem Ge] at he ⊢; simp only at he ⊢; rw [if_pos he]
 ·simp only [JB,Uj,if_true]; have hi:i=n:=by omega
  exact R4 _ _ (.inl rfl) _ _ ⟨rfl,.inl (hi ▸ hj)⟩
theorem O8 {fn:FuncId} {nt:Nat} {f:Operand} {p1 p2 a1 a2:Tmp} {A B:Code} {e:Env} {ds:List Deferred} {W:CW} {K:AB} {bk bx r1 r2 n ix:Nat} {c:List Aj} {ty:ByteArray} (ht:Aq W)
  (hf:e.ev f=.func (.func 108) #[] #[.pointer (some ⟨bk,0,none⟩),.pointer (some ⟨bx,0,none⟩)]) (hix:BL c ty=some ix) (KO:n<100000) (hn:elemAt c ix=0→n≤(BH c ix).length)
  (hA:∀ ro e0 ds K W,AJ prog AM ro fn nt A e0 ds W K=K .normal (Env.of e0 [(a2,e0 p2),(a1,e0 p1)]) ds W) (ABr:p1≠p2∧a1≠a2)
  (J:Nat→CW→Prop) (Stop:Exit→CW→Prop) (hJ:∀ i W,J i W→r_ W bk bx r1 r2 c ty n)
  (hJl:∀ i W1 W2,J i W1→Da (W.sz+1) W1 W2→(∀ b k v,W1.cell b k=some v→W2.cell b k=some v)→J i W2)
  (zw:∀ x W1 W2,Stop x W1→Da (W.sz+1) W1 W2→(∀ b k v,W1.cell b k=some v→W2.cell b k=some v)→Stop x W2)
  (h0:∀ W2,Kp W W2→Aq W2→W2.sz=W.sz+2→W2.obj W.sz=some .deferred→J 0 W2)
  (mh:∀ (i:Nat) W1 (Kb:AB) (E:Env),(∀ t,t≠p1→t≠p2→t≠a1→t≠a2→E t=e t)→E a1=.int .i64 i→E a2=.int .u8 (A5 c ix i)→i<n→J i W1→(∃ o,W1.obj (W.sz+1)=some o∧∀ a b c d,o≠.cells a b c d) →
   (∀ e' EV W3,W3.obj (W.sz+1)=W1.obj (W.sz+1)→J (i+1) W3→Kb .normal e' EV W3)→(∀ e' EV W3,W3.obj (W.sz+1)=W1.obj (W.sz+1)→Stop .ret W3→Kb .ret e' EV W3)→(∀ id e' EV W3,W3.obj (W.sz+1)=W1.obj (W.sz+1)→Stop (.exit id) W3→Kb (.exit id) e' EV W3) →
   AJ prog AM (some (W.sz+1)) fn nt B E [] W1 Kb)
  (EU:∀ W',J n W'→K .normal e (mark W.sz::ds) W') (tZ:∀ x W',Stop x W'→K x e (mark W.sz::ds) W') :
  Bj prog AM none fn nt (.rangeFunc f #[p1,p2] A B) e ds W K:=by
 have BP:∀ {W1 W2:CW} {st Dq Vo e' gz g_ A' B' d'},Dy W1 (W.sz+1) st Dq Vo e' gz g_ A' B' d'→Da (W.sz+1) W1 W2→∀ b k v,W1.cell b k=some v→W2.cell b k=some v:=by
  intro W1 W2 st Dq Vo e' gz g_ A' B' d' hl hu b k v hc; obtain ⟨T,ho,_⟩:=hl
  rw [hu.cell]
  ·exact hc
  ·rintro rfl; unfold CW.cell at hc; rw [ho] at hc; cases hc
 refine hP (g:=108) (args:=[.func (.yield (W.sz+1)) #[] #[],.pointer (some ⟨bk,0,none⟩),.pointer (some ⟨bx,0,none⟩)]) ht ?_ fun W2 k2 t2 z2 hd hl=>?_
 ·rw [hf]; rfl
 ·refine (jj (J:=fun i W'=>J i W'∧Dy W' (W.sz+1) .ready none fn e nt #[p1,p2] A B W.sz) (Stop:=fun W'=>∃ x,Stop x W'∧∃ pd,Dy W' (W.sz+1) .done (some pd) fn e nt #[p1,p2] A B W.sz∧((pd=.ret∧x=.ret)∨∃ id,pd=.exit id∧x=.exit id)) hix KO hn (fun i W' h=>hJ i W' h.1) (fun i W' hi h=>?_) ⟨h0 W2 k2 t2 z2 hd,hl⟩).mono fun en W' ⟨he,hr⟩=>?_
  ·obtain ⟨hj,Xe⟩:=h; refine gy Xe rfl ?_; rw [hA]; refine ⟨rfl,none,e,nt,#[p1,p2],A,B,W.sz,Xe,fun W3 hu pg=>?_⟩; have hj3:=hJl i W' W3 hj hu (BP Xe hu); obtain ⟨tc,hd2⟩:=ABr
   refine mh i W3 _ _ (fun t h1 h2 h3 h4=>by simp only [AW,Aa,List.zip_cons_cons,List.zip_nil_left,Env.Gg,if_neg h1,if_neg h2,if_neg h3,if_neg h4]) (by simp only [AW,Aa,List.zip_cons_cons,List.zip_nil_left,Env.Gg,if_neg tc,if_neg hd2,if_true]) (by simp only [AW,Aa,List.zip_cons_cons,List.zip_nil_left,Env.Gg,if_true,if_neg (Ne.symm tc)]) hi hj3 (by obtain ⟨T,ho,_⟩:=pg; exact ⟨_,ho,fun _ _ _ _ h=>by cases h⟩) (fun e' EV W4 ho hj4=>?_) (fun e' EV W4 ho pW=>?_) (fun id e' EV W4 ho pW=>?_)
   ·refine ⟨.busy,none,fn,e,nt,#[p1,p2],A,B,W.sz,pg.congr ho,fun W5 Im xz=>.inl ⟨rfl,?_,xz⟩⟩; exact hJl _ W4 W5 hj4 Im (BP (pg.congr ho) Im)
   ·refine ⟨.busy,none,fn,e,nt,#[p1,p2],A,B,W.sz,pg.congr ho,fun W5 Im xz=>.inr ⟨rfl,.ret,?_,.ret,xz,.inl ⟨rfl,rfl⟩⟩⟩; exact zw _ W4 W5 pW Im (BP (pg.congr ho) Im)
   ·refine ⟨.busy,none,fn,e,nt,#[p1,p2],A,B,W.sz,pg.congr ho,fun W5 Im xz=>.inr ⟨rfl,.exit id,?_,.exit id,xz,.inr ⟨id,rfl,rfl⟩⟩⟩; exact zw _ W4 W5 pW Im (BP (pg.congr ho) Im)
  ·refine ⟨⟨_,he⟩,?_⟩
   rcases hr with ⟨hj,Xe⟩ | ⟨x,hs,pd,Xe,hx⟩
   ·refine ⟨.ready,none,fn,e,nt,#[p1,p2],A,B,W.sz,Xe,(by intro h; cases h),fun W5 Im=>EU W5 ?_⟩; exact hJl _ W' W5 hj Im (BP Xe Im)
   ·refine ⟨.done,some pd,fn,e,nt,#[p1,p2],A,B,W.sz,Xe,(by intro h; cases h),fun W5 Im=>?_⟩; have hs5:=zw _ W' W5 hs Im (BP Xe Im)
    rcases hx with ⟨rfl,rfl⟩ | ⟨id,rfl,rfl⟩
    ·exact tZ _ W5 hs5
    ·exact tZ _ W5 hs5
end Go.Ce
namespace Go.Ce
open Go Go.Proofs Go.Proofs.Tryz
theorem Yj:Tryz.f119.results.toList=[.cell 6 4]:=by kernel_rfl
theorem s4:Db prog 4=some 1:=by kernel_rfl
theorem a4:agg? prog 4=some false:=by kernel_rfl
theorem G0 {P:Program} {fn:Func} {Q:Ending→CW→Prop} {x:Exit} {e:Env} {ds:List Deferred} {W:CW} {r:Nat} (ho:W.obj r=some .deferred) (h:AI P fn Q x e ds (W.Az r .dead)):AI P fn Q x e (mark r::ds) W:=⟨ho,h⟩
def jk (r1 r2:Nat) (ty:ByteArray) (vx:Value) (W:CW):Ending→CW→Prop:=fun e W'=>Kp W W'∧Aq W'∧∃ bk bx,e=.returned (.func (.func 108) #[] #[.pointer (some ⟨bk,0,none⟩),.pointer (some ⟨bx,0,none⟩)])∧W.sz≤bk∧W.sz≤bx∧BF W' bk 78 [.map (some r1),.map (some r2)]∧BF W' bx 56 [.string ty,vx]
theorem L7 {r1 r2:Nat} {ty:ByteArray} {vx:Value} {W:CW} (ht:Aq W):AD prog AM 62 [K3 r1 r2,.agg #[.string ty,vx]] W (jk r1 r2 ty vx W):=by
 refine ABN ?_; rw [ABM]; unfold K3; refine GA NS ht fun W0 k0 t0 z0 Vz=>?_; refine GA Ma t0 fun W1 k1 t1 z1 VT=>?_; simp only [AA]; rw [je]; exact ⟨k0.trans k1,t1,W.sz,W0.sz,rfl,Nat.le_refl _,k0.sz,Vz.ext t0 k1,VT⟩
theorem fS (kind n:Int) (size:Nat):(!GR kind n size)=((kind == 1 && !(decide (-1000000000≤n) && decide (n≤1000000000))) || (kind == 2 && !(decide ((0:Int)≤n) && decide (n≤(size:Int))))):=by
 unfold GR; rw [Bool.not_not]
 congr 2
 ·by_cases h1:-1000000000≤n <;> by_cases h2:n≤1000000000 <;> simp [h1,h2] <;> omega
 ·by_cases h1:(0:Int)≤n <;> by_cases h2:n≤(size:Int) <;> simp [h1,h2] <;> omega
def Qy (c:List Aj) (i:Nat) (vs:List Int) (size k:Nat):Bool:=match vs[k]? with
 | some n=>!GR (A5 c i k) n size
 | none=>false
theorem U3 {c:List Aj} {x:BN} {size i:Nat} {s:Aj} (hi:BL c x.type=some i) (hs:c[i]?=some s):A4 c x size=(El c i s x.AL.length && !Dt x.AL.length (Qy c i x.AL size)):=by
 unfold A4; rw [hi]; simp only [hs]; rfl
theorem sA {c:List Aj} {r1 r2:Nat} {x:BN} {vx:Value} {size:Nat} {W:CW} (ht:Aq W) (GG:D_ W r1 r2 c) (Ai:BV c=true) (hC:SG c) (U4:A3 1 (DW W) vx x.AL) (hv:x.AL.length<100000) (HD:size<1000000) :
  AD prog AM 119 [K3 r1 r2,.agg #[.string x.type,vx],.int .i64 size] W (tN (.bool (A4 c x size)) W):=by
 refine xQ ?_; rw [xP]; unfold K3; obtain ⟨ax,cx,rfl,_⟩:=id U4; refine GA NS ht fun W0 k0 t0 z0 IJ=>?_; have IJ:BF W0 W.sz 78 [.map (some r1),.map (some r2)]:=IJ; refine GA Ma t0 fun W1 k1 t1 z1 Mj=>?_; have Mj:BF W1 W0.sz 56 [.string x.type,.slice ax x.AL.length cx]:=Mj; refine GA s3 t1 fun W2 k2 t2 z2 LS=>?_; have LS:BF W2 W1.sz 3 [.int .i64 size]:=LS; refine HM z4 s4 t2 fun W3 k3 t3 z3 Ja=>?_; have Ja:BF W3 W2.sz 4 [.bool false]:=Ja; have td:=(k1.trans k2).trans k3; have kk:Kp W W3:=k0.trans td; have U5:=GG.kp ht kk; have IJ:=IJ.ext t0 td; have Mj:=Mj.ext t1 (k2.trans k3); have LS:=LS.ext t2 k3; have ABs:W.sz≤W2.sz:=by have:=k0.sz; have:=k1.sz; have:=k2.sz; omega
 have EB:W2.sz≠W.sz∧W2.sz≠W0.sz∧W2.sz≠W1.sz:=by have:=k1.sz; omega
 generalize jl:W.sz=b3 at IJ ABs EB; generalize tF:W0.sz=b4 at Mj EB; generalize hb5:W1.sz=b5 at LS EB; generalize hb6:W2.sz=b6 at Ja ABs EB; have q3:∀ W7,Kp W3 W7→ld prog 75 (.pointer (some ⟨b3,0,none⟩)) W7=some (.map (some r1)):=fun W7 k7=>AF xX (a:=⟨b3,0,none⟩) (k7.cell t3 (IJ.cell rfl)); have q3':∀ W7,Kp W3 W7→ld prog 76 (.pointer (some ⟨b3,0+1,none⟩)) W7=some (.map (some r2)):=fun W7 k7=>AF a76 (a:=⟨b3,1,none⟩) (k7.cell t3 (IJ.cell rfl)); have q4:∀ W7,Kp W3 W7→ld prog 9 (.pointer (some ⟨b4,0,none⟩)) W7=some (.string x.type):=fun W7 k7=>AF a9 (a:=⟨b4,0,none⟩) (k7.cell t3 (Mj.cell rfl)); have q4':∀ W7,Kp W3 W7→ld prog 40 (.pointer (some ⟨b4,0+1,none⟩)) W7=some (.slice ax x.AL.length cx):=fun W7 k7=>AF Nr (a:=⟨b4,1,none⟩) (k7.cell t3 (Mj.cell rfl)); obtain ⟨ws,L,Zw,PZ,P0⟩:=fL U5.sh x.type; simp only [K1,H9,AA,q3 W3 (.refl _),q4 W3 (.refl _),L,Bd,Be]; refine D' nN gu rfl PZ Zw t3 fun W5 k5 t5 z5 x7=>?_; have iC:=U5.kp t3 k5; generalize LM:AI prog Tryz.f119 (tN (.bool (A4 c x size)) W)=K
 have EU:∀ (W7:CW) (b:Bool) (e:Env),DF (·=b6) W3 W7→Aq W7→W7.cell b6 0=some (.bool b)→e 6=.pointer (some ⟨b6,0,none⟩)→b=A4 c x size→K .ret e [] W7:=by
  intro W7 b e k t hb h6 hbe; rw [←LM]; refine Nu Yj h6 (AF a4 (a:=⟨b6,0,none⟩) hb) ?_; exact ⟨by rw [hbe],DF.kp kk k fun j hj=>by rw [hj]; omega,t⟩
 have leaf:∀ (b:Bool) (e:Env),e 44=.bool b→e 3=.pointer (some ⟨b3,0,none⟩)→e 4=.pointer (some ⟨b4,0,none⟩)→e 5=.pointer (some ⟨b5,0,none⟩)→e 6=.pointer (some ⟨b6,0,none⟩) →
   (b=true→A4 c x size=false)→(b=false→∃ i s,BL c x.type=some i∧c[i]?=some s∧El c i s x.AL.length=true)→(J3 none K) .normal e [] W5:=by
  intro b e h44 h3 h4 h5 h6 xv r6; have fT:=Ja.ext t3 k5; simp only [J3,Bi,h44]
  refine AN (fun hb=>?_) (fun hb=>?_)
  ·rw [h6]; refine Am s4 (a:=⟨b6,0,none⟩) rfl fT (by simp) fun W6 hu hB=>?_; have hu:Da b6 W5 W6:=hu; have ABt:=fT.lt t5; simp only [L6,LC,zs,O2]; exact EU W6 false e ((DF.Gl k5).then hu.Gy fun _ _ h=>h) (t5.Az ABt hu) (hB.cell rfl) h6 (xv hb).symm
  ·obtain ⟨i,s,hi,hs,hm⟩:=r6 hb; have HQ:A4 c x size=!Dt x.AL.length (Qy c i x.AL size):=by rw [U3 hi hs,hm,Bool.true_and]
   have AD6:=IJ.ext t3 k5; have AD7:=Mj.ext t3 k5; simp only [L6,Bi,h3,h4]; rw [Ba (vs:=[.map (some r1),.map (some r2)]) iB NS rfl (by omega) AD6.cells,Ba (vs:=[.string x.type,.slice ax x.AL.length cx]) jU Ma rfl (by omega) AD7.cells]; simp only [AA]; refine (L7 (r1:=r1) (r2:=r2) (ty:=x.type) t5).mono fun en W8 ⟨k8,t8,bk,bx,FG,Y9,hbx,cV,cW⟩=>?_; subst FG; simp only [AQ]; have bG:=iC.kp t5 k8; have x8:=k5.trans k8; have x9:=fT.ext t5 k8; have ABt:=x9.lt t8; have AD8:=cV.lt t8; have AD9:=cW.lt t8; have AFf:=Ja.lt t3; have AFg:=k5.sz; have hv8:A3 1 (DW W8) (.slice ax x.AL.length cx) x.AL:=U4.imp fun _ _ _ hr=>hr.kp ht (kk.trans x8); have hKd:∀ W',Kp W8 W'→r_ W' bk bx r1 r2 c x.type x.AL.length:=fun W' k=>⟨k.cell t8 (cV.cell rfl),k.cell t8 (cV.cell rfl),bG.kp t8 k,k.cell t8 (cW.cell rfl),_,_,k.cell t8 (cW.cell rfl)⟩
   refine O8 (bk:=bk) (bx:=bx) (r1:=r1) (r2:=r2) (n:=x.AL.length) (ix:=i) (c:=c) (ty:=x.type) (a1:=9) (a2:=10) t8 rfl hi hv (fun he=>by
     have:=Fl hs he hm; omega) (fun ro e0 ds K W=>by rw [rV]) (by decide)
    (fun j W'=>Kp W8 W'∧Aq W'∧W'.obj W8.sz=some .deferred∧W8.sz+1<W'.sz∧∀ m,m<j→Qy c i x.AL size m=false)
    (fun y W'=>y=.ret∧DF (·=b6) W8 W'∧Aq W'∧W'.obj W8.sz=some .deferred∧W'.cell b6 0=some (.bool false)∧W8.sz+1<W'.sz∧A4 c x size=false)
    (fun j W' h=>hKd W' h.1) (fun j W1 W2 ⟨h1,h2,h3,h4,h5⟩ hu hc=>?_) (fun y W1 W2 ⟨h1,h2,h3,h4,h5,h6,h7⟩ hu hc=>?_) (fun W2 k2 t2 z2 hd=>⟨k2,t2,hd,by omega,by omega⟩) (fun j W1 Kb E hE sB sC hj ⟨qP,ht1,tc,jD,Bg⟩ XB hn hr hx=>?_) (fun W' ⟨h1,h2,h3,h4,h5⟩=>?_) (fun y W' ⟨y1,y2,y3,y4,y5,y6,y7⟩=>?_)
   ·exact ⟨h1.Az (by omega) hu,h2.Az h4 hu,by rw [hu.obj _ (by omega)]; exact h3,by rw [hu.sz]; exact h4,h5⟩
   ·exact ⟨h1,h2.then hu.Gy fun i hi he=>by omega,h3.Az h6 hu,by rw [hu.obj _ (by omega)]; exact h4,hc _ _ _ h5,by rw [hu.sz]; exact h6,h7⟩
   ·have Ww:=List.getElem?_eq_getElem hj; obtain ⟨p,e2,hpc⟩:=id hv8; have Z3:A3 1 (DW W1) (.slice ax x.AL.length cx) x.AL:=hv8.imp fun _ _ _ hr=>hr.kp t8 qP; obtain ⟨_,_,e3,hvc⟩:=Z3
    cases e3
    obtain ⟨q,rfl,hq⟩:=hvc j _ Ww; have k31:=x8.trans qP; have x_:=x9.ext t8 qP; have l3:ld prog 3 (.pointer (some ⟨b5,0,none⟩)) W1=some (.int .i64 size):=AF a3 (a:=⟨b5,0,none⟩) (k31.cell t3 (LS.cell rfl)); have g4:E 4=.pointer (some ⟨b4,0,none⟩):=(hE 4 (by decide) (by decide) (by decide) (by decide)).trans h4; have g5:E 5=.pointer (some ⟨b5,0,none⟩):=(hE 5 (by decide) (by decide) (by decide) (by decide)).trans h5; have g6:E 6=.pointer (some ⟨b6,0,none⟩):=(hE 6 (by decide) (by decide) (by decide) (by decide)).trans h6; rw [rX,g4,g5,sB,sC]; simp only [FM,AA,q4' W1 k31]; rw [BM Hq s3 hj]; simp only [AA]; rw [AF a3 (a:=⟨q.block,q.off+j*1,none⟩) hq.1]; simp only [AA,CD]
    have pc:Qy c i x.AL size j=((A5 c i j == 1 && !(decide (-1000000000≤x.AL[j]) && decide (x.AL[j]≤1000000000))) || (A5 c i j == 2 && !(decide ((0:Int)≤x.AL[j]) && decide (x.AL[j]≤(size:Int))))):=by
     unfold Qy; rw [Ww]; exact fS _ _ _
    have iD:∀ (b:Bool) (e2:Env),e2 71=.bool b→e2 6=.pointer (some ⟨b6,0,none⟩)→b=Qy c i x.AL size j→(Fm (some (W8.sz+1)) Kb) .normal e2 [] W1:=by
     intro b e2 h71 g6 hb; simp only [Fm,Bi,h71]
     refine AN (fun R0=>?_) (fun R0=>?_)
     ·rw [g6]; refine Am s4 (a:=⟨b6,0,none⟩) (v:=.bool false) rfl x_ (by simp) fun W9 hu hB=>?_; have hu:Da b6 W1 W9:=hu; refine hr _ _ W9 (hu.obj _ (by omega)) ⟨rfl,(DF.Gl qP).then hu.Gy fun _ _ h=>h,ht1.Az (by omega) hu,by rw [hu.obj _ (by omega)]; exact tc,hB.cell rfl,by rw [hu.sz]; exact jD,?_⟩; rw [HQ,Dz hj (by rw [←hb,R0])]; rfl
     ·exact hn _ _ W1 rfl ⟨qP,ht1,tc,jD,J0 Bg (by rw [←hb,R0])⟩
    have second:∀ (e2:Env),e2 6=.pointer (some ⟨b6,0,none⟩)→True:=fun _ _=>trivial
    refine AN (fun hk=>?_) (fun hk=>?_)
    ·refine BA (aM _ _ _ _) ?_; simp only [Ar,AA]; rw [hk,Bool.true_and] at pc
     refine AN (fun Jq=>?_) (fun Jq=>?_)
     ·exact iD true _ rfl (by exact g6) (by rw [pc,Jq]; rfl)
     ·have qP:A5 c i j=1:=by simpa using hk
      rw [Jq,qP,show ((1:Int) == 2)=false from rfl,Bool.false_and,Bool.or_self] at pc; simp only [qP,Int.reduceBEq,Ay]; exact iD false _ rfl (by exact g6) pc.symm
    ·rw [hk,Bool.false_and,Bool.false_or] at pc
     refine AN (fun lG=>?_) (fun lG=>?_)
     ·simp only [l3,AA]; refine BA (aM _ _ _ _) ?_; simp only [Ar,AA]; rw [lG,Bool.true_and] at pc; exact iD _ _ rfl (by exact g6) pc.symm
     ·exact iD false _ rfl (by exact g6) (by rw [pc,lG,Bool.false_and])
   ·simp only [Bi,rK,O2]; simp only [AW,Aa,Nat.reduceEqDiff,↓reduceIte,h6]; have x_:=x9.ext t8 h1; refine Am s4 (a:=⟨b6,0,none⟩) (v:=.bool true) rfl x_ (by simp) fun W9 hu hB=>?_; have hu:Da b6 W' W9:=hu; rw [←LM]; have hd9:W9.obj W8.sz=some .deferred:=by rw [hu.obj _ (by omega)]; exact h3
    refine G0 hd9 ?_; have H4:Da W8.sz W9 (W9.Az W8.sz .dead):=Da.of _ _ _; have t9:Aq W9:=h2.Az (by omega) hu; rw [LM]; refine EU _ true _ ((((DF.Gl (x8.trans h1)).then hu.Gy fun _ _ h=>h)).then H4.Gy fun j hj he=>by omega) (t9.Az (by rw [hu.sz]; omega) H4) (by rw [H4.cell (by omega)]; exact hB.cell rfl) h6 ?_; rw [HQ,FB fun m hm=>h5 m hm]; rfl
   ·subst y1; simp only [LC,PV,O2]; rw [←LM]; refine G0 y4 ?_; have H4:Da W8.sz W' (W'.Az W8.sz .dead):=Da.of _ _ _; rw [LM]; exact EU _ false _ (((DF.Gl x8).then y2 fun _ _ h=>h).then H4.Gy fun j hj he=>by omega) (y3.Az (by omega) H4) (by rw [H4.cell (by omega)]; exact y5) h6 y7.symm
 simp only [Ar,AA]
 cases hi:BL c x.type with
 | none =>
  simp only [Option.isSome_none,Bool.not_false,Bx]; exact leaf true _ rfl rfl rfl rfl rfl (fun _=>by unfold A4; rw [hi]) (fun h=>by cases h)
 | some i =>
  have Ge:=FO hi; have hs:=List.getElem?_eq_getElem Ge; simp only [Option.isSome_some,Bool.not_true,Ay]; have e7:ld prog 5 (.pointer (some ⟨W3.sz,0+3,none⟩)) W5=some (.int .u8 (elemAt c i)):=AF a5 (a:=⟨W3.sz,0+3,none⟩) (x7.cell (P0 i hi)); obtain ⟨ar,cr,lr,xd⟩:=iC.rw.some hi; have ABu:elemAt c i=c[i].elem:=by unfold elemAt; rw [hs]
  have h60:=(YZ Ai Ge).1; simp only [YS,FM,O4,AA,e7,q4 W5 k5,q4' W5 k5,q3' W5 k5,lr,At Hq,At eR,CD,DK,CO]
  refine AN (fun he=>?_) (fun he=>?_)
  ·have he:elemAt c i=0:=by simpa using he
   have hm:El c i c[i] x.AL.length=decide (x.AL.length=(BH c i).length):=by unfold El; rw [if_neg (by rw [←ABu]; simpa using he)]
   refine AN (fun hn=>?_) (fun hn=>?_)
   ·have hn:¬(x.AL.length:Int)=(BH c i).length:=by simpa using hn
    exact leaf true _ rfl rfl rfl rfl rfl (fun _=>by rw [U3 hi hs,hm,decide_eq_false (by omega)]; rfl) (fun h=>by cases h)
   ·have hn:(x.AL.length:Int)=(BH c i).length:=by simpa using hn
    refine leaf (decide ((x.AL.length:Int)>200)) _ rfl rfl rfl rfl rfl (fun h=>by have:=of_decide_eq_true h; omega) (fun _=>⟨i,c[i],hi,hs,by rw [hm]; exact decide_eq_true (by omega)⟩)
  ·have he:elemAt c i≠0:=by simpa using he
   have hm:El c i c[i] x.AL.length=decide (x.AL.length≤200):=by unfold El; rw [if_pos (by rw [←ABu]; exact he)]
   refine leaf (decide ((x.AL.length:Int)>200)) _ rfl rfl rfl rfl rfl (fun h=>?_) (fun h=>⟨i,c[i],hi,hs,?_⟩)
   ·have:=of_decide_eq_true h; rw [U3 hi hs,hm,decide_eq_false (by omega)]; rfl
   ·have:=of_decide_eq_false h; rw [hm]; exact decide_eq_true (by omega)
theorem s24:Db prog 24=some 1:=by kernel_rfl
theorem yA:agg? prog 24=some false:=by kernel_rfl
structure ABv (W:CW) (b2 b3 r1 r2:Nat) (c:List Aj) (h:List BN):Prop where
 k:Cells W b2 0 [.map (some r1),.map (some r2)]
 cat:D_ W r1 r2 c
 h:∃ a cap,W.cell b3 0=some (.slice a h.length cap)
theorem jm {c:List Aj} {r1 r2 b2 b3:Nat} {x:BN} {h:List BN} {vx:Value} {W:CW} (ht:Aq W) (A:ABv W b2 b3 r1 r2 c h) (Ai:BV c=true) (hC:SG c) (U4:A3 1 (DW W) vx x.AL) (hv:x.AL.length<100000) (HD:h.length<1000000) :
  AD prog AM 118 [.agg #[.string x.type,vx],.pointer (some ⟨b2,0,none⟩),.pointer (some ⟨b3,0,none⟩)] W (tN (.bool (!A4 c x h.length)) W):=by
 refine xO ?_; rw [xN]; refine GA Ma ht fun W0 k0 t0 z0 hB=>?_; have hB:BF W0 W.sz 56 [.string x.type,vx]:=hB; obtain ⟨a,cap,h3⟩:=A.h; have hc2:Cells W0 b2 0 [.map (some r1),.map (some r2)]:=A.k.ext ht k0; rw [Ba (vs:=[.map (some r1),.map (some r2)]) (a:=⟨b2,0,none⟩) iB NS rfl (by omega) hc2,Ba (vs:=[.string x.type,vx]) (a:=⟨W.sz,0,none⟩) jU Ma rfl (by omega) hB.cells,AF yA (a:=⟨b3,0,none⟩) (k0.cell ht h3)]; simp only [AA,At WC]; refine UX (sA t0 (A.cat.kp ht k0) Ai hC (U4.imp fun _ _ _ hr=>hr.kp ht k0) hv HD) fun W1 k1 t1=>?_; simp only [Ar,AA,fC]; exact ⟨rfl,k0.trans k1,t1⟩
theorem jn {c:List Aj} {r1 r2 b2 b3:Nat} {v0:Value} {h:List BN} {W:CW} (ht:Aq W) (A:ABv W b2 b3 r1 r2 c h) (Ai:BV c=true) (hC:SG c) (hh:A3 2 (Gx W) v0 h) (hv:∀ x,x ∈ h→x.AL.length<100000) (HD:h.length<1000000) :
  AD prog AM 117 [v0,.func (.func 118) #[] #[.pointer (some ⟨b2,0,none⟩),.pointer (some ⟨b3,0,none⟩)]] W (tN (.int .i64 (IY h fun x=>!A4 c x h.length)) W):=by
 refine xM ?_; rw [xL]; obtain ⟨a,cap,rfl,BP⟩:=hh; simp only [At WC,AA]; refine FT (fun i e ds W'=>Kp W W'∧Aq W'∧ds=[]∧e 0=.slice a h.length cap∧e 1=.func (.func 118) #[] #[.pointer (some ⟨b2,0,none⟩),.pointer (some ⟨b3,0,none⟩)]∧e 7=.int .i64 h.length∧e 8=.int .i64 i∧∀ j x,j<i→h[j]?=some x→(!A4 c x h.length)=false) h.length ⟨.refl _,ht,rfl,rfl,rfl,rfl,rfl,by omega⟩ ?_; rintro i e ds W' hi ⟨k',t',rfl,h0,h1,h7,h8,Bg⟩; rw [rU,h0,h1,h7,h8]; simp only [Ax,AA]
 refine It (fun A0=>?_) (fun Mx=>?_)
 ·have hx:=List.getElem?_eq_getElem A0; obtain ⟨p,rfl,hr⟩:=BP i _ hx; obtain ⟨u,hu,vx,rfl,U4⟩:=(hr.kp ht k').ld; rw [BM WC Ma A0]; simp only [AA,hu]; obtain ⟨ah,ch,h3⟩:=A.h; refine H8 Tryz.func118 (by kernel_rfl) (UX (jm t' ⟨A.k.ext ht k',A.cat.kp ht k',ah,ch,k'.cell ht h3⟩ Ai hC U4 (hv _ (List.getElem_mem A0)) HD) fun W1 k1 t1=>?_)
  refine AN (fun hq=>?_) (fun hq=>?_)
  ·simp only [O1,LC,PV,Kv,Wm,Yc,Uw]; refine ⟨?_,k'.trans k1,t1⟩; simp only [AW,↓reduceIte]; rw [Jw A0 hq Bg]
  ·simp only [O1,Bi,Kv]; simp only [AW,Aa,Nat.reduceEqDiff,↓reduceIte,h0,h1,h7,h8,Ae,AA]; refine ⟨A0,k'.trans k1,t1,trivial,trivial,trivial,trivial,by rw [FU (by omega)],fun j x hj QN=>?_⟩
   rcases Nat.lt_succ_iff_lt_or_eq.1 hj with h2 | rfl
   ·exact Bg j x h2 QN
   ·rw [hx] at QN; cases QN; exact hq
 ·simp only [Bi,Rr,JB,Uj,if_true,Yc,Uw]; refine ⟨?_,k',t'⟩; simp only [AW,↓reduceIte]; rw [Jx fun j x hj hx=>Bg j x (by omega) hx]
theorem nr {c:List Aj} {r1 r2:Nat} {v1:Value} {h:List BN} {W:CW} (ht:Aq W) (GG:D_ W r1 r2 c) (Ai:BV c=true) (hC:SG c) (hh:A3 2 (Gx W) v1 h) (hv:∀ x,x ∈ h→x.AL.length<100000) (HD:h.length<1000000) :
  AD prog AM 84 [K3 r1 r2,v1] W (tN (.int .i64 (GS c h)) W):=by
 refine ABP ?_; rw [ABO]; unfold K3; obtain ⟨a,cap,rfl,_⟩:=id hh; refine GA NS ht fun W0 k0 t0 z0 Vz=>?_; refine GA s24 t0 fun W1 k1 t1 z1 VT=>?_; have kk:=k0.trans k1; rw [AF yA (a:=⟨W0.sz,0,none⟩) (VT.cell rfl)]; simp only [AA,At WC,CO]; unfold GS
 refine AN (fun hg=>?_) (fun hg=>?_)
 ·rw [Ws,if_pos (by have:=of_decide_eq_true hg; omega)]; exact ⟨rfl,kk,t1⟩
 ·rw [if_neg (by have:=of_decide_eq_false hg; omega)]; refine UX (jn t1 ⟨(Vz.ext t0 k1).cells,GG.kp ht kk,_,_,VT.cell rfl⟩ Ai hC (hh.imp fun _ _ _ hr=>hr.kp ht kk) hv HD) fun W2 k2 t2=>?_; rw [Ws]; exact ⟨rfl,kk.trans k2,t2⟩
theorem bH:Tryz.f49.results.toList=[.cell 6 78,.tmp 7]:=by kernel_rfl
def A7 (c:List Aj) (h:List BN) (root:Int):Int:=if BV c then (if GS c h≥0 then 211 else if root<0∨root>h.length then 1 else 0) else 210
def U6 (c:List Aj) (h:List BN) (root:Int) (W:CW):Ending→CW→Prop:=fun e W'=>Kp W W'∧Aq W'∧∃ r1 r2,e=.returned (.tuple #[K3 r1 r2,.int .i64 (A7 c h root)])∧(BV c=true→D_ W' r1 r2 c)
theorem D_.ABw {W W':CW} {r1 r2 b:Nat} {c:List Aj} {u v:Value} (h:D_ W r1 r2 c) (hu:Da b W W') (hB:BF W b 78 [u,v]) (h1:∀ k n,u≠.int k n∧v≠.int k n) (h2:∀ s,u≠.string s∧v≠.string s):D_ W' r1 r2 c:=by
 have ic:∀ b' k k2 n,W.cell b' k=some (.int k2 n)→W'.cell b' k=some (.int k2 n):=fun b' k k2 n hc=>by
  rw [hu.cell]
  ·exact hc
  ·rintro rfl; have:=hB.Ih hc
   match k,this with
   | 0,this=>exact ((h1 k2 n).1 (Option.some.inj this)).elim
   | 1,this=>exact ((h1 k2 n).2 (Option.some.inj this)).elim
 have gL:∀ b' k s,W.cell b' k=some (.string s)→W'.cell b' k=some (.string s):=fun b' k s hc=>by
  rw [hu.cell]
  ·exact hc
  ·rintro rfl; have:=hB.Ih hc
   match k,this with
   | 0,this=>exact ((h2 s).1 (Option.some.inj this)).elim
   | 1,this=>exact ((h2 s).2 (Option.some.inj this)).elim
 constructor
 ·obtain ⟨m,m1,m2⟩:=h.sh; refine ⟨m,m1.congr (hu.obj _ (Ne.symm (Bo hB m1))),fun s=>?_⟩; have:=m2 s
  cases hi:BL c s with
  | none=>rw [hi] at this; exact this
  | some i =>
   rw [hi] at this; obtain ⟨w,x,h5,h6,vf,ab,lb,cb,h7,h8⟩:=this; exact ⟨w,x,h5,h6,vf,ab,lb,cb,h7,h8.imp fun _ _ _ hr=>⟨gL _ _ _ hr.name,ic _ _ _ _ hr.kind,hr.lo,hr.hi⟩⟩
 ·obtain ⟨m,m1,m2⟩:=h.rw; refine ⟨m,m1.congr (hu.obj _ (Ne.symm (Bo hB m1))),fun s=>?_⟩; have:=m2 s
  cases hi:BL (c.take c.length) s with
  | none=>rw [hi] at this; exact this
  | some i =>
   rw [hi] at this; obtain ⟨v,h5,h6⟩:=this; exact ⟨v,h5,h6.imp fun _ _ _ hr=>ic _ _ _ _ hr⟩
theorem J5 {v0 v1:Value} {c:List Aj} {h:List BN} {root:Int} {W:CW} (ht:Aq W) (hc:A3 5 (M7 W) v0 c) (hC:SG c) (hh:A3 2 (Gx W) v1 h) (hv:∀ x,x ∈ h→x.AL.length<100000) (HD:h.length<1000000) :
  AD prog AM 49 [v0,v1,.int .i64 root] W (U6 c h root W):=by
 refine ABH ?_; rw [ABG]; obtain ⟨a,cap,rfl,_⟩:=id hh; refine HM pf NS ht fun W0 k0 t0 z0 Ja=>?_; have Ja:BF W0 W.sz 78 [.map none,.map none]:=Ja; refine (bB t0 (hc.imp fun _ _ _ hr=>hr.kp ht k0) hC).mono fun en W1 ⟨k1,t1,r1,r2,FG,PO,lS,GG⟩=>?_; subst FG; simp only [AQ,Bd,Be,AA]; unfold K3; refine D' (ws:=[.map (some r1),.map (some r2)]) pf NS rfl rfl rfl t1 fun W4 k4 t4 z4 SJ=>?_; have AD':=Ja.ext t0 (k1.trans k4); have jo:=(k0.trans k1).trans k4; generalize LM:AI prog Tryz.f49 (U6 c h root W)=K
 have Gz:∀ W5,Kp W4 W5→Aq W5→(BV c=true→D_ W5 r1 r2 c)→∀ {K':Value→CW→Prop},(∀ v W6,(∀ e,e 6=.pointer (some ⟨W.sz,0,none⟩)→e 7=.int .i64 (A7 c h root)→K .ret e [] W6)→K' v W6) →
   wV (ld prog 78 (.pointer (some ⟨W1.sz,0,none⟩)) W5) fun v=>wV (B5 prog 78 (.pointer (some ⟨W.sz,0,none⟩)) v W5) (K' v):=by
  intro W5 k5 t5 iC K' xe; rw [V0 (SJ.ext t4 k5)]; simp only [AA]; have fT:=AD'.ext t4 k5; refine Dj NS (a:=⟨W.sz,0,none⟩) rfl rfl fT (by simp) fun W6 hu hB=>xe _ W6 fun e h6 h7=>?_; have hu:Da W.sz W5 W6:=hu; have hB:BF W6 W.sz 78 [.map (some r1),.map (some r2)]:=hB; rw [←LM]; refine Ig bH h6 (V0 hB) ?_; have hl:=fT.lt t5; refine ⟨(jo.trans k5).Az (Nat.le_refl _) hu,t5.Az hl hu,r1,r2,by rw [h7]; rfl,fun hc=>?_⟩; exact (iC hc).ABw hu fT (fun k n=>⟨nofun,nofun⟩) (fun s=>⟨nofun,nofun⟩)
 simp only [Ar,AA]
 cases Ai:BV c with
 | false =>
  simp only [Bool.not_false,Bx]; refine Gz W4 (.refl _) t4 (fun h=>by rw [Ai] at h; cases h) fun v W6 hr=>?_; simp only [JZ,LC]; exact hr _ rfl (by unfold A7; rw [Ai]; rfl)
 | true =>
  simp only [Bool.not_true,Ay]; have XC:=(GG Ai).kp t1 k4; rw [V0 SJ]; simp only [AA]; refine UX (nr (v1:=.slice a h.length cap) t4 XC Ai hC (hh.imp fun _ _ _ hr=>hr.kp ht jo) hv HD) fun W8 k8 t8=>?_; have bG:=XC.kp t4 k8; simp only [DL,AA]
  refine AN (fun hw=>?_) (fun hw=>?_)
  ·have hw:=of_decide_eq_true hw; refine Gz W8 k8 t8 (fun _=>bG) fun v W6 hr=>?_; simp only [JZ,LC]; exact hr _ rfl (by unfold A7; rw [Ai,if_pos rfl,if_pos hw]; rfl)
  ·have hw:=of_decide_eq_false hw; simp only [At WC,AA]; refine BA (aM _ _ _ _) ?_; simp only [Ar,AA]
   refine AN (fun hb=>?_) (fun hb=>?_)
   ·refine Gz W8 k8 t8 (fun _=>bG) fun v W6 hr=>?_; simp only [JZ,LC]; refine hr _ rfl ?_
    have:root<0∨root>h.length:=by
     by_cases h1:(0:Int)≤root
     ·right
      by_cases h2:root≤(h.length:Int)
      ·rw [decide_eq_true h1,decide_eq_true h2] at hb; cases hb
      ·omega
     ·left; omega
    unfold A7; rw [Ai,if_pos rfl,if_neg hw,if_pos this]; rfl
   ·have:¬(root<0∨root>h.length):=by
     rw [Bool.not_eq_false',Bool.and_eq_true,decide_eq_true_eq,decide_eq_true_eq] at hb; omega
    simp only [JZ,Bi]; simp only [AW,Nat.reduceEqDiff,↓reduceIte]; refine Gz W8 k8 t8 (fun _=>bG) fun v W6 hr=>?_; exact hr _ rfl (by unfold A7; rw [Ai,if_pos rfl,if_neg hw,if_neg this]; rfl)
end Go.Ce
namespace Go.Ce
open Go Go.Proofs Go.Proofs.Tryz
def Yk (ro:Option Nat) (K:AB):AB:=Ag (fun e ds W=>wV (ld prog 88 (e 15) W) fun X_=>wV (HV X_) fun ZC=>wV (BD prog 97 ZC 0) fun Ss=>AD prog AM 55 [Ss,(.int .i64 1)] W (AQ (fun UI LI=>wV (ld prog 88 (e 15) LI) fun Dd=>wV (HV Dd) fun DC=>wV (BD prog 97 DC 0) fun M0=>wV (ld prog 51 (e 16) LI) fun LJ=>wV (ld prog 88 (e 15) LI) fun fU=>wV (HV fU) fun Gw=>wV (BD prog 97 Gw 0) fun Ok=>wV (some (.func (.func 57) #[Ok] #[])) fun EY=>AD prog AM 56 [M0,LJ,EY] LI (AQ (fun Bc Nk=>(((True)∧ld prog 88 (e 15) LI=some fU)∧(((True)∧ld prog 51 (e 16) LI=some LJ)∧(((True)∧ld prog 88 (e 15) LI=some Dd)∧True)))∧True∧AD prog AM 58 [] Nk (AQ (fun CY W22=>CZ (H2 prog 108 W22) fun D9 nB=>wV (B5 prog 108 D9 CY nB) fun dt=>wV (ld prog 88 (e 15) dt) fun CG=>wV (HV CG) fun UL=>wV (BD prog 97 UL 0) fun QU=>wV (ld prog 88 (e 15) dt) fun Ho=>wV (HV Ho) fun M6=>wV (BD prog 97 M6 1) fun EO=>wV (ld prog 89 EO dt) fun Dc=>wV (HV Dc) fun DO=>wV (BD prog 100 DO 0) fun Ky=>wV (ld prog 40 Ky dt) fun Yl=>wV (some (.func (.func 60) #[] #[(e 12),(e 6),(e 15),(e 16),(e 10),D9])) fun bJ=>AD prog AM 59 [QU,Yl,bJ] dt (AQ (fun Kn cQ=>(((True)∧ld prog 40 Ky dt=some Yl)∧(((True)∧ld prog 89 EO dt=some Dc)∧(((True)∧ld prog 88 (e 15) dt=some Ho)∧(((True)∧ld prog 88 (e 15) dt=some CG)∧True))))∧True∧wV (ld prog 88 (e 15) cQ) fun UM=>wV (HV UM) fun OY=>wV (BD prog 97 OY 0) fun Ek=>wV (BD prog 95 Ek 0) fun ED=>wV (ld prog 29 ED cQ) fun DV=>K .ret (Env.of e [(9,(.int .i64 0)),(8,DV),(126,DV),(125,ED),(124,Ek),(123,OY),(122,UM),(121,Kn),(120,bJ),(119,Yl),(118,Ky),(117,DO),(116,Dc),(115,EO),(114,M6),(113,Ho),(112,QU),(111,UL),(110,CG),(22,D9),(109,CY),(108,Bc),(107,EY),(106,Ok),(105,Gw),(104,fU),(103,LJ),(102,M0),(101,DC),(100,Dd),(99,UI),(98,Ss),(97,ZC),(96,X_)]) ds cQ) (fun AA2 ZD=>False))) (fun AD_ qp=>K (.panic AD_) (Env.of e [(108,Bc),(107,EY),(106,Ok),(105,Gw),(104,fU),(103,LJ),(102,M0),(101,DC),(100,Dd),(99,UI),(98,Ss),(97,ZC),(96,X_)]) ds qp))) (fun AAp tJ=>False))) (fun vF Is=>K (.panic vF) (Env.of e [(98,Ss),(97,ZC),(96,X_)]) ds Is))) K
theorem ABx (v0 v1 v2 v3:Value) (K:AB) (W:CW):AJ prog AM none 17 127 (AK prog 17) (Env.args [v0,v1,v2,v3]) [] W K=(CZ (SZ prog 24 v2 W) fun v6 W0=>AD prog AM 47 [v0] W0 (AQ (fun DZ W1=>wV (ext DZ 0) fun Et=>wV (ext DZ 1) fun Dv=>CZ (H2 prog 78 W1) fun v10 W3=>wV (B5 prog 78 v10 Et W3) fun W4=>wV (KU Dv) fun C5=>wI C5 (K .ret (Env.of (Env.args [v0,v1,v2,v3]) [(9,(.int .i64 210)),(8,(.slice none 0 0)),(29,C5),(28,Dv),(11,Dv),(10,v10),(27,Dv),(26,Et),(23,DZ),(25,DZ),(24,v0),(9,(.int .i64 0)),(8,(.slice none 0 0)),(6,v6)]) [] W4) (wV (ld prog 78 v10 W4) fun Dg=>AD prog AM 48 [Dg,v1] W4 (AQ (fun FJ W5=>wV (ext FJ 0) fun EH=>wV (ext FJ 1) fun FL=>CZ (H2 prog 83 W5) fun CV W7=>wV (B5 prog 83 CV EH W7) fun W8=>wV (KU FL) fun F1=>wI F1 (K .ret (Env.of (Env.args [v0,v1,v2,v3]) [(9,(.int .i64 212)),(8,(.slice none 0 0)),(37,F1),(36,FL),(11,FL),(12,CV),(35,FL),(34,EH),(30,FJ),(33,FJ),(32,v1),(31,Dg),(29,C5),(28,Dv),(11,Dv),(10,v10),(27,Dv),(26,Et),(23,DZ),(25,DZ),(24,v0),(9,(.int .i64 0)),(8,(.slice none 0 0)),(6,v6)]) [] W8) (wV (ld prog 24 v6 W8) fun EC=>AD prog AM 49 [v0,EC,v3] W8 (AQ (fun GH W9=>wV (ext GH 0) fun Fq=>wV (ext GH 1) fun Nl=>CZ (H2 prog 78 W9) fun C2 Du=>wV (B5 prog 78 C2 Fq Du) fun Il=>wV (AH prog .neq 30 true Nl (.int .i64 0)) fun EG=>wI EG (K .ret (Env.of (Env.args [v0,v1,v2,v3]) [(9,Nl),(8,(.slice none 0 0)),(47,Nl),(46,EG),(45,Nl),(14,Nl),(13,C2),(44,Nl),(43,Fq),(38,GH),(42,GH),(41,v3),(40,EC),(39,v0),(37,F1),(36,FL),(11,FL),(12,CV),(35,FL),(34,EH),(30,FJ),(33,FJ),(32,v1),(31,Dg),(29,C5),(28,Dv),(11,Dv),(10,v10),(27,Dv),(26,Et),(23,DZ),(25,DZ),(24,v0),(9,(.int .i64 0)),(8,(.slice none 0 0)),(6,v6)]) [] Il) (wV (some (.func (.func 51) #[] #[v10,CV,v6])) fun HL=>AD prog AM 50 [v3,HL] (Il.new (.cells .nil 1 #[.pointer none] 88)) (AQ (fun F_ H5=>wV (ld prog 78 v10 H5) fun GF=>wV (Sh prog 97 [(1,F_),(2,GF)]) fun Hn=>CZ (SZ prog 97 Hn H5) fun FX Nj=>true=true∧wV (B5 prog 88 (.pointer (some ⟨Il.sz,0,none⟩)) FX Nj) fun CQ=>(((True)∧((True)∧((ld prog 78 v10 H5=some GF)∧ld prog 78 v10 (Il.new (.cells .nil 1 #[.pointer none] 88))=some GF)))∧True)∧(((True)∧((H3 (.pointer (some ⟨Il.sz,0,none⟩)) ((Il.new (.cells .nil 1 #[.pointer none] 88)).obj Il.sz) Nj=true)∧((H3 (.pointer (some ⟨Il.sz,0,none⟩)) ((Il.new (.cells .nil 1 #[.pointer none] 88)).obj Il.sz) H5=true)∧H3 (.pointer (some ⟨Il.sz,0,none⟩)) ((Il.new (.cells .nil 1 #[.pointer none] 88)).obj Il.sz) (Il.new (.cells .nil 1 #[.pointer none] 88))=true)))∧True)∧CZ (H2 prog 51 CQ) fun CI MQ=>wV (ld prog 88 (.pointer (some ⟨Il.sz,0,none⟩)) MQ) fun E_=>wV (HV E_) fun IH=>wV (BD prog 97 IH 1) fun D0=>wV (ld prog 89 D0 MQ) fun IU=>wV (HV IU) fun Ju=>wV (BD prog 100 Ju 0) fun Ko=>wV (ld prog 40 Ko MQ) fun GN=>wV (A8 prog 40 GN MQ) fun Gj=>Bj prog AM none 17 127 (.loop (AY prog 17 0)) (Env.of (Env.args [v0,v1,v2,v3]) [(62,(.int .i64 0)),(61,Gj),(60,GN),(59,Ko),(58,Ju),(57,IU),(56,D0),(55,IH),(54,E_),(16,CI),(15,(.pointer (some ⟨Il.sz,0,none⟩))),(53,FX),(52,Hn),(51,GF),(50,F_),(49,HL),(48,v3),(46,EG),(45,Nl),(14,Nl),(13,C2),(44,Nl),(43,Fq),(38,GH),(42,GH),(41,v3),(40,EC),(39,v0),(37,F1),(36,FL),(11,FL),(12,CV),(35,FL),(34,EH),(30,FJ),(33,FJ),(32,v1),(31,Dg),(29,C5),(28,Dv),(11,Dv),(10,v10),(27,Dv),(26,Et),(23,DZ),(25,DZ),(24,v0),(9,(.int .i64 0)),(8,(.slice none 0 0)),(6,v6)]) [] MQ (Av 0 (Yk none K))) (fun qo M4=>False)))) (fun aF Rq=>K (.panic aF) (Env.of (Env.args [v0,v1,v2,v3]) [(41,v3),(40,EC),(39,v0),(37,F1),(36,FL),(11,FL),(12,CV),(35,FL),(34,EH),(30,FJ),(33,FJ),(32,v1),(31,Dg),(29,C5),(28,Dv),(11,Dv),(10,v10),(27,Dv),(26,Et),(23,DZ),(25,DZ),(24,v0),(9,(.int .i64 0)),(8,(.slice none 0 0)),(6,v6)]) [] Rq)))) (fun tK W6=>K (.panic tK) (Env.of (Env.args [v0,v1,v2,v3]) [(32,v1),(31,Dg),(29,C5),(28,Dv),(11,Dv),(10,v10),(27,Dv),(26,Et),(23,DZ),(25,DZ),(24,v0),(9,(.int .i64 0)),(8,(.slice none 0 0)),(6,v6)]) [] W6)))) (fun dw W2=>K (.panic dw) (Env.of (Env.args [v0,v1,v2,v3]) [(24,v0),(9,(.int .i64 0)),(8,(.slice none 0 0)),(6,v6)]) [] W2))):=by kernel_rfl
def K4 (ro:Option Nat) (K:AB):AB:=Ag (fun e ds W=>wV (AH prog .add 3 true (e 62) (.int .i64 1)) fun jZ=>K .normal (Env.of e [(62,jZ),(95,jZ)]) ds W) K
theorem yB (ro:Option Nat) (e:Env) (ds:List Deferred) (K:AB) (W:CW):AJ prog AM ro 17 127 (AY prog 17 0) e ds W K=(wV (AH prog .lss 3 false (e 62) (e 61)) fun MR=>wI MR (wV (Bm prog 40 (e 60) (e 62)) fun Hx=>wV (ld prog 3 Hx W) fun JV=>wV (BD prog 83 (e 12) 1) fun Nm=>wV (ld prog 81 Nm W) fun Ji=>wV (ld prog 24 (e 6) W) fun G8=>wV (AH prog .sub 3 true JV (.int .i64 1)) fun M5=>wV (Bm prog 24 G8 M5) fun JU=>wV (BD prog 56 JU 0) fun Vu=>wV (ld prog 9 Vu W) fun MS=>wV (HW prog 81 Ji MS true W) fun Jk=>wV (ext Jk 0) fun MT=>wV (ext Jk 1) fun JS=>CZ (H2 prog 58 W) fun Di pZ=>wV (B5 prog 58 Di MT pZ) fun SF=>(((True)∧((HW prog 81 Ji MS true pZ=some Jk)∧HW prog 81 Ji MS true W=some Jk))∧(((True)∧((ld prog 9 Vu pZ=some MS)∧ld prog 9 Vu W=some MS))∧(((True)∧((ld prog 24 (e 6) pZ=some G8)∧ld prog 24 (e 6) W=some G8))∧(((True)∧((ld prog 81 Nm pZ=some Ji)∧ld prog 81 Nm W=some Ji))∧True))))∧True∧wI JS ((K4 ro K) .ret (Env.of e [(9,(.int .i64 214)),(8,(.slice none 0 0)),(78,JS),(20,JS),(19,Di),(77,JS),(76,MT),(66,Jk),(75,Jk),(74,MS),(73,Vu),(72,JU),(71,M5),(70,JV),(69,G8),(68,Ji),(67,Nm),(18,JV),(65,JV),(64,Hx),(63,MR)]) ds SF) (wV (ld prog 83 (e 12) SF) fun IG=>wV (ld prog 24 (e 6) SF) fun LB=>wV (AH prog .sub 3 true JV (.int .i64 1)) fun ZE=>wV (Bm prog 24 LB ZE) fun cR=>wV (ld prog 56 cR SF) fun JT=>AD prog AM 53 [IG,JT] SF (AQ (fun PT vG=>wV (vB prog 56 PT 0) fun PU=>(((True)∧ld prog 56 cR SF=some JT)∧(((True)∧ld prog 24 (e 6) SF=some LB)∧(((True)∧ld prog 83 (e 12) SF=some IG)∧True)))∧True∧wV (ld prog 51 (e 16) vG) fun VS=>AD prog AM 54 [VS,PU] vG (AQ (fun PR nU=>wV (KU PR) fun TB=>wI TB (wV (ld prog 51 (e 16) nU) fun Og=>CZ (Vs prog 51 1 [(0,PU)] nU) fun UJ W36=>CZ (app prog [51,51] Og UJ W36) fun lQ xC=>wV (B5 prog 51 (e 16) lQ xC) fun W38=>(K4 ro K) .normal (Env.of e [(94,lQ),(93,UJ),(92,PU),(91,Og),(90,TB),(89,PR),(88,PU),(87,VS),(21,PU),(86,PU),(85,PT),(84,JT),(83,cR),(82,ZE),(81,JV),(80,LB),(79,IG),(78,JS),(20,JS),(19,Di),(77,JS),(76,MT),(66,Jk),(75,Jk),(74,MS),(73,Vu),(72,JU),(71,M5),(70,JV),(69,G8),(68,Ji),(67,Nm),(18,JV),(65,JV),(64,Hx),(63,MR)]) ds W38) ((K4 ro K) .normal (Env.of e [(90,TB),(89,PR),(88,PU),(87,VS),(21,PU),(86,PU),(85,PT),(84,JT),(83,cR),(82,ZE),(81,JV),(80,LB),(79,IG),(78,JS),(20,JS),(19,Di),(77,JS),(76,MT),(66,Jk),(75,Jk),(74,MS),(73,Vu),(72,JU),(71,M5),(70,JV),(69,G8),(68,Ji),(67,Nm),(18,JV),(65,JV),(64,Hx),(63,MR)]) ds nU)) (fun AEA SH=>(K4 ro K) (.panic AEA) (Env.of e [(88,PU),(87,VS),(21,PU),(86,PU),(85,PT),(84,JT),(83,cR),(82,ZE),(81,JV),(80,LB),(79,IG),(78,JS),(20,JS),(19,Di),(77,JS),(76,MT),(66,Jk),(75,Jk),(74,MS),(73,Vu),(72,JU),(71,M5),(70,JV),(69,G8),(68,Ji),(67,Nm),(18,JV),(65,JV),(64,Hx),(63,MR)]) ds SH))) (fun AAr W33=>False)))) (K (.exit 0) (Env.of e [(63,MR)]) ds W)):=by kernel_rfl
theorem jq (Q:Ending→CW→Prop) (e:Env) (W:CW):AI prog Tryz.f17 Q .ret e [] W=Q (.returned (.tuple #[e 8,e 9])) W:=by kernel_rfl
theorem ABy {Q:Ending→CW→Prop} {v0 v1 v2 v3:Value} {W:CW} (h:AJ prog AM none 17 127 (AK prog 17) (Env.args [v0,v1,v2,v3]) [] W (AI prog Tryz.f17 Q)):AD prog AM 17 [v0,v1,v2,v3] W Q:=AX Tryz.func17 (by kernel_rfl) (by kernel_rfl) (by kernel_rfl) (by kernel_rfl) (by kernel_rfl) h
theorem ABz (v0 v1 v2 v3:Value) (K:AB) (W:CW):AJ prog AM none 51 15 (AK prog 51) (Env.args [v0,v1,v2,v3]) [] W K=(wV (ld prog 78 v1 W) fun v6=>wV (ld prog 83 v2 W) fun v7=>wV (ld prog 24 v3 W) fun v8=>wV (AH prog .sub 3 true v0 (.int .i64 1)) fun v10=>wV (Bm prog 24 v8 v10) fun v11=>wV (ld prog 56 v11 W) fun CV=>AD prog AM 53 [v7,CV] W (AQ (fun C2 W0=>AD prog AM 52 [v6,C2] W0 (AQ (fun Bu W2=>(((True)∧((True)∧ld prog 56 v11 W=some CV))∧(((True)∧((True)∧ld prog 24 v3 W=some v8))∧(((True)∧((True)∧ld prog 83 v2 W=some v7))∧(((True)∧((ld prog 78 v1 W0=some v6)∧ld prog 78 v1 W=some v6))∧True))))∧True∧K .ret (Env.of (Env.args [v0,v1,v2,v3]) [(5,Bu),(14,Bu),(13,C2),(12,CV),(11,v11),(10,v10),(9,v0),(8,v8),(7,v7),(6,v6),(5,(.slice none 0 0))]) [] W2) (fun PS W3=>False))) (fun Jh W1=>False))):=by kernel_rfl
theorem jr (Q:Ending→CW→Prop) (e:Env) (W:CW):AI prog Tryz.f51 Q .ret e [] W=Q (.returned (e 5)) W:=by kernel_rfl
theorem AB0 {Q:Ending→CW→Prop} {v0 v1 v2 v3:Value} {W:CW} (h:AJ prog AM none 51 15 (AK prog 51) (Env.args [v0,v1,v2,v3]) [] W (AI prog Tryz.f51 Q)):AD prog AM 51 [v0,v1,v2,v3] W Q:=AX Tryz.func51 (by kernel_rfl) (by kernel_rfl) (by kernel_rfl) (by kernel_rfl) (by kernel_rfl) h
def nu (ro:Option Nat) (K:AB):AB:=Ag (fun e ds W=>wV (ld prog 56 (e 7) W) fun GH=>wV (B5 prog 56 (e 4) GH W) fun W8=>K .ret (Env.of e [(42,GH)]) ds W8) K
theorem AB1 (v0 v1:Value) (K:AB) (W:CW):AJ prog AM none 53 43 (AK prog 53) (Env.args [v0,v1]) [] W K=(CZ (SZ prog 83 v0 W) fun v2 W0=>CZ (SZ prog 56 v1 W0) fun v3 W1=>CZ (H2 prog 56 W1) fun v4 W2=>wV (BD prog 83 v2 0) fun v11=>wV (ld prog 81 v11 W2) fun CV=>wV (BD prog 56 v3 0) fun C2=>wV (ld prog 9 C2 W2) fun Bu=>wV (HW prog 81 CV Bu true W2) fun Bh=>wV (ext Bh 0) fun CI=>wV (ext Bh 1) fun CH=>CZ (H2 prog 58 W2) fun v5 W3=>wV (B5 prog 58 v5 CI W3) fun W4=>wV (KU CH) fun Di=>wI Di (wV (ld prog 56 v3 W4) fun v20=>wV (B5 prog 56 v4 v20 W4) fun W5=>K .ret (Env.of (Env.args [v0,v1]) [(20,v20),(19,Di),(18,CH),(6,CH),(5,v5),(17,CH),(16,CI),(10,Bh),(15,Bh),(14,Bu),(13,C2),(12,CV),(11,v11),(4,v4),(3,v3),(2,v2)]) [] W5) (wV (BD prog 58 v5 1) fun DQ=>wV (ld prog 9 DQ W4) fun D9=>wV (Sh prog 56 [(0,D9)]) fun DP=>CZ (H2 prog 56 W4) fun v7 W6=>wV (B5 prog 56 v7 DP W6) fun W7=>wV (BD prog 58 v5 2) fun DI=>wV (ld prog 40 DI W7) fun DZ=>wV (A8 prog 40 DZ W7) fun Et=>Bj prog AM none 53 43 (.loop (AY prog 53 0)) (Env.of (Env.args [v0,v1]) [(27,(.int .i64 0)),(26,Et),(25,DZ),(24,DI),(7,v7),(23,DP),(22,D9),(21,DQ),(19,Di),(18,CH),(6,CH),(5,v5),(17,CH),(16,CI),(10,Bh),(15,Bh),(14,Bu),(13,C2),(12,CV),(11,v11),(4,v4),(3,v3),(2,v2)]) [] W7 (Av 0 (nu none K)))):=by kernel_rfl
def iE (ro:Option Nat) (K:AB):AB:=Ag (fun e ds W=>wV (AH prog .add 3 true (e 27) (.int .i64 1)) fun Df=>K .normal (Env.of e [(27,Df),(41,Df)]) ds W) K
theorem yC (ro:Option Nat) (e:Env) (ds:List Deferred) (K:AB) (W:CW):AJ prog AM ro 53 43 (AY prog 53 0) e ds W K=(wV (AH prog .lss 3 false (e 27) (e 26)) fun Dx=>wI Dx (wV (Bm prog 40 (e 25) (e 27)) fun C5=>wV (ld prog 3 C5 W) fun v30=>wV (BD prog 56 (e 7) 1) fun Dg=>wV (ld prog 40 Dg W) fun DY=>wV (BD prog 56 (e 3) 1) fun FJ=>wV (ld prog 40 FJ W) fun EH=>wV (Bm prog 40 EH v30) fun G9=>wV (ld prog 3 G9 W) fun F1=>CZ (Vs prog 40 1 [(0,F1)] W) fun H6 Du=>CZ (app prog [40,40] DY H6 Du) fun H7 Il=>wV (BD prog 56 (e 7) 1) fun EC=>wV (B5 prog 40 EC H7 Il) fun H5=>(((True)∧((True)∧((True)∧ld prog 3 G9 W=some F1)))∧(((True)∧((True)∧((True)∧ld prog 40 FJ W=some EH)))∧(((True)∧((True)∧((ld prog 40 Dg Du=some DY)∧ld prog 40 Dg W=some DY)))∧True)))∧True∧(iE ro K) .normal (Env.of e [(40,EC),(39,H7),(38,H6),(37,F1),(36,G9),(35,v30),(34,EH),(33,FJ),(32,DY),(31,Dg),(9,v30),(30,v30),(29,C5),(28,Dx)]) ds H5) (K (.exit 0) (Env.of e [(28,Dx)]) ds W)):=by kernel_rfl
theorem AB2 {Q:Ending→CW→Prop} {v0 v1:Value} {W:CW} (h:AJ prog AM none 53 43 (AK prog 53) (Env.args [v0,v1]) [] W (AI prog Tryz.f53 Q)):AD prog AM 53 [v0,v1] W Q:=AX Tryz.func53 (by kernel_rfl) (by kernel_rfl) (by kernel_rfl) (by kernel_rfl) (by kernel_rfl) h
theorem AB3 (v0 v1:Value) (K:AB) (W:CW):AJ prog AM none 54 9 (AK prog 54) (Env.args [v0,v1]) [] W K=(AD prog AM 61 [v0,v1] W (AQ (fun v7 W0=>wV (AH prog .geq 3 true v7 (.int .i64 0)) fun v8=>K .ret (Env.of (Env.args [v0,v1]) [(4,v8),(8,v8),(7,v7),(6,v1),(5,v0),(4,(.bool false))]) [] W0) (fun Jh W1=>K (.panic Jh) (Env.of (Env.args [v0,v1]) [(6,v1),(5,v0),(4,(.bool false))]) [] W1))):=by kernel_rfl
theorem js (Q:Ending→CW→Prop) (e:Env) (W:CW):AI prog Tryz.f54 Q .ret e [] W=Q (.returned (e 4)) W:=by kernel_rfl
theorem AB4 {Q:Ending→CW→Prop} {v0 v1:Value} {W:CW} (h:AJ prog AM none 54 9 (AK prog 54) (Env.args [v0,v1]) [] W (AI prog Tryz.f54 Q)):AD prog AM 54 [v0,v1] W Q:=AX Tryz.func54 (by kernel_rfl) (by kernel_rfl) (by kernel_rfl) (by kernel_rfl) (by kernel_rfl) h
def ny (ro:Option Nat) (K:AB):AB:=Ag (fun e ds W=>wV (HV (e 0)) fun DP=>wV (BD prog 95 DP 0) fun DI=>wV (ld prog 29 DI W) fun DZ=>wV (cO prog 3 5 (e 1)) fun Dv=>CZ (Vs prog 29 1 [(0,Dv)] W) fun Dx W0=>CZ (app prog [29,29] DZ Dx W0) fun C5 W1=>wV (HV (e 0)) fun v30=>wV (BD prog 95 v30 0) fun Dg=>wV (B5 prog 29 Dg C5 W1) fun W2=>K .normal (Env.of e [(31,Dg),(30,v30),(29,C5),(28,Dx),(27,Dv),(26,(e 1)),(25,DZ),(24,DI),(23,DP),(22,(e 0)),(21,(e 0))]) ds W2) K
theorem AB5 (v0 v1:Value) (K:AB) (W:CW):AJ prog AM none 55 32 (AK prog 55) (Env.args [v0,v1]) [] W K=(Bj prog AM none 55 32 (.loop (AY prog 55 0)) (Env.args [v0,v1]) [] W (Av 0 (ny none K))):=by kernel_rfl
def nz (ro:Option Nat) (K:AB):AB:=Ag (fun e ds W=>wV (AH prog .shr 3 true (e 1) (.int .u64 7)) fun v7=>K .normal (Env.of e [(1,v7),(7,v7),(6,(e 1))]) ds W) K
theorem yD (ro:Option Nat) (e:Env) (ds:List Deferred) (K:AB) (W:CW):AJ prog AM ro 55 32 (AY prog 55 0) e ds W K=(wV (AH prog .geq 3 true (e 1) (.int .i64 128)) fun v5=>wI v5 (wV (HV (e 0)) fun v10=>wV (BD prog 95 v10 0) fun v11=>wV (ld prog 29 v11 W) fun CV=>wV (AH prog .rem 3 true (e 1) (.int .i64 128)) fun Bu=>wV (AH prog .add 3 true Bu (.int .i64 128)) fun Bh=>wV (cO prog 3 5 Bh) fun CI=>CZ (Vs prog 29 1 [(0,CI)] W) fun CH W5=>CZ (app prog [29,29] CV CH W5) fun DE W6=>wV (HV (e 0)) fun Di=>wV (BD prog 95 Di 0) fun v20=>wV (B5 prog 29 v20 DE W6) fun W7=>(nz ro K) .normal (Env.of e [(20,v20),(19,Di),(18,DE),(17,CH),(16,CI),(15,Bh),(14,Bu),(13,(e 1)),(12,CV),(11,v11),(10,v10),(9,(e 0)),(8,(e 0)),(5,v5),(4,(e 1))]) ds W7) (K (.exit 0) (Env.of e [(5,v5),(4,(e 1))]) ds W)):=by kernel_rfl
theorem AB6 {Q:Ending→CW→Prop} {v0 v1:Value} {W:CW} (h:AJ prog AM none 55 32 (AK prog 55) (Env.args [v0,v1]) [] W (AI prog Tryz.f55 Q)):AD prog AM 55 [v0,v1] W Q:=AX Tryz.func55 (by kernel_rfl) (by kernel_rfl) (by kernel_rfl) (by kernel_rfl) (by kernel_rfl) h
theorem AB7 (v0 v1 v2:Value) (K:AB) (W:CW):AJ prog AM none 56 22 (AK prog 56) (Env.args [v0,v1,v2]) [] W K=(wV (A8 prog 51 v1 W) fun v10=>AD prog AM 55 [v0,v10] W (AQ (fun v11 W0=>wV (A8 prog 51 v1 W0) fun C2=>Bj prog AM none 56 22 (.loop (AY prog 56 0)) (Env.of (Env.args [v0,v1,v2]) [(14,(.int .i64 0)),(13,C2),(12,v1),(11,v11),(10,v10),(9,v1),(8,v0)]) [] W0 (Av 0 K)) (fun Jh W1=>K (.panic Jh) (Env.of (Env.args [v0,v1,v2]) [(10,v10),(9,v1),(8,v0)]) [] W1))):=by kernel_rfl
def fV (ro:Option Nat) (K:AB):AB:=Ag (fun e ds W=>wV (AH prog .add 3 true (e 14) (.int .i64 1)) fun DQ=>K .normal (Env.of e [(14,DQ),(21,DQ)]) ds W) K
theorem yE (ro:Option Nat) (e:Env) (ds:List Deferred) (K:AB) (W:CW):AJ prog AM ro 56 22 (AY prog 56 0) e ds W K=(wV (AH prog .lss 3 false (e 14) (e 13)) fun Bh=>wI Bh (wV (Bm prog 51 (e 12) (e 14)) fun CI=>wV (ld prog 9 CI W) fun CH=>Ej prog AM (e 2) [CH] W (fun v20 W3=>(fV ro K) .normal (Env.of e [(20,v20),(19,CH),(18,(e 2)),(7,CH),(17,CH),(16,CI),(15,Bh)]) ds W3) (fun zr W4=>(fV ro K) (.panic zr) (Env.of e [(19,CH),(18,(e 2)),(7,CH),(17,CH),(16,CI),(15,Bh)]) ds W4)) (K (.exit 0) (Env.of e [(15,Bh)]) ds W)):=by kernel_rfl
theorem AB8 {Q:Ending→CW→Prop} {v0 v1 v2:Value} {W:CW} (h:AJ prog AM none 56 22 (AK prog 56) (Env.args [v0,v1,v2]) [] W (AI prog Tryz.f56 Q)):AD prog AM 56 [v0,v1,v2] W Q:=AX Tryz.func56 (by kernel_rfl) (by kernel_rfl) (by kernel_rfl) (by kernel_rfl) (by kernel_rfl) h
theorem AB9 (v0 v1:Value) (K:AB) (W:CW):AJ prog AM none 57 17 (AK prog 57) (Env.args [v0,v1]) [] W K=(wV (A8 prog 9 v1 W) fun v6=>AD prog AM 55 [v0,v6] W (AQ (fun v7 W0=>wV (HV v0) fun v10=>wV (BD prog 95 v10 0) fun v11=>wV (ld prog 29 v11 W0) fun CV=>CZ (app prog [29,9] CV v1 W0) fun Bu W2=>wV (HV v0) fun Bh=>wV (BD prog 95 Bh 0) fun CI=>wV (B5 prog 29 CI Bu W2) fun W3=>K .normal (Env.of (Env.args [v0,v1]) [(16,CI),(15,Bh),(14,Bu),(13,v1),(12,CV),(11,v11),(10,v10),(9,v0),(8,v0),(7,v7),(6,v6),(5,v1),(4,v0)]) [] W3) (fun Jh W1=>K (.panic Jh) (Env.of (Env.args [v0,v1]) [(6,v6),(5,v1),(4,v0)]) [] W1))):=by kernel_rfl
theorem AB' {Q:Ending→CW→Prop} {v0 v1:Value} {W:CW} (h:AJ prog AM none 57 17 (AK prog 57) (Env.args [v0,v1]) [] W (AI prog Tryz.f57 Q)):AD prog AM 57 [v0,v1] W Q:=AX Tryz.func57 (by kernel_rfl) (by kernel_rfl) (by kernel_rfl) (by kernel_rfl) (by kernel_rfl) h
theorem AB_ (K:AB) (W:CW):AJ prog AM none 58 2 (AK prog 58) (Env.args []) [] W K=(CZ (H2 prog 108 W) fun v0 W0=>wV (Sh prog 108 [(1,(.func (.func 106) #[] #[])),(2,(.func (.func 107) #[] #[]))]) fun v1=>wV (B5 prog 108 v0 v1 W0) fun W1=>K .ret (Env.of (Env.args []) [(1,v1),(0,v0)]) [] W1):=by kernel_rfl
theorem ACA {Q:Ending→CW→Prop} {W:CW} (h:AJ prog AM none 58 2 (AK prog 58) (Env.args []) [] W (AI prog Tryz.f58 Q)):AD prog AM 58 [] W Q:=AX Tryz.func58 (by kernel_rfl) (by kernel_rfl) (by kernel_rfl) (by kernel_rfl) (by kernel_rfl) h
theorem ACB (v0 v1 v2:Value) (K:AB) (W:CW):AJ prog AM none 59 22 (AK prog 59) (Env.args [v0,v1,v2]) [] W K=(wV (A8 prog 40 v1 W) fun v10=>AD prog AM 55 [v0,v10] W (AQ (fun v11 W0=>wV (A8 prog 40 v1 W0) fun C2=>Bj prog AM none 59 22 (.loop (AY prog 59 0)) (Env.of (Env.args [v0,v1,v2]) [(14,(.int .i64 0)),(13,C2),(12,v1),(11,v11),(10,v10),(9,v1),(8,v0)]) [] W0 (Av 0 K)) (fun Jh W1=>K (.panic Jh) (Env.of (Env.args [v0,v1,v2]) [(10,v10),(9,v1),(8,v0)]) [] W1))):=by kernel_rfl
def fW (ro:Option Nat) (K:AB):AB:=Ag (fun e ds W=>wV (AH prog .add 3 true (e 14) (.int .i64 1)) fun DQ=>K .normal (Env.of e [(14,DQ),(21,DQ)]) ds W) K
theorem yF (ro:Option Nat) (e:Env) (ds:List Deferred) (K:AB) (W:CW):AJ prog AM ro 59 22 (AY prog 59 0) e ds W K=(wV (AH prog .lss 3 false (e 14) (e 13)) fun Bh=>wI Bh (wV (Bm prog 40 (e 12) (e 14)) fun CI=>wV (ld prog 3 CI W) fun CH=>Ej prog AM (e 2) [CH] W (fun v20 W3=>(fW ro K) .normal (Env.of e [(20,v20),(19,CH),(18,(e 2)),(7,CH),(17,CH),(16,CI),(15,Bh)]) ds W3) (fun zr W4=>(fW ro K) (.panic zr) (Env.of e [(19,CH),(18,(e 2)),(7,CH),(17,CH),(16,CI),(15,Bh)]) ds W4)) (K (.exit 0) (Env.of e [(15,Bh)]) ds W)):=by kernel_rfl
theorem ACC {Q:Ending→CW→Prop} {v0 v1 v2:Value} {W:CW} (h:AJ prog AM none 59 22 (AK prog 59) (Env.args [v0,v1,v2]) [] W (AI prog Tryz.f59 Q)):AD prog AM 59 [v0,v1,v2] W Q:=AX Tryz.func59 (by kernel_rfl) (by kernel_rfl) (by kernel_rfl) (by kernel_rfl) (by kernel_rfl) h
def Ym (ro:Option Nat) (K:AB):AB:=Ag (fun e ds W=>wV (ld prog 78 (e 5) W) fun EC=>wV (ld prog 56 (e 8) W) fun Df=>AD prog AM 62 [EC,Df] W (AQ (fun GH W7=>Bj prog AM ro 60 55 (.rangeFunc (.tmp 42) #[43,44] (AU prog 60 0) (AV prog 60 0)) (Env.of e [(42,GH),(41,Df),(40,EC)]) ds W7 (Av 0 K)) (fun ch8 W8=>K (.panic ch8) (Env.of e [(41,Df),(40,EC)]) ds W8))) K
theorem ACD (v0 v1 v2 v3 v4 v5 v6:Value) (K:AB) (W:CW):AJ prog AM none 60 55 (AK prog 60) (Env.args [v0,v1,v2,v3,v4,v5,v6]) [] W K=(wV (ld prog 83 v1 (W.new (.cells .nil 2 #[.string ⟨#[]⟩,.slice none 0 0] 56))) fun v11=>wV (ld prog 24 v2 (W.new (.cells .nil 2 #[.string ⟨#[]⟩,.slice none 0 0] 56))) fun CV=>wV (AH prog .sub 3 true v0 (.int .i64 1)) fun Bu=>wV (Bm prog 24 CV Bu) fun Bh=>wV (ld prog 56 Bh (W.new (.cells .nil 2 #[.string ⟨#[]⟩,.slice none 0 0] 56))) fun CI=>AD prog AM 53 [v11,CI] (W.new (.cells .nil 2 #[.string ⟨#[]⟩,.slice none 0 0] 56)) (AQ (fun CH W0=>true=true∧wV (B5 prog 56 (.pointer (some ⟨W.sz,0,none⟩)) CH W0) fun W2=>(((True)∧((True)∧ld prog 56 Bh (W.new (.cells .nil 2 #[.string ⟨#[]⟩,.slice none 0 0] 56))=some CI))∧(((True)∧((True)∧ld prog 24 v2 (W.new (.cells .nil 2 #[.string ⟨#[]⟩,.slice none 0 0] 56))=some CV))∧(((True)∧((True)∧ld prog 83 v1 (W.new (.cells .nil 2 #[.string ⟨#[]⟩,.slice none 0 0] 56))=some v11))∧True)))∧(((True)∧((H3 (.pointer (some ⟨W.sz,0,none⟩)) ((W.new (.cells .nil 2 #[.string ⟨#[]⟩,.slice none 0 0] 56)).obj W.sz) W0=true)∧H3 (.pointer (some ⟨W.sz,0,none⟩)) ((W.new (.cells .nil 2 #[.string ⟨#[]⟩,.slice none 0 0] 56)).obj W.sz) (W.new (.cells .nil 2 #[.string ⟨#[]⟩,.slice none 0 0] 56))=true))∧True)∧wV (ld prog 88 v3 W2) fun DE=>wV (HV DE) fun Di=>wV (BD prog 97 Di 0) fun v20=>wV (ld prog 51 v4 W2) fun DQ=>wV (BD prog 56 (.pointer (some ⟨W.sz,0,none⟩)) 0) fun D9=>wV (ld prog 9 D9 W2) fun DP=>AD prog AM 61 [DQ,DP] W2 (AQ (fun DI W3=>AD prog AM 55 [v20,DI] W3 (AQ (fun DZ W5=>(((True)∧((True)∧ld prog 9 D9 W2=some DP))∧(((True)∧((True)∧ld prog 51 v4 W2=some DQ))∧(((True)∧((ld prog 88 v3 W3=some DE)∧ld prog 88 v3 W2=some DE))∧True)))∧True∧wV (BD prog 78 v5 0) fun Et=>wV (ld prog 75 Et W5) fun Dv=>wV (BD prog 56 (.pointer (some ⟨W.sz,0,none⟩)) 0) fun Dx=>wV (ld prog 9 Dx W5) fun C5=>wV (HW prog 75 Dv C5 false W5) fun v30=>wV (vB prog 48 v30 3) fun Dg=>wV (AH prog .neq 5 true Dg (.int .u8 0)) fun DY=>wI DY (wV (ld prog 88 v3 W5) fun FJ=>wV (HV FJ) fun EH=>wV (BD prog 97 EH 0) fun FL=>wV (BD prog 56 (.pointer (some ⟨W.sz,0,none⟩)) 1) fun G9=>wV (ld prog 40 G9 W5) fun F1=>wV (A8 prog 40 F1 W5) fun H6=>AD prog AM 55 [FL,H6] W5 (AQ (fun H7 Rq=>(((True)∧A8 prog 40 F1 W5=some H6)∧(((True)∧ld prog 40 G9 W5=some F1)∧(((True)∧ld prog 88 v3 W5=some FJ)∧True)))∧True∧(Ym none K) .normal (Env.of (Env.args [v0,v1,v2,v3,v4,v5,v6]) [(39,H7),(38,H6),(37,F1),(36,G9),(35,FL),(34,EH),(33,FJ),(32,DY),(31,Dg),(30,v30),(29,C5),(28,Dx),(27,Dv),(26,Et),(25,DZ),(24,DI),(23,DP),(22,D9),(21,DQ),(20,v20),(19,Di),(18,DE),(8,(.pointer (some ⟨W.sz,0,none⟩))),(17,CH),(16,CI),(15,Bh),(14,Bu),(13,v0),(12,CV),(11,v11)]) [] Rq) (fun qh Du=>False))) ((Ym none K) .normal (Env.of (Env.args [v0,v1,v2,v3,v4,v5,v6]) [(32,DY),(31,Dg),(30,v30),(29,C5),(28,Dx),(27,Dv),(26,Et),(25,DZ),(24,DI),(23,DP),(22,D9),(21,DQ),(20,v20),(19,Di),(18,DE),(8,(.pointer (some ⟨W.sz,0,none⟩))),(17,CH),(16,CI),(15,Bh),(14,Bu),(13,v0),(12,CV),(11,v11)]) [] W5)) (fun tK W6=>False))) (fun zr W4=>False))) (fun Jh W1=>False))):=by kernel_rfl
theorem yG (ro:Option Nat) (e:Env) (ds:List Deferred) (K:AB) (W:CW):AJ prog AM ro 60 55 (AU prog 60 0) e ds W K=(K .normal (Env.of e [(10,(e 44)),(9,(e 43))]) ds W):=by kernel_rfl
theorem yH (ro:Option Nat) (e:Env) (ds:List Deferred) (K:AB) (W:CW):AJ prog AM ro 60 55 (AV prog 60 0) e ds W K=(wV (Bm prog 108 (e 6) (e 10)) fun EG=>wV (ld prog 107 EG W) fun Fk=>wV (ld prog 88 (e 3) W) fun EZ=>wV (BD prog 56 (e 8) 1) fun HL=>wV (ld prog 40 HL W) fun F_=>wV (Bm prog 40 F_ (e 9)) fun Hn=>wV (ld prog 3 Hn W) fun FX=>Ej prog AM Fk [EZ,FX] W (fun E_ Il=>(((True)∧ld prog 3 Hn W=some FX)∧(((True)∧ld prog 40 HL W=some F_)∧(((True)∧ld prog 88 (e 3) W=some EZ)∧(((True)∧ld prog 107 EG W=some Fk)∧True))))∧True∧K .normal (Env.of e [(54,E_),(53,FX),(52,Hn),(51,(e 9)),(50,F_),(49,HL),(48,EZ),(47,Fk),(46,EG),(45,(e 10))]) ds Il) (fun AAo H5=>False)):=by kernel_rfl
theorem ACE {Q:Ending→CW→Prop} {v0 v1 v2 v3 v4 v5 v6:Value} {W:CW} (h:AJ prog AM none 60 55 (AK prog 60) (Env.args [v0,v1,v2,v3,v4,v5,v6]) [] W (AI prog Tryz.f60 Q)):AD prog AM 60 [v0,v1,v2,v3,v4,v5,v6] W Q:=AX Tryz.func60 (by kernel_rfl) (by kernel_rfl) (by kernel_rfl) (by kernel_rfl) (by kernel_rfl) h
def fX (ro:Option Nat) (K:AB):AB:=Ag (fun e ds W=>K .ret (Env.of e [(4,(.int .i64 (-1)))]) ds W) K
theorem ACF (v0 v1:Value) (K:AB) (W:CW):AJ prog AM none 61 19 (AK prog 61) (Env.args [v0,v1]) [] W K=(wV (A8 prog 51 v0 W) fun v7=>Bj prog AM none 61 19 (.loop (AY prog 61 0)) (Env.of (Env.args [v0,v1]) [(8,(.int .i64 0)),(7,v7),(6,v0),(4,(.int .i64 0))]) [] W (Av 0 (fX none K))):=by kernel_rfl
def Yn (ro:Option Nat) (K:AB):AB:=Ag (fun e ds W=>wV (AH prog .add 3 true (e 8) (.int .i64 1)) fun DE=>K .normal (Env.of e [(8,DE),(18,DE)]) ds W) K
theorem yI (ro:Option Nat) (e:Env) (ds:List Deferred) (K:AB) (W:CW):AJ prog AM ro 61 19 (AY prog 61 0) e ds W K=(wV (AH prog .lss 3 false (e 8) (e 7)) fun v9=>wI v9 (wV (Bm prog 51 (e 0) (e 8)) fun Bu=>wV (ld prog 9 Bu W) fun Bh=>wV (AH prog .eql 9 false (e 1) Bh) fun CI=>wI CI ((Yn ro K) .ret (Env.of e [(4,(e 8)),(17,(e 8)),(16,CI),(15,Bh),(14,Bu),(13,(e 8)),(12,(e 0)),(11,(e 1)),(5,(e 8)),(10,(e 8)),(9,v9)]) ds W) ((Yn ro K) .normal (Env.of e [(16,CI),(15,Bh),(14,Bu),(13,(e 8)),(12,(e 0)),(11,(e 1)),(5,(e 8)),(10,(e 8)),(9,v9)]) ds W)) (K (.exit 0) (Env.of e [(9,v9)]) ds W)):=by kernel_rfl
theorem XD (Q:Ending→CW→Prop) (e:Env) (W:CW):AI prog Tryz.f61 Q .ret e [] W=Q (.returned (e 4)) W:=by kernel_rfl
theorem ACG {Q:Ending→CW→Prop} {v0 v1:Value} {W:CW} (h:AJ prog AM none 61 19 (AK prog 61) (Env.args [v0,v1]) [] W (AI prog Tryz.f61 Q)):AD prog AM 61 [v0,v1] W Q:=AX Tryz.func61 (by kernel_rfl) (by kernel_rfl) (by kernel_rfl) (by kernel_rfl) (by kernel_rfl) h
theorem yJ (v0 v1:Value) (K:AB) (W:CW):AJ prog AM none 106 19 (AK prog 106) (Env.args [v0,v1]) [] W K=(wV (AH prog .lss 3 true v1 (.int .i64 0)) fun v5=>wI v5 (wV (HV v0) fun v7=>wV (BD prog 97 v7 0) fun v8=>wV (AH prog .mul 3 true (.int .i64 (-2)) v1) fun v10=>wV (AH prog .sub 3 true v10 (.int .i64 1)) fun v11=>AD prog AM 55 [v8,v11] W (AQ (fun CV W0=>K .normal (Env.of (Env.args [v0,v1]) [(12,CV),(11,v11),(10,v10),(9,v1),(8,v8),(7,v7),(6,v0),(5,v5),(4,v1)]) [] W0) (fun Jh W1=>K (.panic Jh) (Env.of (Env.args [v0,v1]) [(11,v11),(10,v10),(9,v1),(8,v8),(7,v7),(6,v0),(5,v5),(4,v1)]) [] W1))) (wV (HV v0) fun Bu=>wV (BD prog 97 Bu 0) fun Bh=>wV (AH prog .mul 3 true (.int .i64 2) v1) fun CH=>AD prog AM 55 [Bh,CH] W (AQ (fun DE W2=>K .normal (Env.of (Env.args [v0,v1]) [(18,DE),(17,CH),(16,v1),(15,Bh),(14,Bu),(13,v0),(5,v5),(4,v1)]) [] W2) (fun PS W3=>K (.panic PS) (Env.of (Env.args [v0,v1]) [(17,CH),(16,v1),(15,Bh),(14,Bu),(13,v0),(5,v5),(4,v1)]) [] W3)))):=by kernel_rfl
theorem yK {Q:Ending→CW→Prop} {v0 v1:Value} {W:CW} (h:AJ prog AM none 106 19 (AK prog 106) (Env.args [v0,v1]) [] W (AI prog Tryz.f106 Q)):AD prog AM 106 [v0,v1] W Q:=AX Tryz.func106 (by kernel_rfl) (by kernel_rfl) (by kernel_rfl) (by kernel_rfl) (by kernel_rfl) h
theorem yL (v0 v1:Value) (K:AB) (W:CW):AJ prog AM none 107 17 (AK prog 107) (Env.args [v0,v1]) [] W K=(wV (HV v0) fun v5=>wV (BD prog 97 v5 0) fun v6=>wV (HV v0) fun v8=>wV (BD prog 97 v8 1) fun v9=>wV (ld prog 89 v9 W) fun v10=>wV (HV v10) fun v11=>wV (BD prog 100 v11 1) fun CV=>wV (ld prog 98 CV W) fun C2=>wV (HW prog 98 C2 v1 false W) fun Bh=>AD prog AM 55 [v6,Bh] W (AQ (fun CI W0=>(((True)∧HW prog 98 C2 v1 false W=some Bh)∧(((True)∧ld prog 98 CV W=some C2)∧(((True)∧ld prog 89 v9 W=some v10)∧True)))∧True∧K .normal (Env.of (Env.args [v0,v1]) [(16,CI),(15,Bh),(14,v1),(13,C2),(12,CV),(11,v11),(10,v10),(9,v9),(8,v8),(7,v0),(6,v6),(5,v5),(4,v0)]) [] W0) (fun Jh W1=>False))):=by kernel_rfl
theorem yM {Q:Ending→CW→Prop} {v0 v1:Value} {W:CW} (h:AJ prog AM none 107 17 (AK prog 107) (Env.args [v0,v1]) [] W (AI prog Tryz.f107 Q)):AD prog AM 107 [v0,v1] W Q:=AX Tryz.func107 (by kernel_rfl) (by kernel_rfl) (by kernel_rfl) (by kernel_rfl) (by kernel_rfl) h
end Go.Ce
namespace Go.Ce
open Go Go.Proofs Go.Proofs.Tryz
def n8 (n:Int):Value:=.int .i64 n
theorem iF (a b:Int):M' (.int .i64) (n8 a) (n8 b)=some (decide (a=b)):=by
 show (if IntKind.i64=IntKind.i64 then some (a == b) else none)=_; rw [if_pos rfl]; rfl
theorem u98:prog.underlying 98=some (.map 3 3):=by kernel_rfl
theorem u3:prog.underlying 3=some (.int .i64):=by kernel_rfl
theorem a98:agg? prog 98=some false:=by kernel_rfl
theorem HR (a:Addr):BD prog 100 (.pointer (some a)) 0=some (.pointer (some ⟨a.block,a.off,none⟩)):=by kernel_rfl
theorem L8 (a:Addr):BD prog 100 (.pointer (some a)) 1=some (.pointer (some ⟨a.block,a.off+1,none⟩)):=by kernel_rfl
theorem Bz (a:Addr):HV (.pointer (some a))=some (.pointer (some a)):=rfl
def cX (W:CW) (r:Nat) (o:List Int):Prop:=∃ m:List (Int × Value),FR n8 W r m∧∀ n,Kr m n=if n ∈ o then some (.int .i64 (placeOf o n)) else none
theorem cX.lt {W:CW} (ht:Aq W) {r:Nat} {o:List Int} (h:cX W r o):r<W.sz:=by
 obtain ⟨m,h1,_⟩:=h; exact h1.lt ht
theorem cX.congr {W W':CW} {r:Nat} {o:List Int} (h:cX W r o) (ho:W'.obj r=W.obj r):cX W' r o:=by
 obtain ⟨m,h1,h2⟩:=h; exact ⟨m,h1.congr ho,h2⟩
theorem cX.look {W:CW} {r:Nat} {o:List Int} (h:cX W r o) (n:Int):HW prog 98 (.map (some r)) (.int .i64 n) false W=some (.int .i64 (placeOf o n)):=by
 obtain ⟨m,h1,h2⟩:=h; have:=Ks u98 u3 rfl z3 iF h1 n false; rw [h2] at this
 by_cases hm:n ∈ o
 ·rw [if_pos hm] at this; exact this
 ·rw [if_neg hm] at this; rw [GV hm]; exact this
theorem cX.put {W:CW} {r:Nat} {o:List Int} {n:Int} (h:cX W r o) (hn:n ∉ o) {K:CW→Prop} (hK:∀ W1,Da r W W1→cX W1 r (o++[n])→K W1):wV (cP prog 98 (.map (some r)) (.int .i64 n) (.int .i64 ((o.length+1:Nat):Int)) W) K:=by
 obtain ⟨m,h1,h2⟩:=h; refine aQ (enc:=n8) (s:=n) u98 u3 rfl iF h1 fun W1 hu hm=>hK W1 hu ⟨_,hm,fun u=>?_⟩; rw [II,h2,Rx hn]
 by_cases e:u=n
 ·rw [if_pos e,if_pos e,if_pos (by rw [e]; simp)]; rfl
 ·rw [if_neg e,if_neg e]
  by_cases hu:u ∈ o
  ·rw [if_pos hu,if_pos (List.mem_append_left _ hu)]
  ·rw [if_neg hu,if_neg (by simp [hu,e])]
theorem cX.ne {W:CW} {r b:Nat} {el:TypeId} {vs:List Value} {o:List Int} (h:cX W r o) (hB:BF W b el vs):b≠r:=by
 rintro rfl; obtain ⟨m,⟨es,EE,h1,_⟩,_⟩:=h; obtain ⟨c,n,z,h2,_⟩:=hB; rw [h1] at h2; cases h2
structure LN (W:CW) (bw rp:Nat) (vo:Value) (o:List Int):Prop where
 w:BF W bw 100 [vo,.map (some rp)]
 own:C8 W 3 1 vo (B8 o)
 p:cX W rp o
def WkS (bw rp:Nat) (vo:Value) (j:Nat):Prop:=j=bw∨j=rp∨BE vo j
def bK (bw rp:Nat) (vo:Value) (o:List Int) (W:CW):Ending→CW→Prop:=fun e W'=>(∃ v,e=.returned v)∧DF (WkS bw rp vo) W W'∧Aq W'∧∃ yN,LN W' bw rp yN o∧∀ j,BE yN j→BE vo j∨W.sz≤j
theorem bL {bw rp:Nat} {vo:Value} {o:List Int} {n:Int} {W:CW} (ht:Aq W) (hw:LN W bw rp vo o) (hn:0≤n) (im:o.length<100000) :
  AD prog AM 105 [.pointer (some ⟨bw,0,none⟩),.int .i64 n] W (bK bw rp vo (visit o n) W):=by
 refine xI ?_; rw [xH]; have q0:ld prog 40 (.pointer (some ⟨bw,0,none⟩)) W=some vo:=AF Nr (a:=⟨bw,0,none⟩) (hw.w.cell rfl); have q1:ld prog 98 (.pointer (some ⟨bw,0+1,none⟩)) W=some (.map (some rp)):=AF a98 (a:=⟨bw,0+1,none⟩) (hw.w.cell rfl)
 have leaf:∀ (b:Bool) (e:Env),e 14=.bool b→e 0=.pointer (some ⟨bw,0,none⟩)→e 1=.int .i64 n→(b=true→visit o n=o)→(b=false→0<n∧n ∉ o)→(TD none (AI prog Tryz.f105 (bK bw rp vo (visit o n) W))) .normal e [] W:=by
  intro b e h14 h0 h1 xv r6; simp only [TD,Bi,h14]
  refine AN (fun hb=>?_) (fun hb=>?_)
  ·simp only [O0,LC]; rw [xv hb,fB]; exact ⟨⟨_,rfl⟩,.refl _ _,ht,vo,hw,fun j hj=>.inl hj⟩
  ·obtain ⟨Nb,rk⟩:=r6 hb; have hv:visit o n=o++[n]:=by unfold visit; rw [if_pos ⟨Nb,rk⟩]
   rw [hv]; simp only [O0,Bi,h0,h1,Bz,HR,L8,AA,q0]; refine nJ Hq s3 z3 rfl (by omega) by3 (by omega) (hZ _) rfl rfl ht hw.own (by rw [CE]; omega) fun u v1 W1 LL t1 o1 n1=>?_; rw [←Uq] at o1; have EB:=Uk hw.own hw.w (by decide); have D7:=LL.YX ht hw.w EB; refine Am (vs:=[vo,.map (some rp)]) wu (a:=⟨bw,0,none⟩) (Nt o1) D7 (by simp) fun W2 hu FW=>?_; have hu:Da bw W1 W2:=hu; have FW:BF W2 bw 100 [v1,.map (some rp)]:=FW; have yO:=D7.lt t1; have t2:Aq W2:=t1.Az yO hu; have Vb:B9 W.sz v1:=n1 _ (Nat.le_refl _); have hbw:=hw.w.lt ht; have o2:C8 W2 3 1 v1 (B8 (o++[n])):=GQ o1 hu fun b l c e=>by have:=Vb b l c e; omega
   have lT:=hw.p.lt ht; have AEB:rp≠bw:=fun e=>hw.p.ne hw.w e.symm
   have AEC:∀ b l c,vo=.slice (some b) l c→rp≠b.block:=fun b l c e hb=>by
    have ho:=hw.own; rw [e] at ho
    cases ho with
    | some hB hl=>exact hw.p.ne hB hb.symm
   have SK:cX W1 rp o:=hw.p.congr (LL.obj rp lT AEC); have zj:cX W2 rp o:=SK.congr (hu.obj rp AEB); have SE:(B8 (o++[n])).length=(o.length+1)*1:=by rw [CE]; simp
   have c1:ld prog 98 (.pointer (some ⟨bw,0+1,none⟩)) W2=some (.map (some rp)):=AF a98 (a:=⟨bw,0+1,none⟩) (FW.cell rfl); have c2:ld prog 40 (.pointer (some ⟨bw,0,none⟩)) W2=some v1:=AF Nr (a:=⟨bw,0,none⟩) (FW.cell rfl); have c3:A8 prog 40 v1 W2=some (.int .i64 ((o.length+1:Nat):Int)):=JX Hq o2 (by omega) SE; simp only [c1,c2,c3,AA]; refine zj.put rk fun W3 LO hp3=>?_; have AED:=zj.lt t2; have t3:=t2.Az AED LO; refine ⟨by simp only [and_self],trivial,?_⟩
   have hlv:∀ (e:Env) (W:CW) (Q:Ending→CW→Prop),Q (.returned (.tuple #[])) W→AI prog Tryz.f105 Q .normal e [] W:=fun e W Q h=>by
    have hr:Tryz.f105.results.toList=[]:=by kernel_rfl
    simp only [AI,EW,hr,LA]; exact h
   refine hlv _ _ _ ⟨⟨_,rfl⟩,?_,t3,v1,⟨FW.congr (LO.obj _ (zj.ne FW)),GQ o2 LO fun b l c e hb=>?_,hp3⟩,fun j hj=>.inr (Vb.in hj)⟩
   ·exact ⟨by rw [LO.sz,hu.sz]; exact LL.sz,fun j hj hS=>by
     rw [LO.obj j fun e=>hS (.inr (.inl e)),hu.obj j fun e=>hS (.inl e)]
     exact LL.Gy.obj j hj fun h=>hS (.inr (.inr h))⟩
   ·have:=Vb b l c e; omega
 simp only [CD,AA]
 refine AN (fun h0=>?_) (fun h0=>?_)
 ·have h0:n=0:=by simpa using h0
  exact leaf true _ rfl rfl rfl (fun _=>by unfold visit; rw [if_neg (by omega)]) (fun h=>by cases h)
 ·have h0:n≠0:=by simpa using h0
  simp only [Bz,L8,AA,q1,hw.p.look,CO]
  refine leaf _ _ rfl rfl rfl (fun h=>?_) (fun h=>?_)
  ·have h:=of_decide_eq_true h; unfold visit; rw [if_neg (fun hh=>by rw [GV hh.2] at h; omega)]
  ·have h:=of_decide_eq_false h; exact ⟨by omega,fun hm=>h (Rw hm)⟩
end Go.Ce
namespace Go.Ce
open Go Go.Proofs Go.Proofs.Tryz
theorem z40:Gp prog 40=some (.slice none 0 0):=by kernel_rfl
def U7 (l:List Int) (W:CW):Ending→CW→Prop:=fun e W'=>Kp W W'∧Aq W'∧∃ vr,e=.returned vr∧C8 W' 3 1 vr (B8 l)∧B9 W.sz vr
theorem N0 (c:List Aj) (i:Nat) (vs:List Int):∀ k,(FC c i vs k).length≤k
 | 0=>by simp [FC]
 | k+1=>by
  have h:=N0 c i vs k
  have h2:(if A5 c i k=2 then (vs[k]?).toList else []).length≤1:=by
   split
   ·cases vs[k]? <;> simp
   ·simp
  rw [FC,List.length_append]; omega
theorem iG {c:List Aj} {r1 r2 i:Nat} {y:BN} {vx:Value} {W:CW} (ht:Aq W) (GG:D_ W r1 r2 c) (hi:BL c y.type=some i) (SI:elemAt c i=0→y.AL.length≤(BH c i).length) (U4:A3 1 (DW W) vx y.AL) (hv:y.AL.length<100000) :
  AD prog AM 52 [K3 r1 r2,.agg #[.string y.type,vx]] W (U7 (refsOf c y) W):=by
 refine ABL ?_; rw [ABK]; unfold K3; obtain ⟨ax,cx,rfl,_⟩:=id U4; refine GA NS ht fun W0 k0 t0 z0 HN=>?_; have HN:BF W0 W.sz 78 [.map (some r1),.map (some r2)]:=HN; refine GA Ma t0 fun W1 k1 t1 z1 IJ=>?_; have IJ:BF W1 W0.sz 56 [.string y.type,.slice ax y.AL.length cx]:=IJ; refine HM z40 wu t1 fun W2 k2 t2 z2 LS=>?_; have LS:BF W2 W1.sz 40 [.slice none 0 0]:=LS; have AEE:=HN.ext t0 (k1.trans k2); have sD:=IJ.ext t1 k2; have k02:=(k0.trans k1).trans k2; have AEF:W.sz≤W1.sz:=(k0.trans k1).sz; have yP:W0.sz≠W1.sz:=by omega
 rw [Ba (vs:=[.map (some r1),.map (some r2)]) iB NS rfl (by omega) AEE.cells,Ba (vs:=[.string y.type,.slice ax y.AL.length cx]) jU Ma rfl (by omega) sD.cells]; simp only [AA]; generalize jl:W0.sz=b3 at sD IJ yP; generalize hb5:W1.sz=b5 at LS AEF yP; refine (L7 (r1:=r1) (r2:=r2) (ty:=y.type) t2).mono fun en W4 ⟨k4,t4,bk,bx,FG,Y9,hbx,cV,cW⟩=>?_; subst FG; simp only [AQ]; have jo:=k02.trans k4; have XC:=GG.kp ht jo; have hv4:A3 1 (DW W4) (.slice ax y.AL.length cx) y.AL:=U4.imp fun _ _ _ hr=>hr.kp ht jo; have AEG:=LS.ext t2 k4; have n9:=sD.ext t2 k4; have AFh:=LS.lt t2; have AFi:=sD.lt t2; have AFj:=k4.sz; have hKs:∀ W',DF (·=b5) W4 W'→∀ b k v,b≠b5→W4.cell b k=some v→W'.cell b k=some v:=fun W' h b k v hb hc=>h.cell t4 hb hc
 have hKd:∀ W',DF (·=b5) W4 W'→r_ W' bk bx r1 r2 c y.type y.AL.length:=fun W' h=>by
  have h78:bk≠b5:=by omega
  have h56:bx≠b5:=by omega
  refine ⟨hKs W' h _ _ _ h78 (cV.cell rfl),hKs W' h _ _ _ h78 (cV.cell rfl),?_,hKs W' h _ _ _ h56 (cW.cell rfl),_,_,hKs W' h _ _ _ h56 (cW.cell rfl)⟩; have hcW:=GG; exact GG.kp ht (DF.kp jo h fun j hj=>by omega)
 have dh:∀ (W':CW) (vo:Value) (e:Env),DF (·=b5) W4 W'→Aq W'→W'.obj W4.sz=some .deferred→W4.sz<W'.sz→BF W' b5 40 [vo]→C8 W' 3 1 vo (B8 (refsOf c y))→(∀ j,BE vo j→W4.sz+2≤j)→e 4=vo →
   AI prog Tryz.f52 (U7 (refsOf c y) W) .ret e [mark W4.sz] W':=by
  intro W' vo e HU t' hd hl hB ho hn h4; refine G0 hd ?_; have hu:Da W4.sz W' (W'.Az W4.sz .dead):=Da.of _ _ _; rw [jd,h4]; have hW4:=jo.sz; exact ⟨(DF.kp jo HU fun j hj=>by omega).Az hW4 hu,t'.Az hl hu,vo,rfl,GQ ho hu fun b l c e he=>by have:=hn b.block ⟨b,l,c,e,rfl⟩; omega,fun b l c e=>by have:=hn b.block ⟨b,l,c,e,rfl⟩; omega⟩
 refine O8 (bk:=bk) (bx:=bx) (r1:=r1) (r2:=r2) (n:=y.AL.length) (ix:=i) (c:=c) (ty:=y.type) (a1:=6) (a2:=7) t4 rfl hi hv SI (fun ro e0 ds K W=>by rw [xF]) (by decide)
  (fun j W'=>DF (·=b5) W4 W'∧Aq W'∧W'.obj W4.sz=some .deferred∧W4.sz+1<W'.sz∧∃ vo,BF W' b5 40 [vo]∧C8 W' 3 1 vo (B8 (FC c i y.AL j))∧∀ m,BE vo m→W4.sz+2≤m)
  (fun _ _=>False) (fun j W' h=>hKd W' h.1) (fun j W1 W2 ⟨h1,h2,h3,h4,vo,h5,h6,h7⟩ hu hc=>?_) (fun _ _ _ h _ _=>h.elim) (fun W3 k3 t3 z3 hd=>⟨DF.Gl k3,t3,hd,by omega,_,AEG.ext t4 k3,C8.nil,fun m hm=>by obtain ⟨b,l,c,e,_⟩:=hm; cases e⟩)
  (fun j W1 Kb E hE sB sC hj ⟨HU,qW,hd,hl,vo,lV,ph,Vm⟩ XB hn _ _=>?_) (fun W' ⟨h1,h2,h3,h4,vo,h5,h6,h7⟩=>?_) (fun _ _ h=>h.elim)
 ·exact ⟨h1.then hu.Gy fun i hi he=>by omega,h2.Az h4 hu,by rw [hu.obj _ (by omega)]; exact h3,by rw [hu.sz]; exact h4,vo,h5.congr (hu.obj _ (by omega)),GQ h6 hu fun b l c e he=>by have:=h7 b.block ⟨b,l,c,e,rfl⟩; omega,h7⟩
 ·have Ww:=List.getElem?_eq_getElem hj; have g3:E 3=.pointer (some ⟨b3,0,none⟩):=(hE 3 (by decide) (by decide) (by decide) (by decide)).trans rfl; have g5:E 5=.pointer (some ⟨b5,0,none⟩):=(hE 5 (by decide) (by decide) (by decide) (by decide)).trans rfl; have WU:FC c i y.AL (j+1)=FC c i y.AL j++(if A5 c i j=2 then [y.AL[j]] else []):=aW Ww; rw [xG,g3,g5,sB,sC]; simp only [CD,AA]
  refine AN (fun hk=>?_) (fun hk=>?_)
  ·have hk:A5 c i j=2:=by simpa using hk
   have Z3:A3 1 (DW W1) (.slice ax y.AL.length cx) y.AL:=by
    have:=U4.imp (S:=fun b o x=>DW W1 b o x) fun _ _ _ hr=>hr.kp ht (DF.kp jo HU fun j hj=>by omega); exact this
   obtain ⟨_,_,e3,hvc⟩:=Z3
   cases e3
   obtain ⟨q,rfl,hq⟩:=hvc j _ Ww; have l5:∀ W7,Kp W1 W7→ld prog 40 (.pointer (some ⟨b5,0,none⟩)) W7=some vo:=fun W7 k7=>AF Nr (a:=⟨b5,0,none⟩) (k7.cell qW (lV.cell rfl)); have l3:ld prog 40 (.pointer (some ⟨b3,0+1,none⟩)) W1=some (.slice (some q) y.AL.length cx):=AF Nr (a:=⟨b3,0+1,none⟩) (hKs W1 HU _ _ _ yP (n9.cell rfl)); simp only [l5 W1 (.refl _),FM,AA,l3]; rw [BM Hq s3 hj]; simp only [AA]; rw [AF a3 (a:=⟨q.block,q.off+j*1,none⟩) hq.1]; simp only [AA]; have df:=N0 c i y.AL j; refine Mf Hq s3 z3 rfl (by omega) by3 (by omega) (hZ _) rfl rfl qW ph (by rw [CE]; omega) fun u Wa v1 W7 ka ta LL t7 o7 n7=>?_; rw [←Uq] at o7; have EB:=Uk ph lV (by decide); have x7:=LL.YX qW lV EB; refine Am (vs:=[vo]) wu (a:=⟨b5,0,none⟩) (Nt o7) x7 (by simp) fun W8 hu SJ=>?_; have hu:Da b5 W7 W8:=hu; have Ye:=LL.sz; have hn7:B9 W1.sz v1:=n7 _ (Nat.le_refl _); refine ⟨by simp only [l5 Wa ka,and_self],trivial,?_⟩
   refine hn _ _ W8 ?_ ⟨(HU.then LL.Gy fun m hm hi=>by have:=Vm m hi; omega).then hu.Gy fun m hm hi=>hi,t7.Az (by omega) hu,?_,by rw [hu.sz]; omega,v1,SJ,?_,fun m hm=>by have:=hn7.in hm; omega⟩
   ·rw [hu.obj _ (by omega)]; exact LL.obj _ (by omega) fun b l c e hb=>by have:=Vm b.block ⟨b,l,c,e,rfl⟩; omega
   ·rw [hu.obj _ (by omega)]; rw [LL.obj _ (by omega) fun b l c e hb=>by have:=Vm b.block ⟨b,l,c,e,rfl⟩; omega]; exact hd
   ·rw [WU,if_pos hk]; exact GQ o7 hu fun b l c e=>by have:=hn7 b l c e; omega
  ·have hk:¬A5 c i j=2:=by simpa using hk
   refine hn _ _ W1 rfl ⟨HU,qW,hd,hl,vo,lV,?_,Vm⟩; rw [WU,if_neg hk,List.append_nil]; exact ph
 ·simp only [Bi,rK,fA]; simp only [AW,Nat.reduceEqDiff,↓reduceIte]; rw [AF Nr (a:=⟨b5,0,none⟩) (h5.cell rfl)]; simp only [AA]; have uc:refsOf c y=FC c i y.AL y.AL.length:=by unfold refsOf; rw [hi]
  exact dh W' vo _ h1 h2 h3 (by omega) h5 (by rw [uc]; exact h6) h7 rfl
theorem bM:Tryz.f53.results.toList=[.cell 4 56]:=by kernel_rfl
theorem n_ {e e1:Env} {A W:CW} {K:AB} {vm vx:Value} {b3 b7:Nat} {s:Br} {x:BN} (hA:Aq A) (ht:Aq W) (hk:Kp A W) (cj:A3 1 (DW A) vm s.map) (he:DR [3,4,7,25,26] e e1) (h27:e1 27=.int .i64 0) (h25:e 25=vm) (h26:e 26=.int .i64 s.map.length) (h3:e 3=.pointer (some ⟨b3,0,none⟩)) (h7:e 7=.pointer (some ⟨b7,0,none⟩)) (jl:A.cell b3 1=some vx) (U4:A3 1 (DW A) vx x.AL) (hb7:A.sz≤b7) (hB:BF W b7 56 [.string s.to,.slice none 0 0])
  (hm:∀ m,m ∈ s.map→0≤m∧m.toNat<x.AL.length) (hlen:s.map.length<100000)
  (hex:∀ e' W' vo,Kp A W'→Aq W'→B9 A.sz vo→BF W' b7 56 [.string s.to,vo]→C8 W' 3 1 vo (B8 (s.map.map (GU x)))→DR [3,4,7] e e'→K (.exit 0) e' [] W') :
  Bj prog AM none 53 43 (.loop (AY prog 53 0)) e1 [] W K:=by
 refine FT (fun m e' EV W'=>EV=[]∧Kp A W'∧Aq W'∧DR [3,4,7,25,26] e e'∧e' 27=.int .i64 m∧∃ vo,BF W' b7 56 [.string s.to,vo]∧C8 W' 3 1 vo (B8 ((s.map.take m).map (GU x)))∧B9 A.sz vo) s.map.length ⟨rfl,hk,ht,he,h27,_,hB,C8.nil,B9.nil _ _ _⟩ ?_; rintro m e' EV W' jB ⟨rfl,k',t',O5,g27,vo,oB,ho,SB⟩; have AEH:A3 1 (DW W') vm s.map:=cj.imp fun _ _ _ hr=>hr.kp hA k'; have AEI:A3 1 (DW W') vx x.AL:=U4.imp fun _ _ _ hr=>hr.kp hA k'; obtain ⟨am,AFk,rfl,hmc⟩:=AEH; obtain ⟨ax,ACH,rfl,hxc⟩:=AEI; have g3:=(O5 3 (by decide)).trans h3; have g7:=(O5 7 (by decide)).trans h7; rw [yC,g27,g3,g7,(O5 25 (by decide)).trans h25,(O5 26 (by decide)).trans h26]; simp only [Ax,AA]
 refine It (fun A0=>?_) (fun Mx=>?_)
 ·have hx:=List.getElem?_eq_getElem A0; obtain ⟨q,rfl,hq⟩:=hmc m _ hx; obtain ⟨gF,Va⟩:=hm _ (List.getElem_mem A0); have uT:=List.getElem?_eq_getElem Va; obtain ⟨qx,rfl,hqx⟩:=hxc _ _ uT; have q6:∀ W7,Kp W' W7→ld prog 40 (.pointer (some ⟨b7,0+1,none⟩)) W7=some vo:=fun W7 k7=>AF Nr (a:=⟨b7,0+1,none⟩) (k7.cell t' (oB.cell rfl)); have q3:ld prog 40 (.pointer (some ⟨b3,0+1,none⟩)) W'=some (.slice (some qx) x.AL.length ACH):=AF Nr (a:=⟨b3,0+1,none⟩) (k'.cell hA jl)
  have ex:Bm prog 40 (.slice (some qx) x.AL.length ACH) (.int .i64 s.map[m])=some (.pointer (some ⟨qx.block,qx.off+s.map[m].toNat*1,none⟩)):=by
   have e1:(Value.int IntKind.i64 s.map[m])=.int .i64 ((s.map[m].toNat:Nat):Int):=by rw [Int.toNat_of_nonneg gF]
   rw [e1]; exact BM Hq s3 Va
  have q1:ld prog 3 (.pointer (some ⟨q.block,q.off+m*1,none⟩)) W'=some (.int .i64 s.map[m]):=AF a3 (a:=⟨q.block,q.off+m*1,none⟩) hq.1; have q2:ld prog 3 (.pointer (some ⟨qx.block,qx.off+s.map[m].toNat*1,none⟩)) W'=some (.int .i64 x.AL[s.map[m].toNat]):=AF a3 (a:=⟨qx.block,qx.off+s.map[m].toNat*1,none⟩) hqx.1; rw [BM Hq s3 A0]; simp only [FM,AA,q6 W' (.refl _),q3,q1,ex,q2]; have hln:(B8 ((s.map.take m).map (GU x))).length<900000:=by rw [CE,List.length_map,List.length_take]; omega
  refine Mf Hq s3 z3 rfl (by omega) by3 (by omega) (hZ _) rfl rfl t' ho hln fun u Wa v1 W1 ka ta LL t1 o1 n1=>?_; have EB:=Uk ho oB (by decide); have VT:=LL.YX t' oB EB; have Vb:B9 W'.sz v1:=n1 _ (Nat.le_refl _); refine Am (vs:=[.string s.to,vo]) wu (a:=⟨b7,0+1,none⟩) (Nt o1) VT (by simp) fun W2 hu HN=>?_; have AFl:b7<W'.sz:=oB.lt t'; have hu:Da b7 W1 W2:=hu; have k1:Kp A W1:=LL.kp k' SB; have k2:Kp A W2:=k1.Az hb7 hu; have t2:Aq W2:=t1.Az (by have:=LL.sz; omega) hu; refine ⟨by simp only [q6 Wa ka,and_self],trivial,?_⟩; simp only [iE,Bi,Kv]; simp only [AW,Aa,Nat.reduceEqDiff,↓reduceIte,g27,Ae,AA]
  refine ⟨A0,trivial,k2,t2,(O5.trans (.put rfl)).trans (.put rfl),by rw [FU (by omega)],v1,HN,?_,fun b l c e=>?_⟩
  ·have:B8 ((s.map.take (m+1)).map (GU x))=B8 ((s.map.take m).map (GU x))++[.int .i64 x.AL[s.map[m].toNat]]:=by
    rw [List.take_add_one,hx]; simp only [Option.toList_some,List.map_append,List.map_cons,List.map_nil,B8,GU,uT,ZF]
   rw [this]; exact GQ o1 hu fun b l c e=>by have:=Vb b l c e; omega
  ·have:=Vb b l c e; have:=k'.sz; omega
 ·simp only [Uj]; have:s.map.take m=s.map:=List.take_of_length_le (by omega); rw [this] at ho; exact hex _ W' vo k' t' SB oB ho (fun t ht=>(DR.put rfl t (by exact ht)).trans (O5 t (by revert t; decide)))
theorem oC {w r:Nat} {vx:Value} {l:List Br} {x:BN} {W:CW} (ht:Aq W) (hw:O6 Br.type W w l) (U4:A3 1 (DW W) vx x.AL) (hm:∀ s,Gm l x.type=some s→∀ m,m ∈ s.map→0≤m∧m.toNat<x.AL.length) (VU:∀ s,s ∈ l→s.map.length<100000) :
  AD prog AM 53 [.agg #[.map (some w),.map (some r)],.agg #[.string x.type,vx]] W (nP vx (AO l x) W):=by
 refine AB2 ?_; rw [AB1]; obtain ⟨ax,cx,rfl,_⟩:=id U4; refine GA rr ht fun W0 k0 t0 z0 HN=>?_; have HN:BF W0 W.sz 83 [.map (some w),.map (some r)]:=HN; refine GA Ma t0 fun W1 k1 t1 z1 IJ=>?_; have IJ:BF W1 W0.sz 56 [.string x.type,.slice ax x.AL.length cx]:=IJ; refine HM z56 Ma t1 fun A kA tA zA Mj=>?_; have Mj:BF A W1.sz 56 [.string ⟨#[]⟩,.slice none 0 0]:=Mj; have k:=(k0.trans k1).trans kA; have IJ:=IJ.ext t1 kA; have nm:W.sz≤W1.sz:=(k0.trans k1).sz; have hwA:=hw.kp ht k; have hvA:A3 1 (DW A) (.slice ax x.AL.length cx) x.AL:=U4.imp fun _ _ _ hr=>hr.kp ht k; have q3:∀ W7,Kp A W7→ld prog 9 (.pointer (some ⟨W0.sz,0,none⟩)) W7=some (.string x.type):=fun W7 k7=>AF a9 (a:=⟨W0.sz,0,none⟩) (k7.cell tA (IJ.cell rfl)); simp only [Yf,H9,AA]; rw [AF zx (a:=⟨W.sz,0,none⟩) ((HN.ext t0 (k1.trans kA)).cell rfl)]; simp only [AA,q3 A (.refl _)]; generalize LM:AI prog Tryz.f53 (nP (.slice ax x.AL.length cx) (AO l x) W)=K
 have Gz:∀ pV vv,Kp A pV→Aq pV→BO vv=true→(vv=.slice ax x.AL.length cx∨B9 W.sz vv)→(∀ W2,Da W1.sz pV W2→A3 1 (DW W2) vv (AO l x).AL)→∀ {K':CW→Prop},(∀ W2,(∀ e',e' 4=.pointer (some ⟨W1.sz,0,none⟩)→K .ret e' [] W2)→K' W2) →
   wV (B5 prog 56 (.pointer (some ⟨W1.sz,0,none⟩)) (.agg [.string (AO l x).type,vv].toArray) pV) K':=by
  intro pV vv zg qW PZ pS Xg K' xe; have hB:=Mj.ext tA zg; refine Dj Ma (a:=⟨W1.sz,0,none⟩) (by simp only [List.all_cons,List.all_nil,PZ,Bool.and_true]; rfl) rfl hB (by simp) fun W2 hu HN=>xe W2 fun e' h4'=>?_; have hu:Da W1.sz pV W2:=hu; rw [←LM]; have HN:BF W2 W1.sz 56 [.string (AO l x).type,vv]:=HN; refine Nu bM (p:=⟨W1.sz,0,none⟩) h4' (Ba (vs:=[.string (AO l x).type,vv]) jU Ma rfl (by omega) HN.cells) ?_; have eY:=hB.lt qW; exact ⟨(k.trans zg).Az nm hu,qW.Az eY hu,vv,rfl,Xg W2 hu,pS⟩
 cases Jg:Gm l x.type with
 | none =>
  have MN:AO l x=x:=by unfold AO; rw [Jg]
  rw [hwA.none Jg]; simp only [AA,Bd,Be]; unfold xn; refine D' (ws:=[.string ⟨#[]⟩,.string ⟨#[]⟩,.slice none 0 0]) rj jT rfl rfl rfl tA fun W4 k4 t4 z4 LS=>?_; simp only [Ar,AA,Bool.not_false,Bx]; rw [Ba (vs:=[.string x.type,.slice ax x.AL.length cx]) jU Ma rfl (by omega) (IJ.ext tA k4).cells]; simp only [AA]; have Rv:x.type=(AO l x).type:=by rw [MN]
  rw [Rv]; refine Gz W4 _ k4 t4 rfl (.inl rfl) (fun W3 hu=>?_) fun W3 hr=>hr _ rfl; rw [MN]; exact U4.imp fun _ _ _ hr=>hr.kp ht ((k.trans k4).Az nm hu)
 | some s =>
  have MN:AO l x=⟨s.to,s.map.map (GU x)⟩:=by unfold AO; rw [Jg]
  obtain ⟨i,hi,AFm⟩:=Ic Jg; obtain ⟨u,hu,L⟩:=hwA.some Jg; obtain ⟨am,cm,rfl,hum⟩:=hu; rw [L]; simp only [AA,Bd,Be]; refine D' (ws:=[.string s.type,.string s.to,.slice am s.map.length cm]) rj jT rfl rfl rfl tA fun W4 k4 t4 z4 LS=>?_; simp only [Ar,AA,Bool.not_true,Ay,Mb,S9]; rw [AF a9 (a:=⟨A.sz,0+1,none⟩) (LS.cell rfl)]; simp only [AA]; rw [AA9]; simp only [AA]; refine D' z56 Ma rfl rfl rfl t4 fun W7 k7 t7 z7 x7=>?_; rw [AF Nr (a:=⟨A.sz,0+2,none⟩) ((LS.ext t4 k7).cell rfl)]; simp only [AA,At Hq]
  refine n_ (e:=Env.of (Env.args []) [(3,.pointer (some ⟨W0.sz,0,none⟩)),(4,.pointer (some ⟨W1.sz,0,none⟩)),(7,.pointer (some ⟨W4.sz,0,none⟩)),(25,.slice am s.map.length cm),(26,.int .i64 s.map.length)]) tA t7 (k4.trans k7) hum (fun t ht=>by
   simp only [List.mem_cons,List.not_mem_nil,or_false] at ht
   rcases ht with rfl | rfl | rfl | rfl | rfl <;> rfl) rfl rfl rfl rfl rfl (IJ.cell rfl) hvA (k4.sz) x7 (hm s Jg) (VU s (List.mem_of_getElem? hi)) fun e' W2 vo k2 t2 SB hBo ho O5=>?_
  have g4:e' 4=.pointer (some ⟨W1.sz,0,none⟩):=(O5 4 (by decide)).trans rfl; have g7:e' 7=.pointer (some ⟨W4.sz,0,none⟩):=(O5 7 (by decide)).trans rfl; simp only [Bi,Rr,JB,if_true,nu,g4,g7]; rw [Ba (vs:=[.string s.to,vo]) jU Ma rfl (by omega) hBo.cells]; simp only [AA]; have Rv:s.to=(AO l x).type:=by rw [MN]
  rw [Rv]
  have hbd:∀ y,y ∈ (AO l x).AL→-9223372036854775808≤y∧y≤9223372036854775807:=by
   rw [MN]; intro y hy; obtain ⟨m,Va,rfl⟩:=List.mem_map.1 hy; have P9:=(hm _ Jg m Va).2; obtain ⟨ax',cx',_,hxc⟩:=U4; obtain ⟨_,_,zn⟩:=hxc _ _ (List.getElem?_eq_getElem P9); unfold GU; rw [List.getElem?_eq_getElem P9]; exact zn.2
  refine Gz W2 vo k2 t2 (Nt ho) (.inr fun b l' c e=>Nat.le_trans k.sz (SB b l' c e)) (fun W3 hu=>DW.of ?_ hbd) fun W3 hr=>?_
  ·have hwv:(AO l x).AL=s.map.map (GU x):=by rw [MN]
   rw [hwv]; have tF:=Mj.ext tA k2; exact Hs (GQ ho hu (Uk ho tF (by decide)))
  ·exact hr _ g4
end Go.Ce
namespace Go.Ce
open Go Go.Proofs Go.Proofs.Tryz
theorem yQ (r:Nat):Sh prog 100 [(1,.map (some r))]=some (.agg #[.slice none 0 0,.map (some r)]):=by kernel_rfl
theorem AEJ:Db prog 100=some 2:=by kernel_rfl
theorem bN (root:Int):visit [] root=start root:=by
 unfold visit start
 by_cases h:root>0
 ·rw [if_pos h,if_pos ⟨h,by simp⟩]; rfl
 ·rw [if_neg h,if_neg (fun hh=>h hh.1)]
theorem LN.lt {W:CW} {bw rp:Nat} {vo:Value} {o:List Int} (h:LN W bw rp vo o) (ht:Aq W):bw<W.sz∧rp<W.sz∧∀ j,BE vo j→j<W.sz:=⟨h.w.lt ht,h.p.lt ht,fun j hj=>Ul ht h.own hj⟩
theorem LN.kp {W W':CW} {bw rp:Nat} {vo:Value} {o:List Int} (h:LN W bw rp vo o) (ht:Aq W) (k:Kp W W'):LN W' bw rp vo o:=⟨h.w.ext ht k,h.own.kp ht k,h.p.congr (k.obj _ (h.p.lt ht))⟩
def bO (o:List Int) (N:Nat) (W:CW):Ending→CW→Prop:=fun e W'=>Kp W W'∧Aq W'∧∃ bw rp vo,e=.returned (.pointer (some ⟨bw,0,none⟩))∧LN W' bw rp vo o∧W.sz≤bw∧W.sz≤rp∧B9 W.sz vo∧Found o N
theorem XE {v1:Value} {root:Int} {N:Nat} {refs:Int→List Int} {W:CW} (ht:Aq W) (sE:0≤root) (PO:root≤N) (hN:N<100000) (Jq:∀ n:Int,0<n→n≤N→∀ r,r ∈ refs n→0≤r∧r≤N) (df:∀ n:Int,(refs n).length<100000)
  (hrefs:∀ (n:Int) (W':CW),Kp W W'→Aq W'→0<n→n≤N→∀ (K:Value→CW→Prop) KP,(∀ vr lU,Kp W' lU→Aq lU→C8 lU 3 1 vr (B8 (refs n))→B9 W'.sz vr→K vr lU)→Ej prog AM v1 [.int .i64 n] W' K KP) :
  AD prog AM 50 [.int .i64 root,v1] W (bO (Ao refs N (start root) 0) N W):=by
 refine ABJ ?_; rw [ABI]; refine UW (enc:=n8) ht fun W0 k0 t0 z0 hm=>?_; rw [yQ]; simp only [AA]; refine GA AEJ t0 fun W1 k1 t1 z1 hB=>?_; have hB:BF W1 W0.sz 100 [.slice none 0 0,.map (some W.sz)]:=hB; have hw0:LN W1 W0.sz W.sz (.slice none 0 0) []:=⟨hB,C8.nil,⟨[],hm.kp t0 k1,fun n=>by simp [Kr]⟩⟩
 have oD:=k0.trans k1; have oE:W.sz≤W0.sz:=k0.sz; have AEK:W0.sz≠W.sz:=by omega
 generalize hbw:W0.sz=bw at hw0 oE AEK; refine (bL t1 hw0 sE (by simp)).mono fun en W2 ⟨⟨v,he⟩,c2,t2,vo,FW,ZA⟩=>?_; subst he; simp only [AQ]; rw [bN] at FW; have Mw:∀ j,¬BE (.slice none 0 0) j:=fun j ⟨b,l,c,e,_⟩=>by cases e
 have kS:∀ {A:CW} {vo:Value},(∀ j,BE vo j→W.sz≤j)→∀ j,WkS bw W.sz vo j→W.sz≤j:=fun hv j hj=>by
  rcases hj with rfl | rfl | hj
  ·exact oE
  ·exact Nat.le_refl _
  ·exact hv j hj
 have k2:Kp W W2:=DF.kp oD c2 fun j hj=>by
  rcases hj with rfl | rfl | hj
  ·exact oE
  ·exact Nat.le_refl _
  ·exact (Mw j hj).elim
 have cy:B9 W.sz vo:=fun b l c e=>by
  rcases ZA _ ⟨b,l,c,e,rfl⟩ with h | h
  ·exact (Mw _ h).elim
  ·have:=oD.sz; omega
 refine FT (fun i e ds W'=>ds=[]∧∃ o vo,Kp W W'∧Aq W'∧e 1=v1∧e 5=.pointer (some ⟨bw,0,none⟩)∧e 6=.int .i64 i∧LN W' bw W.sz vo o∧B9 W.sz vo∧Found o N∧Ao refs (N-i) o i=Ao refs N (start root) 0) N
  ⟨rfl,_,vo,k2,t2,rfl,rfl,rfl,FW,cy,.start PO,rfl⟩ ?_
 rintro i e ds W' hi ⟨rfl,o,vo,k',t',h1,h5,h6,hw,Vm,hF,hR⟩; have im:=hF.len; obtain ⟨yO,AFn,AEL⟩:=hw.lt t'; have q0:ld prog 40 (.pointer (some ⟨bw,0,none⟩)) W'=some vo:=AF Nr (a:=⟨bw,0,none⟩) (hw.w.cell rfl); have AEM:(B8 o).length=o.length*1:=by rw [CE]; omega
 rw [xD,h1,h5,h6]; simp only [Bz,HR,AA,q0,JX Hq hw.own (by omega) AEM,Ax]
 refine It (fun A0=>?_) (fun Mx=>?_)
 ·have hx:=List.getElem?_eq_getElem A0; obtain ⟨ao,co,rfl,hoc⟩:=Hs (f:=fun k=>Value.int .i64 k) hw.own; obtain ⟨po,rfl,hpo⟩:=hoc i _ hx; have ACI:=hF.low _ (List.getElem_mem A0); have te:=hF.high _ (List.getElem_mem A0); rw [BM Hq s3 A0]; simp only [AA]; rw [AF a3 (a:=⟨po.block,po.off+i*1,none⟩) hpo]; simp only [AA]; refine hrefs o[i] W' k' t' ACI te _ _ fun vr W6 k6 t6 dd sF=>?_; have WU:=Jq o[i] ACI te; have df:=df o[i]
  have NL:Ao refs (N-(i+1)) ((refs o[i]).foldl visit o) (i+1)=Ao refs N (start root) 0:=by
   rw [←hR,show N-i=(N-(i+1))+1 by omega,aV hx]
  generalize refs o[i]=rs at dd WU df NL; have AEN:(B8 rs).length=rs.length*1:=by rw [CE]; omega
  rw [JX Hq dd (by omega) AEN]; simp only [AA]; have hw6:=hw.kp t' k6; have AFo:=k6.sz
  have AEO:∀ j,BE vr j→¬WkS bw W.sz (.slice (some po) o.length co) j:=fun j hj hS=>by
   have:=sF.in hj
   rcases hS with rfl | rfl | hS
   ·omega
   ·omega
   ·have:=AEL j hS; omega
  refine FT (fun k e' EV W7=>EV=[]∧∃ o' yN,DF (WkS bw W.sz (.slice (some po) o.length co)) W6 W7∧Aq W7∧e' 1=v1∧e' 5=.pointer (some ⟨bw,0,none⟩)∧e' 6=.int .i64 i∧e' 32=vr∧e' 33=.int .i64 rs.length∧e' 34=.int .i64 k∧LN W7 bw W.sz yN o'∧(∀ j,BE yN j→BE (.slice (some po) o.length co) j∨W6.sz≤j)∧Found o' N∧o'=(rs.take k).foldl visit o) rs.length
   ⟨rfl,o,_,.refl _ _,t6,h1,h5,h6,rfl,rfl,rfl,hw6,fun j hj=>.inl hj,hF,rfl⟩ ?_
  rintro k e' EV W7 hk ⟨rfl,o',yN,c7,t7,g1,g5,g6,g32,g33,g34,hw7,hv7,hF7,ho7⟩; rw [xE,g5,g32,g33,g34]; simp only [Ax,AA]
  refine It (fun P9=>?_) (fun ABa=>?_)
  ·have zn:=List.getElem?_eq_getElem P9; have AEP:=c7.own t6 dd AEO; obtain ⟨ar,cr,rfl,hrc⟩:=Hs (f:=fun k=>Value.int .i64 k) AEP; obtain ⟨pr,rfl,RX⟩:=hrc k _ zn; rw [BM Hq s3 P9]; simp only [AA]; rw [AF a3 (a:=⟨pr.block,pr.off+k*1,none⟩) RX]; simp only [AA]; obtain ⟨qE,WK⟩:=WU _ (List.getElem_mem P9); have:=hF7.len; refine (bL t7 hw7 qE (by omega)).mono fun en W9 ⟨⟨v,he⟩,c9,t9,vo9,hw9,hv9⟩=>?_; subst he; simp only [AQ,e_,Bi,Kv]; simp only [AW,Aa,Nat.reduceEqDiff,↓reduceIte,g34,Ae,AA]; have AFp:=c7.sz
   refine ⟨P9,trivial,_,vo9,c7.then c9 fun j hj hS=>?_,t9,g1,g5,g6,g32,g33,by rw [FU (by omega)],hw9,fun j hj=>?_,hF7.visit WK,?_⟩
   ·rcases hS with h | h | h
    ·exact .inl h
    ·exact .inr (.inl h)
    ·rcases hv7 j h with h | h
     ·exact .inr (.inr h)
     ·omega
   ·rcases hv9 j hj with h | h
    ·exact hv7 j h
    ·exact .inr (by omega)
   ·rw [List.take_add_one,zn,List.foldl_append,←ho7]; rfl
  ·have hkr:rs.take k=rs:=List.take_of_length_le (by omega); rw [hkr] at ho7; simp only [Bi,Rr,rK,JB,Kv,Uj,if_true,ez]; simp only [AW,Aa,Nat.reduceEqDiff,↓reduceIte,g6,Ae,AA]
   refine ⟨by omega,trivial,o',yN,DF.kp (k'.trans k6) c7 fun j hj=>?_,t7,g1,g5,by rw [FU (by omega)],hw7,fun b l c e=>?_,hF7,by rw [ho7]; exact NL⟩
   ·rcases hj with rfl | rfl | hj
    ·exact oE
    ·exact Nat.le_refl _
    ·exact Vm.in hj
   ·rcases hv7 _ ⟨b,l,c,e,rfl⟩ with h | h
    ·exact Vm.in h
    ·have:=(k'.trans k6).sz; omega
 ·have hfo:o=Ao refs N (start root) 0:=by rw [←hR,eZ Mx]
  simp only [Bi,Rr,JB,Uj,if_true,nV,jc]; refine ⟨k',t',bw,W.sz,vo,?_,hfo ▸ hw,oE,Nat.le_refl _,Vm,hfo ▸ hF⟩; simp only [AW,Aa,Nat.reduceEqDiff,↓reduceIte,h5]
theorem Ml {c:List Aj} {l:List Br} {h:List BN} (Ai:BV c=true) (hs:BI c l=true) (HQ:∀ x,x ∈ h→A4 c x h.length=true) {n:Int}:∀ r,r ∈ CR c l h n→0≤r∧r≤h.length:=by
 intro r hr; unfold CR at hr
 cases hx:h[(n-1).toNat]? with
 | none=>rw [hx] at hr; cases hr
 | some x =>
  rw [hx] at hr; simp only at hr; obtain ⟨i,s,Y⟩:=Bt (CJ hs (HQ x (List.mem_of_getElem? hx))); generalize AO l x=y at hr Y; unfold refsOf at hr; rw [Y.ti] at hr; simp only at hr
  have:∀ k,r ∈ FC c i y.AL k→0≤r∧r≤h.length:=by
   intro k
   induction k with
   | zero=>intro h; cases h
   | succ k ih =>
    intro h; rw [FC] at h
    rcases List.mem_append.1 h with h | h
    ·exact ih h
    ·split at h
     ·rename_i hk
      cases hv:y.AL[k]? with
      | none=>rw [hv] at h; cases h
      | some v =>
       rw [hv] at h; have pR:=List.mem_singleton.1 h; subst pR
       rcases HP Ai Y hv with h | h
       ·exact ⟨h.2.1,h.2.2⟩
       ·omega
     ·cases h
  exact this _ hr
theorem bP {c:List Aj} {l:List Br} {h:List BN} (hC:SG c) (hs:BI c l=true) (HQ:∀ x,x ∈ h→A4 c x h.length=true) (n:Int):(CR c l h n).length<100000:=by
 unfold CR
 cases hx:h[(n-1).toNat]? with
 | none=>simp
 | some x =>
  simp only; obtain ⟨i,s,Y⟩:=Bt (CJ hs (HQ x (List.mem_of_getElem? hx))); have:=N0 c i (AO l x).AL (AO l x).AL.length; have:=Mg hC Y.many; unfold refsOf; rw [Y.ti]; simp only; omega
structure U8 (W:CW) (bk br bh r1 r2 w r:Nat) (c:List Aj) (l:List Br) (h:List BN):Prop where
 k:Cells W bk 0 [.map (some r1),.map (some r2)]
 rl:Cells W br 0 [.map (some w),.map (some r)]
 cat:D_ W r1 r2 c
 sp:O6 Br.type W w l
 hs:∃ vh,W.cell bh 0=some vh∧A3 2 (Gx W) vh h
theorem U8.kp {W W':CW} {bk br bh r1 r2 w r:Nat} {c:List Aj} {l:List Br} {h:List BN} (A:U8 W bk br bh r1 r2 w r c l h) (ht:Aq W) (k:Kp W W'):U8 W' bk br bh r1 r2 w r c l h:=by
 obtain ⟨vh,h1,h2⟩:=A.hs; exact ⟨A.k.ext ht k,A.rl.ext ht k,A.cat.kp ht k,A.sp.kp ht k,vh,k.cell ht h1,h2.imp fun _ _ _ hr=>hr.kp ht k⟩
theorem jt {bk br bh r1 r2 w r:Nat} {c:List Aj} {l:List Br} {h:List BN} {n:Int} {W:CW} (ht:Aq W) (A:U8 W bk br bh r1 r2 w r c l h) (hC:SG c) (hs:BI c l=true) (HQ:∀ x,x ∈ h→A4 c x h.length=true) (VU:∀ s,s ∈ l→s.map.length<100000) (RT:0<n) (Vb:n≤h.length) (pe:h.length<100000) :
  AD prog AM 51 [.int .i64 n,.pointer (some ⟨bk,0,none⟩),.pointer (some ⟨br,0,none⟩),.pointer (some ⟨bh,0,none⟩)] W (U7 (CR c l h n) W):=by
 refine AB0 ?_; rw [ABz]; obtain ⟨vh,hbh,hh⟩:=A.hs; obtain ⟨i,hi⟩:∃ i:Nat,n=((i+1:Nat):Int):=⟨(n-1).toNat,by omega⟩
 subst hi; have Ge:i<h.length:=by omega
 have hx:=List.getElem?_eq_getElem Ge; obtain ⟨ah,ch,rfl,oF⟩:=id hh; obtain ⟨p,rfl,hp⟩:=oF i _ hx; have l78:∀ W1,Kp W W1→ld prog 78 (.pointer (some ⟨bk,0,none⟩)) W1=some (.agg [.map (some r1),.map (some r2)].toArray):=fun W1 k1=>Ba (vs:=[.map (some r1),.map (some r2)]) (a:=⟨bk,0,none⟩) iB NS rfl (by omega) (A.k.ext ht k1); have l83:ld prog 83 (.pointer (some ⟨br,0,none⟩)) W=some (.agg [.map (some w),.map (some r)].toArray):=Ba (vs:=[.map (some w),.map (some r)]) (a:=⟨br,0,none⟩) a83 rr rfl (by omega) A.rl; have ju:ld prog 24 (.pointer (some ⟨bh,0,none⟩)) W=some (.slice (some p) h.length ch):=AF yA (a:=⟨bh,0,none⟩) hbh; obtain ⟨vx,hu,U4,ACJ⟩:=ec ht (.refl _) hp; rw [l78 W (.refl _),l83,ju]; simp only [AA,Ak]; rw [show ((i+1:Nat):Int)-1=(i:Nat) by omega,wrap64 (by omega) (by omega),BM WC Ma Ge]; simp only [AA,hu]; have Rv:=HQ _ (List.getElem_mem Ge); refine (oC (r:=r) ht A.sp U4 (L4 hs Rv) VU).mono fun en W0 ⟨k0,t0,vv,FG,Xg,pS⟩=>?_; subst FG; simp only [AQ]; have hyt:=CJ hs Rv; obtain ⟨iy,sy,Y⟩:=Bt hyt
 have lT:CR c l h ((i+1:Nat):Int)=refsOf c (AO l h[i]):=by
  unfold CR; rw [show (((i+1:Nat):Int)-1).toNat=i by omega,hx]
 have AEQ:=Mg hC Y.many; refine (iG t0 (A.cat.kp ht k0) Y.ti (fun he=>by rw [Fl Y.si he Y.many]; exact Nat.le_refl _) Xg (by omega)).mono fun en W2 ⟨k2,t2,vr,FG,dd,sF⟩=>?_; subst FG; simp only [AQ]; refine ⟨by simp only [l78 W0 k0,and_self],trivial,?_⟩; rw [jr]; refine ⟨k0.trans k2,t2,vr,rfl,by rw [lT]; exact dd,fun b l c e=>Nat.le_trans k0.sz (sF b l c e)⟩
end Go.Ce
namespace Go.Ce
open Go Go.Proofs Go.Proofs.Tryz
theorem TJ (a:Addr):BD prog 95 (.pointer (some a)) 0=some (.pointer (some ⟨a.block,a.off,none⟩)):=by kernel_rfl
theorem H_ (a:Addr):BD prog 97 (.pointer (some a)) 0=some (.pointer (some ⟨a.block,a.off,none⟩)):=by kernel_rfl
theorem Yo (a:Addr):BD prog 97 (.pointer (some a)) 1=some (.pointer (some ⟨a.block,a.off+1,none⟩)):=by kernel_rfl
theorem jv (n:Nat) (h:n<1000000000000000000):AH prog .shr 3 true (.int .i64 n) (.int .u64 7)=some (.int .i64 ((n / 128:Nat):Int)):=by
 have h1:AH prog .shr 3 true (.int .i64 n) (.int .u64 7)=some (.int .i64 ((n:Int).fdiv (2 ^ (min (7:Int).toNat 64)))):=by kernel_rfl
 rw [h1]; congr 2; have:((2:Int) ^ (min (7:Int).toNat 64))=((128:Nat):Int):=by decide
 rw [this,Int.fdiv_eq_ediv_of_nonneg _ (by omega)]; omega
structure J6 (W:CW) (wb:Nat) (rest:List Value) (vb:Value) (bs:List Int):Prop where
 b:BF W wb 97 (vb::rest)
 own:C8 W 5 1 vb (Bk bs)
def iH (wb:Nat) (vb:Value) (j:Nat):Prop:=j=wb∨BE vb j
def L9 (wb:Nat) (rest:List Value) (vb:Value) (bs:List Int) (W:CW):Ending→CW→Prop:=fun e W'=>(∃ v,e=.returned v)∧DF (iH wb vb) W W'∧Aq W'∧∃ IA,J6 W' wb rest IA bs∧∀ j,BE IA j→BE vb j∨W.sz≤j
theorem J6.ld {W:CW} {wb:Nat} {rest:List Value} {vb:Value} {bs:List Int} (h:J6 W wb rest vb bs):Go.Ce.ld prog 29 (.pointer (some ⟨wb,0,none⟩)) W=some vb:=AF a29 (a:=⟨wb,0,none⟩) (h.b.cell rfl)
theorem N1 {wb:Nat} {rest:List Value} {vb lW sG:Value} {bs:List Int} {W W1 W2:CW} (c1:DF (iH wb vb) W W1) (n1:∀ j,BE lW j→BE vb j∨W.sz≤j) (c2:DF (iH wb lW) W1 W2) (n2:∀ j,BE sG j→BE lW j∨W1.sz≤j):DF (iH wb vb) W W2∧∀ j,BE sG j→BE vb j∨W.sz≤j:=by
 have h1:=c1.sz
 refine ⟨c1.then c2 fun j hj hS=>?_,fun j hj=>?_⟩
 ·rcases hS with h | h
  ·exact .inl h
  ·rcases n1 j h with h | h
   ·exact .inr h
   ·omega
 ·rcases n2 j hj with h | h
  ·exact n1 j h
  ·exact .inr (by omega)
theorem iI {W:CW} (ht:Aq W) {wb:Nat} {rest:List Value} {vb:Value} {bs:List Int} (hb:J6 W wb rest vb bs) {n:Int} (hl:bs.length<900000) {K:Value→CW→Value→CW→CW→Prop}
  (hk:∀ u Wa v1 W1 W2,DF (iH wb vb) W W2→Aq W2→J6 W2 wb rest v1 (bs++[n])→(∀ j,BE v1 j→BE vb j∨W.sz≤j)→K u Wa v1 W1 W2) :
  CZ (Vs prog 29 1 [(0,.int .u8 n)] W) fun u Wa=>CZ (app prog [29,29] vb u Wa) fun v1 W1=>wV (B5 prog 29 (.pointer (some ⟨wb,0,none⟩)) v1 W1) fun W2=>K u Wa v1 W1 W2:=by
 refine Mf eR s5 z5 rfl (by omega) by5 (by omega) (tO _) rfl rfl ht hb.own (by rw [Ie]; omega) fun u Wa v1 W1 ka ta LL t1 o1 n1=>?_; have EB:=Uk hb.own hb.b (by decide); have WK:=LL.YX ht hb.b EB; refine Am (vs:=vb::rest) s29 (a:=⟨wb,0,none⟩) (Nt o1) WK (by simp) fun W2 hu NB=>?_; have hu:Da wb W1 W2:=hu; have NB:BF W2 wb 97 (v1::rest):=by simpa [putAt] using NB
 have Vb:B9 W.sz v1:=n1 _ (Nat.le_refl _); have ZG:=hb.b.lt ht; have Ye:=LL.sz
 refine hk _ _ _ _ W2 ⟨by rw [hu.sz]; omega,fun j hj hS=>?_⟩ (t1.Az (by omega) hu) ⟨NB,?_⟩ fun j hj=>.inr (Vb.in hj)
 ·rw [hu.obj j fun e=>hS (.inl e)]; exact LL.Gy.obj j hj fun h=>hS (.inr h)
 ·rw [Us]; exact GQ o1 hu fun b l c e=>by have:=Vb b l c e; omega
theorem EA {fn:Func} (hr:fn.results.toList=[]) (Q:Ending→CW→Prop) (x:Exit) (hx:x=.normal∨x=.ret) (e:Env) (W:CW) (h:Q (.returned (.tuple #[])) W):AI prog fn Q x e [] W:=by
 rcases hx with rfl | rfl <;> simp only [AI,EW,hr,LA] <;> exact h
theorem TK {wb:Nat} {rest:List Value} {vb:Value} {bs:List Int} {n:Nat} {W:CW} (ht:Aq W) (hb:J6 W wb rest vb bs) (hn:n<100000000000000) (hl:bs.length<800000) :
  AD prog AM 55 [.pointer (some ⟨wb,0,none⟩),.int .i64 n] W (L9 wb rest vb (bs++B7 n) W):=by
 refine AB6 ?_; rw [AB5]
 refine Dh (fun k e ds W'=>ds=[]∧∃ (m:Nat) (pre:List Int) (IA:Value),k=m∧m≤n∧e 0=.pointer (some ⟨wb,0,none⟩)∧e 1=.int .i64 m∧DF (iH wb vb) W W'∧Aq W'∧J6 W' wb rest IA (bs++pre)∧(∀ j,BE IA j→BE vb j∨W.sz≤j)∧pre++B7 m=B7 n) n
  ⟨rfl,n,[],vb,rfl,Nat.le_refl _,rfl,rfl,.refl _ _,ht,by simpa using hb,fun j hj=>.inl hj,rfl⟩ ?_
 rintro k e ds W' ⟨rfl,m,pre,IA,rfl,hmn,h0,h1,HU,t',Y',Zm,Bg⟩; have lD:(pre++B7 k).length≤8:=by rw [Bg]; exact Dl hn
 rw [List.length_append] at lD; rw [yD,h0,h1]; simp only [DL,AA]
 refine AN (fun hg=>?_) (fun hg=>?_)
 ·have hg:¬k<128:=by have:=of_decide_eq_true hg; omega
  have hnk:B7 k=((k % 128+128:Nat):Int)::B7 (k / 128):=by rw [B7,if_neg hg]
  rw [nH _ _ _ (by omega)]; have e1:(k:Int).tmod 128=((k % 128:Nat):Int):=by rw [Int.tmod_eq_emod_of_nonneg (by omega)]; omega
  rw [e1]; simp only [Bz,TJ,AA,Y'.ld,Ae]; rw [wrap64 (by omega) (by omega),tP,nL (by omega) (by omega)]; simp only [AA]; refine iI t' Y' (by rw [List.length_append]; omega) fun u Wa v1 W1 W2 c2 t2 NB n2=>?_; simp only [nz,Bi,Wg]; simp only [AW,Aa,Nat.reduceEqDiff,↓reduceIte,h1]; rw [jv k (by omega)]; simp only [AA]; obtain ⟨c3,n3⟩:=N1 (rest:=rest) (bs:=bs) HU Zm c2 n2
  refine ⟨k / 128,by omega,trivial,k / 128,pre++[((k % 128+128:Nat):Int)],v1,rfl,by omega,?_,?_,c3,t2,?_,n3,?_⟩
  ·simp only [h0]
  ·rfl
  ·rw [←List.append_assoc]; simpa using NB
  ·rw [List.append_assoc,List.singleton_append,←hnk,Bg]
 ·have hg:k<128:=by have:=of_decide_eq_false hg; omega
  have hnk:B7 k=[(k:Int)]:=by rw [B7,if_pos hg]
  simp only [Bi,Rr,JB,Wh,if_true,ny]; simp only [AW,Aa,Nat.reduceEqDiff,↓reduceIte,h0,h1]; simp only [Bz,TJ,AA,Y'.ld]; rw [tP,nL (by omega) (by omega)]; simp only [AA]; refine iI t' Y' (by rw [List.length_append]; omega) fun u Wa v1 W1 W2 c2 t2 NB n2=>?_; obtain ⟨c3,n3⟩:=N1 (rest:=rest) (bs:=bs) HU Zm c2 n2; refine EA (by kernel_rfl) _ _ (.inl rfl) _ _ ⟨⟨_,rfl⟩,c3,t2,v1,?_,n3⟩; rw [←Bg,hnk,←List.append_assoc]; exact NB
theorem yR:HA prog 9=true:=by kernel_rfl
theorem Yp (s:ByteArray):C0 ((sb s).take s.size)=Bk (Hr s):=by
 rw [List.take_of_length_le (by rw [Md]; exact Nat.le_refl _)]; unfold C0 Bk Hr; rw [List.map_map]; rfl
theorem oG {wb:Nat} {rest:List Value} {vb:Value} {bs:List Int} {s:ByteArray} {W:CW} (ht:Aq W) (hb:J6 W wb rest vb bs) (SV:0<s.size) (hs:s.size<1000) (hl:bs.length<700000) :
  AD prog AM 57 [.pointer (some ⟨wb,0,none⟩),.string s] W (L9 wb rest vb (bs++GP s) W):=by
 refine AB' ?_; rw [AB9,Lz u9]; simp only [AA]; refine (TK (n:=s.size) ht hb (by omega) (by omega)).mono fun en W1 ⟨⟨v,he⟩,c1,t1,lW,WK,n1⟩=>?_; subst he; simp only [AQ,Bz,TJ,AA,WK.ld]; have h8:=Dl (n:=s.size) (by omega); have eY:(Hr s).length=s.size:=by unfold Hr; rw [List.length_map,Md]
 refine hY (x:=.string s) (m:=s.size) (news:=Bk (Hr s)) eR yR s5 z5 rfl (by omega) by5 (by omega) t1 WK.own rfl SV ?_ (ed _) (by rw [Ie,eY]; omega) (by rw [Ie,List.length_append]; omega) fun W2 len hg hlen hB=>?_
 ·show cond (Nat.beq 1 1) (some (C0 ((sb s).take s.size))) none=_; rw [Yp]; rfl
 ·have EB:=Uk WK.own WK.b (by decide); have AER:=WK.b.lt t1; have NB:BF W2 wb 97 (lW::rest):=WK.b.congr (hg.obj wb AER fun b l c e=>(EB b l c e).symm); refine Am (vs:=lW::rest) s29 (a:=⟨wb,0,none⟩) rfl NB (by simp) fun W3 hu jl=>?_; have hu:Da wb W2 W3:=hu; have jl:BF W3 wb 97 (.slice (some ⟨W1.sz,0,none⟩) len len::rest):=by simpa [putAt] using jl
  have HD:=hg.sz; have yO:=WK.b.lt t1
  have o3:C8 W3 5 1 (.slice (some ⟨W1.sz,0,none⟩) len len) (Bk (bs++GP s)):=by
   have:Bk (bs++GP s)=Bk (bs++B7 s.size)++Bk (Hr s):=by
    unfold GP; rw [←List.append_assoc,Us]
   rw [this]; exact C8.some (hB.congr (hu.obj _ (by omega))) hlen
  have c2:DF (iH wb lW) W1 W3:=⟨by rw [hu.sz]; omega,fun j hj hS=>by
   rw [hu.obj j fun e=>hS (.inl e)]
   exact hg.obj j hj fun b l c e hbj=>hS (.inr ⟨b,l,c,e,hbj.symm⟩)⟩
  obtain ⟨c3,n3⟩:=N1 (sG:=.slice (some ⟨W1.sz,0,none⟩) len len) (rest:=rest) (bs:=bs) c1 n1 c2 (fun j hj=>.inr (by obtain ⟨b,l,c,e,rfl⟩:=hj; cases e; exact Nat.le_refl _)); refine EA (by kernel_rfl) _ _ (.inl rfl) _ _ ⟨⟨_,rfl⟩,c3,?_,_,⟨jl,o3⟩,n3⟩; exact (hg.top t1).Az (by omega) hu
theorem oH {wb:Nat} {rest:List Value} {vb:Value} {bs:List Int} {n:Int} {W:CW} (ht:Aq W) (hb:J6 W wb rest vb bs) (h1:-4000000000000≤n) (h2:n≤4000000000000) (hl:bs.length<700000) :
  AD prog AM 106 [.pointer (some ⟨wb,0,none⟩),.int .i64 n] W (L9 wb rest vb (bs++B7 (J1 n).toNat) W):=by
 refine yK ?_; rw [yJ]; simp only [Ax,AA]
 have fin:∀ (z:Nat),J1 n=(z:Int)→AD prog AM 55 [.pointer (some ⟨wb,0,none⟩),.int .i64 z] W (L9 wb rest vb (bs++B7 (J1 n).toNat) W):=fun z hz=>by
  rw [hz,Int.toNat_natCast]; refine TK ht hb ?_ (by omega); unfold J1 at hz; split at hz <;> omega
 refine AN (fun h=>?_) (fun h=>?_)
 ·have h:n<0:=of_decide_eq_true h; simp only [Bz,H_,AA,Jv,Ak]; rw [wrap64 (x:=-2*n) (by omega) (by omega),wrap64 (x:=-2*n-1) (by omega) (by omega)]; obtain ⟨z,hz⟩:∃ z:Nat,-2*n-1=(z:Int):=⟨(-2*n-1).toNat,by omega⟩
  rw [hz]; refine (fin z (by unfold J1; rw [if_pos h,hz])).mono fun en W1 hp=>?_; obtain ⟨v,rfl⟩:=hp.1; simp only [AQ]; exact EA (by kernel_rfl) _ _ (.inl rfl) _ _ ⟨⟨_,rfl⟩,hp.2⟩
 ·have h:¬n<0:=of_decide_eq_false h; simp only [Bz,H_,AA,Jv]; rw [wrap64 (x:=2*n) (by omega) (by omega)]; obtain ⟨z,hz⟩:∃ z:Nat,2*n=(z:Int):=⟨(2*n).toNat,by omega⟩
  rw [hz]; refine (fin z (by unfold J1; rw [if_neg h,hz])).mono fun en W1 hp=>?_; obtain ⟨v,rfl⟩:=hp.1; simp only [AQ]; exact EA (by kernel_rfl) _ _ (.inl rfl) _ _ ⟨⟨_,rfl⟩,hp.2⟩
theorem pj:agg? prog 89=some false:=by kernel_rfl
theorem sH {wb bw rp:Nat} {rest:List Value} {vb vo:Value} {bs o:List Int} {n:Int} {W:CW} (ht:Aq W) (hb:J6 W wb (.pointer (some ⟨bw,0,none⟩)::rest) vb bs) (hw:LN W bw rp vo o) (im:o.length<100000) (hl:bs.length<700000) :
  AD prog AM 107 [.pointer (some ⟨wb,0,none⟩),.int .i64 n] W (L9 wb (.pointer (some ⟨bw,0,none⟩)::rest) vb (bs++B7 (placeOf o n).toNat) W):=by
 refine yM ?_; rw [yL]; have q1:ld prog 89 (.pointer (some ⟨wb,0+1,none⟩)) W=some (.pointer (some ⟨bw,0,none⟩)):=AF pj (a:=⟨wb,0+1,none⟩) (hb.b.cell rfl); have q2:ld prog 98 (.pointer (some ⟨bw,0+1,none⟩)) W=some (.map (some rp)):=AF a98 (a:=⟨bw,0+1,none⟩) (hw.w.cell rfl); have hp:=Nw o n; obtain ⟨z,hz⟩:∃ z:Nat,placeOf o n=(z:Int):=⟨(placeOf o n).toNat,by omega⟩
 simp only [Bz,H_,Yo,AA,q1,L8,q2,hw.p.look]; rw [hz,Int.toNat_natCast]; refine (TK (n:=z) ht hb (by omega) (by omega)).mono fun en W1 hpp=>?_; obtain ⟨v,rfl⟩:=hpp.1; simp only [AQ]; refine ⟨by simp only [and_self],trivial,?_⟩; exact EA (by kernel_rfl) _ _ (.inl rfl) _ _ ⟨⟨_,rfl⟩,hpp.2⟩
end Go.Ce
namespace Go.Ce
open Go Go.Proofs Go.Proofs.Tryz
theorem U9 {v:Value} {l:List ByteArray} {s:ByteArray} {W:CW} (hc:A3 1 (AA6 W) v l) (hlen:l.length<1000000):AD prog AM 61 [v,.string s] W (Gk (.int .i64 (IY l fun x=>decide (x=s))) W):=by
 refine ACG ?_; rw [ACF]; obtain ⟨a,cap,rfl,BP⟩:=hc; simp only [At zu,AA]; refine FT (fun i e ds W'=>W'=W∧ds=[]∧e 0=.slice a l.length cap∧e 1=.string s∧e 7=.int .i64 l.length∧e 8=.int .i64 i∧∀ j x,j<i→l[j]?=some x→decide (x=s)=false) l.length ⟨rfl,rfl,rfl,rfl,rfl,rfl,by omega⟩ ?_; rintro i e ds W' hi ⟨rfl,rfl,h0,h1,h7,h8,Bg⟩; rw [yI,h0,h1,h7,h8]; simp only [Ax,AA]
 refine It (fun A0=>?_) (fun Mx=>?_)
 ·have hx:=List.getElem?_eq_getElem A0; obtain ⟨p,rfl,hp⟩:=BP i _ hx; rw [BM zu s9 A0]; simp only [AA]; rw [AF a9 (a:=⟨p.block,p.off+i*1,none⟩) hp]; simp only [AA,MY,MZ]
  refine AN (fun hq=>?_) (fun hq=>?_)
  ·have hq:s=l[i]:=by simpa using hq
   simp only [Yn,LC,PV,Kv,Wm,fX,XD]; refine ⟨?_,rfl⟩; simp only [AW,↓reduceIte]; rw [Jw A0 (by simp [hq]) Bg]
  ·have hq:¬s=l[i]:=by simpa using hq
   simp only [Yn,Bi,Kv]; simp only [AW,Aa,Nat.reduceEqDiff,↓reduceIte,h0,h1,h7,h8,Ae,AA]; refine ⟨A0,trivial,trivial,trivial,trivial,trivial,by rw [FU (by omega)],fun j x hj QN=>?_⟩
   rcases Nat.lt_succ_iff_lt_or_eq.1 hj with h2 | rfl
   ·exact Bg j x h2 QN
   ·rw [hx] at QN; cases QN; exact decide_eq_false fun e=>hq e.symm
 ·simp only [Bi,Rr,JB,Uj,if_true,fX,XD]; refine ⟨?_,rfl⟩; simp only [AW,↓reduceIte]; rw [Jx fun j x hj hx=>Bg j x (by omega) hx]
theorem V3 {v:Value} {l:List ByteArray} {s:ByteArray} {W:CW} (hc:A3 1 (AA6 W) v l) (hlen:l.length<1000000):AD prog AM 54 [v,.string s] W (Gk (.bool (l.any fun x=>decide (x=s))) W):=by
 refine AB4 ?_; rw [AB3]; refine BA (U9 hc hlen) ?_; simp only [DL,AA,js]; refine ⟨?_,rfl⟩; simp only [AW,↓reduceIte]; congr 2
 cases h:l.any fun x=>decide (x=s) with
 | false=>exact decide_eq_false (by have:=aZ.2 h; omega)
 | true =>
  refine decide_eq_true ?_; have:¬IY l (fun x=>decide (x=s))<0:=fun hn=>by rw [aZ.1 hn] at h; cases h
  omega
structure V4 where
 A:CW
 (bk br bh lX IB bd wb bw rp r1 r2 w r:Nat)
 (vt vo:Value)
 bdt:TypeId
 dvs:List Value
 c:List Aj
 l:List Br
 h:List BN
 o:List Int
 ts:List ByteArray
def V4.rest (p:V4):List Value:=[.pointer (some ⟨p.bw,0,none⟩),.map (some p.r1),.map (some p.r2)]
structure DS (p:V4) (W:CW) (vb:Value) (bs:List Int):Prop where
 kp:Kp p.A W
 top:Aq W
 tA:Aq p.A
 d:U8 p.A p.bk p.br p.bh p.r1 p.r2 p.w p.r p.c p.l p.h
 wk:LN W p.bw p.rp p.vo p.o
 wv:BF W p.lX 88 [.pointer (some ⟨p.wb,0,none⟩)]
 ty:BF W p.IB 51 [p.vt]
 sI:C8 W 9 1 p.vt (strs p.ts)
 dv:BF W p.bd p.bdt p.dvs
 dvn:p.bdt≠97∧p.bdt≠5
 buf:J6 W p.wb p.rest vb bs
 ge:p.A.sz≤p.wb∧∀ j,BE vb j→p.A.sz≤j
def V4.Has (p:V4) (vb:Value) (i:Nat):Prop:=i=p.bw∨i=p.rp∨BE p.vo i∨i=p.lX∨i=p.IB∨BE p.vt i∨i=p.bd∨i=p.wb∨BE vb i
theorem O9 {W W':CW} {el n:Nat} {v:Value} {cs:List Value} (h:C8 W el n v cs) (ho:∀ i,BE v i→W'.obj i=W.obj i):C8 W' el n v cs:=by
 cases h with
 | nil=>exact C8.nil
 | some hB hl=>exact C8.some (hB.congr (ho _ ⟨_,_,_,rfl,rfl⟩)) hl
theorem DS.of {p:V4} {W W':CW} {vb:Value} {bs:List Int} (h:DS p W vb bs) (hk:Kp p.A W') (ht:Aq W') (ho:∀ i,p.Has vb i→W'.obj i=W.obj i):DS p W' vb bs :=
 ⟨hk,ht,h.tA,h.d,⟨h.wk.w.congr (ho _ (.inl rfl)),O9 h.wk.own fun i hi=>ho i (.inr (.inr (.inl hi))),h.wk.p.congr (ho _ (.inr (.inl rfl)))⟩,h.wv.congr (ho _ (.inr (.inr (.inr (.inl rfl))))),h.ty.congr (ho _ (.inr (.inr (.inr (.inr (.inl rfl)))))),O9 h.sI fun i hi=>ho i (.inr (.inr (.inr (.inr (.inr (.inl hi)))))),h.dv.congr (ho _ (.inr (.inr (.inr (.inr (.inr (.inr (.inl rfl)))))))),h.dvn,⟨h.buf.b.congr (ho _ (.inr (.inr (.inr (.inr (.inr (.inr (.inr (.inl rfl))))))))),O9 h.buf.own fun i hi=>ho i (.inr (.inr (.inr (.inr (.inr (.inr (.inr (.inr hi)))))))) ⟩,h.ge⟩
theorem DS.lt {p:V4} {W:CW} {vb:Value} {bs:List Int} (h:DS p W vb bs):∀ i,p.Has vb i→i<W.sz:=by
 intro i hi
 rcases hi with rfl | rfl | hi | rfl | rfl | hi | rfl | rfl | hi
 ·exact h.wk.w.lt h.top
 ·exact h.wk.p.lt h.top
 ·exact Ul h.top h.wk.own hi
 ·exact h.wv.lt h.top
 ·exact h.ty.lt h.top
 ·exact Ul h.top h.sI hi
 ·exact h.dv.lt h.top
 ·exact h.buf.b.lt h.top
 ·exact Ul h.top h.buf.own hi
theorem DS.cT {p:V4} {W W':CW} {vb:Value} {bs:List Int} (h:DS p W vb bs) (k:Kp W W') (ht:Aq W'):DS p W' vb bs:=h.of (h.kp.trans k) ht fun i hi=>k.obj i (h.lt i hi)
theorem GY {W:CW} {b:Nat} {e1 e2:TypeId} {v1 v2:List Value} (h1:BF W b e1 v1) (h2:BF W b e2 v2):e1=e2:=by
 obtain ⟨c,n,z,h,_⟩:=h1; obtain ⟨c',n',z',h',_⟩:=h2; rw [h] at h'; cases h'; rfl
theorem ER {W:CW} {el n:Nat} {v:Value} {cs:List Value} (h:C8 W el n v cs) {j:Nat} (hj:BE v j):BF W j el cs:=by
 obtain ⟨b,l,c,e,rfl⟩:=hj
 cases h with
 | nil=>cases e
 | some hB hl=>cases e; exact hB
theorem L_ {p:V4} {W:CW} {vb:Value} {bs:List Int} (h:DS p W vb bs) {i:Nat} {el:TypeId} {vs:List Value} (hB:BF W i el vs) (h1:el≠97) (h2:el≠5):¬iH p.wb vb i:=by
 rintro (rfl | hi)
 ·exact h1 (GY hB h.buf.b)
 ·exact h2 (GY hB (ER h.buf.own hi))
theorem DS.emit {p:V4} {W W':CW} {vb IA:Value} {bs XF:List Int} (h:DS p W vb bs) (hc:DF (iH p.wb vb) W W') (ht:Aq W') (hb:J6 W' p.wb p.rest IA XF) (hn:∀ j,BE IA j→BE vb j∨W.sz≤j):DS p W' IA XF:=by
 have lT:¬iH p.wb vb p.rp:=by
  rintro (e | hi)
  ·exact (h.wk.p.ne h.buf.b) e.symm
  ·exact (h.wk.p.ne (ER h.buf.own hi)) rfl
 have HD:=h.kp.sz
 refine ⟨DF.kp h.kp hc fun j hj=>?_,ht,h.tA,h.d,⟨hc.YX h.top (L_ h h.wk.w (by decide) (by decide)) h.wk.w,hc.own h.top h.wk.own fun j hj=>L_ h (ER h.wk.own hj) (by decide) (by decide),h.wk.p.congr (hc.obj _ (h.wk.p.lt h.top) lT)⟩,hc.YX h.top (L_ h h.wv (by decide) (by decide)) h.wv,hc.YX h.top (L_ h h.ty (by decide) (by decide)) h.ty,hc.own h.top h.sI fun j hj=>L_ h (ER h.sI hj) (by decide) (by decide),hc.YX h.top (L_ h h.dv h.dvn.1 h.dvn.2) h.dv,h.dvn,hb,h.ge.1,fun j hj=>?_⟩
 ·rcases hj with rfl | hj
  ·exact h.ge.1
  ·exact h.ge.2 j hj
 ·rcases hn j hj with h1 | h1
  ·exact h.ge.2 j h1
  ·omega
theorem U' {p:V4} {W W':CW} {vb:Value} {bs:List Int} (h:DS p W vb bs) (hc:DF (iH p.wb vb) W W') {b k:Nat} {n:Int} (BP:W.cell b k=some (.int .i64 n)):W'.cell b k=some (.int .i64 n):=by
 refine hc.cell h.top ?_ BP
 rintro (rfl | hi)
 ·have:=h.buf.b.Ih BP; unfold V4.rest at this
  match k,this with
  | 0,this =>
   have hv:=Option.some.inj this; have ho:=h.buf.own; rw [hv] at ho
   cases ho
  | 1,this=>cases this
  | 2,this=>cases this
  | 3,this=>cases this
 ·have:=(ER h.buf.own hi).Ih BP; unfold Bk at this; rw [List.getElem?_map] at this
  cases hx:bs[k]? with
  | none=>rw [hx] at this; cases this
  | some x=>rw [hx] at this; cases this
def O' (p:V4) (bs:List Int):Ending→CW→Prop:=fun e W'=>(∃ v,e=.returned v)∧∃ IA,DS p W' IA bs
theorem DS.num {p:V4} {W:CW} {vb:Value} {bs:List Int} (h:DS p W vb bs) {n:Nat} (hn:n<100000000000000) (hl:bs.length<700000):AD prog AM 55 [.pointer (some ⟨p.wb,0,none⟩),.int .i64 n] W fun e W'=>(∃ v,e=.returned v)∧DF (iH p.wb vb) W W'∧∃ IA,DS p W' IA (bs++B7 n)∧∀ j,BE IA j→BE vb j∨W.sz≤j :=
 (TK h.top h.buf hn (by omega)).mono fun en W1 ⟨hv,c,t,IA,hb,hn⟩=>⟨hv,c,IA,h.emit c t hb hn,hn⟩
theorem oI {p:V4} {W:CW} {vb:Value} {bs:List Int} (h:DS p W vb bs) (HD:∀ s,s ∈ p.ts→0<s.size∧s.size<1000) (Uo:p.ts.length≤100) (eY:bs.length≤100) :
  AD prog AM 56 [.pointer (some ⟨p.wb,0,none⟩),p.vt,.func (.func 57) #[.pointer (some ⟨p.wb,0,none⟩)] #[]] W (O' p (bs++B7 p.ts.length++p.ts.flatMap GP)):=by
 refine AB8 ?_; rw [AB7]; have ACK:(strs p.ts).length=p.ts.length*1:=by rw [aY]; omega
 rw [JX zu h.sI (by omega) ACK]; simp only [AA]; refine (h.num (n:=p.ts.length) (by omega) (by omega)).mono fun en W1 ⟨⟨v,he⟩,_,lW,h1,_⟩=>?_; subst he; simp only [AQ]; rw [JX zu h1.sI (by omega) ACK]; simp only [AA]; have h8:=Dl (n:=p.ts.length) (by omega); refine FT (fun i e ds W'=>ds=[]∧∃ IA,DS p W' IA (bs++B7 p.ts.length++(p.ts.take i).flatMap GP)∧e 2=.func (.func 57) #[.pointer (some ⟨p.wb,0,none⟩)] #[]∧e 12=p.vt∧e 13=.int .i64 p.ts.length∧e 14=.int .i64 i) p.ts.length ⟨rfl,lW,by simpa using h1,rfl,rfl,rfl,rfl⟩ ?_; rintro i e ds W' hi ⟨rfl,IA,h',g2,sJ,g13,g14⟩; rw [yE,g2,sJ,g13,g14]; simp only [Ax,AA]
 refine It (fun A0=>?_) (fun Mx=>?_)
 ·have hx:=List.getElem?_eq_getElem A0; obtain ⟨a,cap,hvt,hc⟩:=Hs (f:=fun s=>Value.string s) h'.sI; obtain ⟨q,rfl,hq⟩:=hc i _ hx; rw [hvt,BM zu s9 A0]; simp only [AA]; rw [AF a9 (a:=⟨q.block,q.off+i*1,none⟩) hq]; simp only [AA]; obtain ⟨SV,SW⟩:=HD _ (List.getElem_mem A0); have jD:=QS (p.ts.take i) fun s hs=>(HD s (List.mem_of_mem_take hs)).2; have pg:(p.ts.take i).length*1008≤100*1008:=Nat.mul_le_mul_right _ (by rw [List.length_take]; omega); refine H8 Tryz.func57 (by kernel_rfl) ((oG h'.top h'.buf SV SW (by rw [List.length_append,List.length_append]; omega)).mono fun en W2 ⟨⟨v,he⟩,c2,t2,sG,NB,cy⟩=>?_); subst he; simp only [AQ,fV,Bi,Kv]; simp only [AW,Aa,Nat.reduceEqDiff,↓reduceIte,g14,Ae,AA]; refine ⟨A0,trivial,sG,?_,g2,sJ.trans (by rw [hvt]) ,g13,by rw [FU (by omega)]⟩; have:=h'.emit c2 t2 NB cy; rw [List.take_add_one,hx,List.flatMap_append,←List.append_assoc]
  simpa using this
 ·have ZI:p.ts.take i=p.ts:=List.take_of_length_le (by omega); rw [ZI] at h'; simp only [JB,Uj,if_true]; exact EA (by kernel_rfl) _ _ (.inl rfl) _ _ ⟨⟨_,rfl⟩,IA,h'⟩
theorem bQ:Tryz.f58.results.toList=[.cell 0 108]:=by kernel_rfl
theorem yS:Db prog 108=some 3:=by kernel_rfl
theorem AES:agg? prog 108=some true:=by kernel_rfl
theorem ACL:Gp prog 108=some (.agg #[.nilFunc,.nilFunc,.nilFunc]):=by kernel_rfl
theorem yT:Sh prog 108 [(1,(.func (.func 106) #[] #[])),(2,(.func (.func 107) #[] #[]))]=some (.agg [.nilFunc,.func (.func 106) #[] #[],.func (.func 107) #[] #[]].toArray):=by kernel_rfl
theorem jw {W:CW} (ht:Aq W):AD prog AM 58 [] W (tN (.agg [.nilFunc,.func (.func 106) #[] #[],.func (.func 107) #[] #[]].toArray) W):=by
 refine ACA ?_; rw [AB_,yT]; simp only [AA]; refine D' ACL yS rfl rfl rfl ht fun W1 k1 t1 z1 hB=>?_; refine Nu bQ rfl (Ba (vs:=[.nilFunc,.func (.func 106) #[] #[],.func (.func 107) #[] #[]]) (a:=⟨W.sz,0,none⟩) AES yS rfl (by omega) hB.cells) ?_; exact ⟨rfl,k1,t1⟩
end Go.Ce
namespace Go.Ce
open Go Go.Proofs Go.Proofs.Tryz
theorem oJ (b:Nat):Bm prog 108 (.pointer (some ⟨b,0,none⟩)) (.int .u8 1)=some (.pointer (some ⟨b,1,none⟩)):=by kernel_rfl
theorem oK (b:Nat):Bm prog 108 (.pointer (some ⟨b,0,none⟩)) (.int .u8 2)=some (.pointer (some ⟨b,2,none⟩)):=by kernel_rfl
theorem ACN:agg? prog 107=some false:=by kernel_rfl
theorem a88:agg? prog 88=some false:=by kernel_rfl
theorem a51:agg? prog 51=some false:=by kernel_rfl
theorem G1 {W W0:CW} {n:Nat} {z:Array Value} {e:TypeId} (h:W0.obj W.sz=some (.cells .nil n z e)) (hz:CN (some (.cells .nil n z e)) (some (.cells .nil n z e))=true):H3 (.pointer (some ⟨W.sz,0,none⟩)) ((W.new (.cells .nil n z e)).obj W.sz) W0=true:=by
 show CN (W0.obj W.sz) ((W.new (.cells .nil n z e)).obj W.sz)=true; rw [h,BK,if_pos rfl]; exact hz
theorem jx {p:V4} {W:CW} {vb:Value} {bs:List Int} {n:Int} (h:DS p W vb bs) (hC:SG p.c) (Ai:BV p.c=true) (hs:BI p.c p.l=true) (HQ:∀ x,x ∈ p.h→A4 p.c x p.h.length=true) (VU:∀ s,s ∈ p.l→s.map.length<100000) (pe:p.h.length<100000) (im:p.o.length<100000) (Uo:p.ts.length<100000) {i:Nat} (hn:n=((i+1:Nat):Int)) (Ge:i<p.h.length)
  (Rv:p.ts.any (fun u=>decide (u=(AO p.l p.h[i]).type))=true) (eY:bs.length≤500000) (hdv:p.dvs=[.nilFunc,.func (.func 106) #[] #[],.func (.func 107) #[] #[]]) :
  AD prog AM 60 [.int .i64 n,.pointer (some ⟨p.br,0,none⟩),.pointer (some ⟨p.bh,0,none⟩),.pointer (some ⟨p.lX,0,none⟩),.pointer (some ⟨p.IB,0,none⟩),.pointer (some ⟨p.bk,0,none⟩),.pointer (some ⟨p.bd,0,none⟩)] W (O' p (bs++FD p.c p.ts p.o (AO p.l p.h[i]))):=by
 subst hn; refine ACE ?_; rw [ACD]; have kn:Kp W (W.new (.cells .nil 2 #[.string ⟨#[]⟩,.slice none 0 0] 56)):=.new _; have tn:=h.top.new (.cells .nil 2 #[.string ⟨#[]⟩,.slice none 0 0] 56); have LU:(W.new (.cells .nil 2 #[.string ⟨#[]⟩,.slice none 0 0] 56)).obj W.sz=some (.cells .nil 2 #[.string ⟨#[]⟩,.slice none 0 0] 56):=by rw [BK,if_pos rfl]
 have tf:BF (W.new (.cells .nil 2 #[.string ⟨#[]⟩,.slice none 0 0] 56)) W.sz 56 [.string ⟨#[]⟩,.slice none 0 0]:=⟨.nil,2,_,LU,rfl,fun k v hk=>by
  match k,hk with
  | 0,hk=>cases hk; rfl
  | 1,hk=>cases hk; rfl⟩
 have yU:(W.new (.cells .nil 2 #[.string ⟨#[]⟩,.slice none 0 0] 56)).sz=W.sz+1:=rfl; have P7:∀ W0:CW,W0.obj W.sz=some (.cells .nil 2 #[.string ⟨#[]⟩,.slice none 0 0] 56)→H3 (.pointer (some ⟨W.sz,0,none⟩)) ((W.new (.cells .nil 2 #[.string ⟨#[]⟩,.slice none 0 0] 56)).obj W.sz) W0=true:=fun W0 h0=>G1 h0 rfl; have Zm:=h.cT kn tn; generalize hWn:W.new (.cells .nil 2 #[.string ⟨#[]⟩,.slice none 0 0] 56)=Wn at kn tn LU tf yU P7 Zm ⊢; have D:=Zm.d.kp h.tA Zm.kp; obtain ⟨vh,hbh,hh⟩:=D.hs; have hx:=List.getElem?_eq_getElem Ge; obtain ⟨ah,ch,rfl,oF⟩:=id hh; obtain ⟨q,rfl,hq⟩:=oF i _ hx; have l83:ld prog 83 (.pointer (some ⟨p.br,0,none⟩)) Wn=some (.agg [.map (some p.w),.map (some p.r)].toArray):=Ba (vs:=[.map (some p.w),.map (some p.r)]) (a:=⟨p.br,0,none⟩) a83 rr rfl (by omega) D.rl; have ju:ld prog 24 (.pointer (some ⟨p.bh,0,none⟩)) Wn=some (.slice (some q) p.h.length ch):=AF yA (a:=⟨p.bh,0,none⟩) hbh; obtain ⟨vx,hu,U4,ACJ⟩:=ec tn (.refl _) hq; rw [l83,ju]; simp only [AA,Ak]; rw [show ((i+1:Nat):Int)-1=(i:Nat) by omega,wrap64 (by omega) (by omega),BM WC Ma Ge]; simp only [AA,hu]; have ACO:=HQ _ (List.getElem_mem Ge); refine (oC (r:=p.r) tn D.sp U4 (L4 hs ACO) VU).mono fun en W0 ⟨k0,t0,vv,FG,Xg,pS⟩=>?_; subst FG; simp only [AQ]; have hyt:=CJ hs ACO; obtain ⟨iy,sy,Y⟩:=Bt hyt; generalize hy:AO p.l p.h[i]=y at Xg hyt Y Rv ⊢; obtain ⟨av,cv,rfl,_⟩:=id Xg; have AET:W.sz<Wn.sz:=by omega
 have Vz:=tf.ext tn k0; refine ⟨trivial,?_⟩; refine Dj Ma (a:=⟨W.sz,0,none⟩) (ws:=[.string y.type,.slice av y.AL.length cv]) rfl rfl Vz (by simp) fun W2 H4 HN=>?_; have H4:Da W.sz W0 W2:=H4; have HN:BF W2 W.sz 56 [.string y.type,.slice av y.AL.length cv]:=HN; refine ⟨by simp only [and_self],⟨⟨trivial,P7 W0 (by rw [k0.obj _ AET]; exact LU),P7 Wn LU⟩,trivial⟩,?_⟩; have hpA:=h.kp.sz; have A0:=h.lt; have AEU:=Vz.lt t0; have E2:DS p W2 vb bs:=(Zm.cT k0 t0).of ((Zm.kp.trans k0).Az hpA H4) (t0.Az AEU H4) fun i hi=>H4.obj i (by have:=A0 i hi; omega)
 have ZA:A3 1 (DW W2) (.slice av y.AL.length cv) y.AL:=Xg.imp fun b o x hr=>⟨by
  by_cases hb:b=W.sz
  ·subst hb; have:=Vz.Ih hr.1
   match o,this with
   | 0,this=>cases this
   | 1,this=>cases this
  ·rw [H4.cell hb]; exact hr.1,hr.2⟩
 have hkW:∀ i,p.Has vb i→i<W.sz:=A0; clear Xg Vz P7 pS tf LU; have pk:∀ W' IA XF,DS p W' IA XF→ld prog 88 (.pointer (some ⟨p.lX,0,none⟩)) W'=some (.pointer (some ⟨p.wb,0,none⟩)):=fun W' IA XF E=>AF a88 (a:=⟨p.lX,0,none⟩) (E.wv.cell rfl); have q51:∀ W' IA XF,DS p W' IA XF→ld prog 51 (.pointer (some ⟨p.IB,0,none⟩)) W'=some p.vt:=fun W' IA XF E=>AF a51 (a:=⟨p.IB,0,none⟩) (E.ty.cell rfl); have q9:∀ W',BF W' W.sz 56 [.string y.type,.slice av y.AL.length cv]→ld prog 9 (.pointer (some ⟨W.sz,0,none⟩)) W'=some (.string y.type):=fun W' hB=>AF a9 (a:=⟨W.sz,0,none⟩) (hB.cell rfl); have q40:∀ W',BF W' W.sz 56 [.string y.type,.slice av y.AL.length cv]→ld prog 40 (.pointer (some ⟨W.sz,0+1,none⟩)) W'=some (.slice av y.AL.length cv):=fun W' hB=>AF Nr (a:=⟨W.sz,0+1,none⟩) (hB.cell rfl); simp only [pk W2 _ _ E2,q51 W2 _ _ E2,Bz,H_,H9,AA,q9 W2 HN]; refine BA (U9 (Hs (f:=fun s=>Value.string s) E2.sI) (by omega)) ?_
 obtain ⟨z,hz,mO⟩:∃ z:Nat,IY p.ts (fun x=>decide (x=y.type))=(z:Int)∧z<100000:=by
  unfold IY
  cases hf:p.ts.findIdx? (fun x=>decide (x=y.type)) with
  | none =>
   rw [List.findIdx?_eq_none_iff] at hf; obtain ⟨u,hu,gE⟩:=List.any_eq_true.1 Rv; rw [hf u hu] at gE; cases gE
  | some i =>
   have:=(List.findIdx?_eq_some_iff_getElem.1 hf).1; exact ⟨i,rfl,by omega⟩
 rw [hz]; refine (E2.num (n:=z) (by omega) (by omega)).mono fun en W5 ⟨⟨ve,FG⟩,c5,vb5,E5,n5⟩=>?_; subst FG; simp only [AQ]; have LS:=c5.YX E2.top (L_ E2 HN (by decide) (by decide)) HN; have hv5:A3 1 (DW W5) (.slice av y.AL.length cv) y.AL:=ZA.imp fun b o x hr=>⟨U' E2 c5 hr.1,hr.2⟩
 have D5:=E5.d.kp E5.tA E5.kp; refine ⟨by simp only [true_and,and_true]; exact pk W2 _ _ E2,?_⟩; have B3:=aX Ai Y.si Y.many; have AFq:=Dl (n:=z) (by omega); have AEV:=Dl (n:=y.AL.length) (by omega); obtain ⟨ea,eb,ef,eg,P0⟩:=D5.cat.sh.elem Y.ti
 have HQ:FD p.c p.ts p.o y=B7 z++(if elemAt p.c iy≠0 then B7 y.AL.length else [])++F3 p.c p.o iy y.AL y.AL.length:=by
  unfold FD; rw [Y.ti]; simp only [hz,Int.toNat_natCast]
 rw [HQ]; generalize LM:AI prog Tryz.f60 (O' p (bs++(B7 z++(if elemAt p.c iy≠0 then B7 y.AL.length else [])++F3 p.c p.o iy y.AL y.AL.length)))=KK
 have k9:∀ (W6:CW) (vb6:Value) (e:Env),DS p W6 vb6 (bs++B7 z++(if elemAt p.c iy≠0 then B7 y.AL.length else []))→BF W6 W.sz 56 [.string y.type,.slice av y.AL.length cv]→A3 1 (DW W6) (.slice av y.AL.length cv) y.AL→e 3=.pointer (some ⟨p.lX,0,none⟩)→e 5=.pointer (some ⟨p.bk,0,none⟩)→e 6=.pointer (some ⟨p.bd,0,none⟩)→e 8=.pointer (some ⟨W.sz,0,none⟩)→(Ym none KK) .normal e [] W6:=by
  intro W6 vb6 e E6 Ja hv6 g3 g5 g6 g8; have D6:=E6.d.kp E6.tA E6.kp; simp only [Ym,Bi,g5,g8]; rw [Ba (vs:=[.map (some p.r1),.map (some p.r2)]) (a:=⟨p.bk,0,none⟩) iB NS rfl (by omega) D6.k,Ba (vs:=[.string y.type,.slice av y.AL.length cv]) (a:=⟨W.sz,0,none⟩) jU Ma rfl (by omega) Ja.cells]; simp only [AA]; refine (L7 (r1:=p.r1) (r2:=p.r2) (ty:=y.type) E6.top).mono fun en W8 ⟨k8,t8,bk',bx,FG,Y9,hbx,cV,cW⟩=>?_; subst FG; simp only [AQ]; have AD8:=cV.lt t8; have AD9:=cW.lt t8; have h68:=k8.sz; have AFr:=Ja.lt E6.top; have AEW:=E6.lt
  refine O8 (bk:=bk') (bx:=bx) (r1:=p.r1) (r2:=p.r2) (n:=y.AL.length) (ix:=iy) (c:=p.c) (ty:=y.type) (a1:=9) (a2:=10) t8 rfl Y.ti (by omega) (fun he=>by
     have:=Fl Y.si he Y.many; omega) (fun ro e0 ds K W=>by rw [yG]) (by decide)
    (fun j W'=>∃ IA,DS p W' IA (bs++B7 z++(if elemAt p.c iy≠0 then B7 y.AL.length else [])++F3 p.c p.o iy y.AL j)∧BF W' W.sz 56 [.string y.type,.slice av y.AL.length cv]∧BF W' bk' 78 [.map (some p.r1),.map (some p.r2)]∧BF W' bx 56 [.string y.type,.slice av y.AL.length cv]∧A3 1 (DW W') (.slice av y.AL.length cv) y.AL∧W'.obj W8.sz=some .deferred∧W8.sz+1<W'.sz∧∀ i,p.Has IA i→i≠W8.sz∧i≠W8.sz+1)
    (fun _ _=>False)
    (fun j W' ⟨IA,E,b1,b2,b3,v,d,z,n⟩=>⟨b2.cell rfl,b2.cell rfl,(E.d.kp E.tA E.kp).cat,b3.cell rfl,_,_,b3.cell rfl⟩) (fun j W1 W2 ⟨IA,E,b1,b2,b3,v,d,z,n⟩ hu hc=>?_) (fun _ _ _ hf=>hf.elim) (fun W2 k2 t2 z2 hd=>?_) (fun j W1 Kb E hE sB sC hj ⟨IA,E',b1,b2,b3,v,d,zl,n⟩ XB hn hr hx=>?_) (fun W' ⟨IA,E,b1,b2,b3,v,d,zl,n⟩=>?_) (fun _ _ hf=>hf.elim)
  ·have h1:=E.kp.sz; have hpw:p.A.sz≤W8.sz+1:=by have:=E6.kp.sz; omega
   exact ⟨IA,E.of (E.kp.Az hpw hu) (E.top.Az z hu) (fun i hi=>hu.obj i (n i hi).2),b1.congr (hu.obj _ (by omega)),b2.congr (hu.obj _ (by omega)),b3.congr (hu.obj _ (by omega)),v.imp fun b o x hr=>⟨hc _ _ _ hr.1,hr.2⟩,by rw [hu.obj _ (by omega)]; exact d,by rw [hu.sz]; exact z,n⟩
  ·have k62:=k8.trans k2
   refine ⟨vb6,?_,Ja.ext E6.top k62,cV.ext t8 k2,cW.ext t8 k2,hv6.imp fun b o x hr=>hr.kp E6.top k62,hd,by omega,fun i hi=>?_⟩
   ·have:=E6.cT k62 t2
    simpa [F3] using this
   ·have:=AEW i hi; omega
  ·have Ww:=List.getElem?_eq_getElem hj; obtain ⟨_,_,e3,hvc⟩:=id v
   cases e3
   obtain ⟨q,rfl,hq⟩:=hvc j _ Ww; have gg3:=(hE 3 (by decide) (by decide) (by decide) (by decide)).trans g3; have gg6:=(hE 6 (by decide) (by decide) (by decide) (by decide)).trans g6; have gg8:=(hE 8 (by decide) (by decide) (by decide) (by decide)).trans g8; have l3:ld prog 3 (.pointer (some ⟨q.block,q.off+j*1,none⟩)) W1=some (.int .i64 y.AL[j]):=AF a3 (a:=⟨q.block,q.off+j*1,none⟩) hq.1
   have hvl:=Nv (c:=p.c) (o:=p.o) (i:=iy) (vs:=y.AL) im (fun k n hx hk=>by
    rcases HP Ai Y hx with h | h
    ·exact (hk h.1).elim
    ·exact h.2) j
   have SY:(if elemAt p.c iy≠0 then B7 y.AL.length else []).length≤8:=by split <;> simp [AEV]
   have dD:(bs++B7 z++(if elemAt p.c iy≠0 then B7 y.AL.length else [])++F3 p.c p.o iy y.AL j).length<700000:=by
    rw [List.length_append,List.length_append,List.length_append]; omega
   have iJ:∀ (e':Env) (EV:List Deferred) (W3:CW) (th:Value),DF (iH p.wb IA) W1 W3→Aq W3→J6 W3 p.wb p.rest th (bs++B7 z++(if elemAt p.c iy≠0 then B7 y.AL.length else [])++F3 p.c p.o iy y.AL j++QR p.o (A5 p.c iy j) y.AL[j])→(∀ i,BE th i→BE IA i∨W1.sz≤i)→Kb .normal e' EV W3:=by
    intro e' EV W3 th c3 t3 jl tR
    have Iz:∀ i,iH p.wb IA i→i≠W8.sz∧i≠W8.sz+1:=by
     rintro i (rfl | hi)
     ·exact n _ (.inr (.inr (.inr (.inr (.inr (.inr (.inr (.inl rfl))))))))
     ·exact n _ (.inr (.inr (.inr (.inr (.inr (.inr (.inr (.inr hi))))))))
    refine hn e' EV W3 (c3.obj _ (by omega) fun hs=>(Iz _ hs).2 rfl) ⟨th,?_,c3.YX E'.top (L_ E' b1 (by decide) (by decide)) b1,c3.YX E'.top (L_ E' b2 (by decide) (by decide)) b2,c3.YX E'.top (L_ E' b3 (by decide) (by decide)) b3,v.imp fun b o x hr=>⟨U' E' c3 hr.1,hr.2⟩,by rw [c3.obj _ (by omega) fun hs=>(Iz _ hs).1 rfl]; exact d,by have:=c3.sz; omega,fun i hi=>?_⟩
    ·have:=E'.emit c3 t3 jl tR; unfold F3; rw [Ww]
     simpa using this
    ·rcases hi with hi | hi | hi | hi | hi | hi | hi | hi | hi
     ·exact n _ (.inl hi)
     ·exact n _ (.inr (.inl hi))
     ·exact n _ (.inr (.inr (.inl hi)))
     ·exact n _ (.inr (.inr (.inr (.inl hi))))
     ·exact n _ (.inr (.inr (.inr (.inr (.inl hi)))))
     ·exact n _ (.inr (.inr (.inr (.inr (.inr (.inl hi))))))
     ·exact n _ (.inr (.inr (.inr (.inr (.inr (.inr (.inl hi)))))))
     ·exact n _ (.inr (.inr (.inr (.inr (.inr (.inr (.inr (.inl hi))))))))
     ·rcases tR i hi with hi | hi
      ·exact n _ (.inr (.inr (.inr (.inr (.inr (.inr (.inr (.inr hi))))))))
      ·omega
   rw [yH,gg3,gg6,gg8,sB,sC]
   rcases HP Ai Y Ww with hk | hk
   ·have yV:ld prog 107 (.pointer (some ⟨p.bd,2,none⟩)) W1=some (.func (.func 107) #[] #[]):=AF ACN (a:=⟨p.bd,2,none⟩) (E'.dv.cell (by rw [hdv]; rfl)); rw [hk.1] at iJ ⊢; simp only [oK,yV,pk W1 _ _ E',FM,AA,q40 W1 b1,BM Hq s3 hj,l3]; refine H8 Tryz.func107 (by kernel_rfl) ((sH E'.top E'.buf E'.wk im dD).mono fun en W3 ⟨⟨v3,he3⟩,c3,t3,th,jl,tR⟩=>?_); subst he3; refine ⟨by simp only [and_self],?_⟩
    try refine ⟨trivial,?_⟩
    exact iJ _ _ W3 th c3 t3 (by simpa [QR,V4.rest] using jl) tR
   ·have yV:ld prog 107 (.pointer (some ⟨p.bd,1,none⟩)) W1=some (.func (.func 106) #[] #[]):=AF ACN (a:=⟨p.bd,1,none⟩) (E'.dv.cell (by rw [hdv]; rfl)); rw [hk.1] at iJ ⊢; simp only [oJ,yV,pk W1 _ _ E',FM,AA,q40 W1 b1,BM Hq s3 hj,l3]; refine H8 Tryz.func106 (by kernel_rfl) ((oH E'.top E'.buf (by omega) (by omega) dD).mono fun en W3 ⟨⟨v3,he3⟩,c3,t3,th,jl,tR⟩=>?_); subst he3; refine ⟨by simp only [and_self],?_⟩
    try refine ⟨trivial,?_⟩
    exact iJ _ _ W3 th c3 t3 (by simpa [QR,V4.rest] using jl) tR
  ·simp only [rK]; rw [←LM]; refine G0 d ?_; have H4:Da W8.sz W' (W'.Az W8.sz .dead):=Da.of _ _ _; have hpw:p.A.sz≤W8.sz:=by have:=E6.kp.sz; omega
   refine EA (by kernel_rfl) _ _ (.inl rfl) _ _ ⟨⟨_,rfl⟩,IA,?_⟩; have:=E.of (E.kp.Az hpw H4) (E.top.Az (by omega) H4) (fun i hi=>H4.obj i (n i hi).1)
   simpa using this
 have l75:ld prog 75 (.pointer (some ⟨p.bk,0,none⟩)) W5=some (.map (some p.r1)):=AF xX (a:=⟨p.bk,0,none⟩) (D5.k 0 _ rfl); simp only [K1,AA,l75,q9 W5 LS,P0,TI,DK]; refine ⟨trivial,?_⟩
 refine AN (fun he=>?_) (fun he=>?_)
 ·have he:elemAt p.c iy≠0:=by simpa using he
  simp only [pk W5 _ _ E5,Bz,H_,FM,AA,q40 W5 LS,At Hq]; refine (E5.num (n:=y.AL.length) (by omega) (by rw [List.length_append]; omega)).mono fun en W6 ⟨⟨ve,FG⟩,c6,vb6,E6,n6⟩=>?_; subst FG; simp only [AQ]; refine ⟨by simp only [and_self],?_⟩
  try refine ⟨trivial,?_⟩
  refine k9 W6 vb6 _ (by rw [if_pos he]; exact E6) (c6.YX E5.top (L_ E5 LS (by decide) (by decide)) LS) (hv5.imp fun b o x hr=>⟨U' E5 c6 hr.1,hr.2⟩) rfl rfl rfl rfl
 ·have he:¬elemAt p.c iy≠0:=by simpa using he
  refine k9 W5 vb5 _ (by rw [if_neg he,List.append_nil]; exact E5) LS hv5 rfl rfl rfl rfl
end Go.Ce
namespace Go.Ce
open Go Go.Proofs Go.Proofs.Tryz
theorem oL {p:V4} {W:CW} {vb:Value} {bs:List Int} (h:DS p W vb bs) (hC:SG p.c) (Ai:BV p.c=true) (hs:BI p.c p.l=true) (H:Hp p.c p.h p.o) (VU:∀ s,s ∈ p.l→s.map.length<100000) (VV:p.h.length≤1000) (yW:((AS p.h p.o).flatMap fun x=>FD p.c p.ts p.o (AO p.l x)).length≤161600) (Uo:p.ts.length<100000)
  (Rv:∀ x,x ∈ AS p.h p.o→p.ts.any (fun u=>decide (u=(AO p.l x).type))=true) (eY:bs.length≤200000) (hdv:p.dvs=[.nilFunc,.func (.func 106) #[] #[],.func (.func 107) #[] #[]]) :
  AD prog AM 59 [.pointer (some ⟨p.wb,0,none⟩),p.vo,.func (.func 60) #[] #[.pointer (some ⟨p.br,0,none⟩),.pointer (some ⟨p.bh,0,none⟩),.pointer (some ⟨p.lX,0,none⟩),.pointer (some ⟨p.IB,0,none⟩),.pointer (some ⟨p.bk,0,none⟩),.pointer (some ⟨p.bd,0,none⟩)]] W
   (O' p (bs++B7 p.o.length++(AS p.h p.o).flatMap fun x=>FD p.c p.ts p.o (AO p.l x))):=by
 refine ACC ?_; rw [ACB]; have im:=H.found.len; have Ge:(B8 p.o).length=p.o.length*1:=by unfold B8; rw [List.length_map]; omega
 rw [JX Hq h.wk.own (by omega) Ge]; simp only [AA]; refine (h.num (n:=p.o.length) (by omega) (by omega)).mono fun en W1 ⟨⟨v,he⟩,_,lW,h1,_⟩=>?_; subst he; simp only [AQ]; rw [JX Hq h1.wk.own (by omega) Ge]; simp only [AA]; have h8:=Dl (n:=p.o.length) (by omega); refine FT (fun i e ds W'=>ds=[]∧∃ IA,DS p W' IA (bs++B7 p.o.length++(AS p.h (p.o.take i)).flatMap fun x=>FD p.c p.ts p.o (AO p.l x))∧e 2=.func (.func 60) #[] #[.pointer (some ⟨p.br,0,none⟩),.pointer (some ⟨p.bh,0,none⟩),.pointer (some ⟨p.lX,0,none⟩),.pointer (some ⟨p.IB,0,none⟩),.pointer (some ⟨p.bk,0,none⟩),.pointer (some ⟨p.bd,0,none⟩)]∧e 12=p.vo∧e 13=.int .i64 p.o.length∧e 14=.int .i64 i) p.o.length ⟨rfl,lW,by simpa [AS] using h1,rfl,rfl,rfl,rfl⟩ ?_; rintro i e ds W' hi ⟨rfl,IA,h',g2,sJ,g13,g14⟩; rw [yF,g2,sJ,g13,g14]; simp only [Ax,AA]
 refine It (fun A0=>?_) (fun Mx=>?_)
 ·have hx:=List.getElem?_eq_getElem A0; obtain ⟨w,hw,ZG,_⟩:=H.at A0; have ZI:=JY H A0 hw ZG; obtain ⟨a,cap,hvt,hc⟩:=Hs (f:=fun n=>Value.int .i64 n) h'.wk.own; obtain ⟨q,rfl,hq⟩:=hc i _ hx; rw [hvt,BM Hq s3 A0]; simp only [AA]; rw [AF a3 (a:=⟨q.block,q.off+i*1,none⟩) hq]; simp only [AA]
  have Jq:p.h[w] ∈ AS p.h p.o:=by
   have:p.h[w] ∈ AS p.h (p.o.take (i+1)):=by rw [ZI]; simp
   unfold AS at this ⊢; obtain ⟨v,hv,hx⟩:=List.mem_flatMap.1 this; exact List.mem_flatMap.2 ⟨v,List.mem_of_mem_take hv,hx⟩
  have AFs:((AS p.h (p.o.take i)).flatMap fun x=>FD p.c p.ts p.o (AO p.l x)).length≤161600:=by
   have e:AS p.h p.o=AS p.h (p.o.take i)++AS p.h (p.o.drop i):=by
    unfold AS; rw [←List.flatMap_append,List.take_append_drop]
   rw [e,List.flatMap_append,List.length_append] at yW; omega
  refine H8 Tryz.func60 (by kernel_rfl) ((jx h' hC Ai hs H.ok VU (by omega) (by omega) Uo hw ZG (Rv _ Jq) (by rw [List.length_append,List.length_append]; omega) hdv).mono fun en W2 ⟨⟨v,he⟩,sG,h2⟩=>?_); subst he; simp only [AQ,fW,Bi,Kv]; simp only [AW,Aa,Nat.reduceEqDiff,↓reduceIte,g14,Ae,AA]; refine ⟨A0,trivial,sG,?_,g2,sJ.trans (by rw [hvt]) ,g13,by rw [FU (by omega)]⟩; rw [ZI,List.flatMap_append,←List.append_assoc]
  simpa using h2
 ·have ZI:p.o.take i=p.o:=List.take_of_length_le (by omega); rw [ZI] at h'; simp only [JB,Uj,if_true]; exact EA (by kernel_rfl) _ _ (.inl rfl) _ _ ⟨⟨_,rfl⟩,IA,h'⟩
end Go.Ce
namespace Go.Ce
open Go Go.Proofs Go.Proofs.Tryz
theorem jy {t:TypeId} {r:Nat} {k:Value} {ok:Bool} {W W':CW} (h:W'.obj r=W.obj r):HW prog t (.map (some r)) k ok W'=HW prog t (.map (some r)) k ok W:=by
 unfold HW
 cases prog.underlying t with
 | none=>rfl
 | some d=>cases d <;> simp only [h]
theorem oM {l:List Br} {s:ByteArray}:(l.find? fun x=>decide (Br.to x=s)).isSome=l.any fun x=>decide (x.to=s):=by
 rw [Bool.eq_iff_iff,List.find?_isSome,List.any_eq_true]
structure ACP (A:CW) (bk br bh r1 r2 w r:Nat) (c:List Aj) (l:List Br) (h:List BN) (o:List Int):Prop where
 top:Aq A
 d:U8 A bk br bh r1 r2 w r c l h
 to:O6 Br.to A r l
 sok:BI c l=true
 sm:∀ s,s ∈ l→s.map.length<100000
 H:Hp c h o
theorem jz {A W0:CW} {K:AB} {e:Env} {bk br bh r1 r2 w r IB:Nat} {vo:Value} {c:List Aj} {l:List Br} {h:List BN} {o:List Int} (I:ACP A bk br bh r1 r2 w r c l h o) (kA:Kp A W0) (t0:Aq W0) (Vz:BF W0 IB 51 [.slice none 0 0]) (h16:A.sz≤IB) (xm:C8 W0 3 1 vo (B8 o))
  (g6:e 6=.pointer (some ⟨bh,0,none⟩)) (sJ:e 12=.pointer (some ⟨br,0,none⟩)) (xy:e 16=.pointer (some ⟨IB,0,none⟩)) (g60:e 60=vo) (g61:e 61=.int .i64 o.length) (g62:e 62=.int .i64 0)
  (xo:L5 l h o=true→∀ e' W',Kp A W'→Aq W'→e' 8=.slice none 0 0→e' 9=.int .i64 214→K .ret e' [] W')
  (Iz:L5 l h o=false→∀ e' W' vt,DF (·=IB) W0 W'→Aq W'→DR [6,10,12,15,16] e e'→BF W' IB 51 [vt]→C8 W' 9 1 vt (strs (DD l (AS h o)))→B9 W0.sz vt→K (.exit 0) e' [] W') :
  Bj prog AM none 17 127 (.loop (AY prog 17 0)) e [] W0 K:=by
 have im:=I.H.found.len; have hhs:=I.H.small; have hsA:=kA.sz; have AFt:=Vz.lt t0
 refine FT (fun i e' EV W'=>EV=[]∧∃ vt,DF (·=IB) W0 W'∧Aq W'∧DR [6,10,12,15,16,60,61] e e'∧e' 62=.int .i64 i∧BF W' IB 51 [vt]∧C8 W' 9 1 vt (strs (JD l h o i))∧B9 W0.sz vt∧((AS h (o.take i)).any fun x=>l.any fun s=>decide (s.to=x.type))=false) o.length
  ⟨rfl,_,.refl _ _,t0,.refl _ _,g62,Vz,C8.nil,B9.nil _ _ _,rfl⟩ ?_
 rintro i e' EV W' hi ⟨rfl,vt,HU,t',O5,q62,hB,htv,SB,Bg⟩; have q6:=(O5 6 (by decide)).trans g6; have q12:=(O5 12 (by decide)).trans sJ; have q16:=(O5 16 (by decide)).trans xy; have q60:=(O5 60 (by decide)).trans g60; have q61:=(O5 61 (by decide)).trans g61; have k':Kp A W':=DF.kp kA HU fun j hj=>by omega
 have D:=I.d.kp I.top k'; have AEX:=HU.own t0 xm fun j hj he=>by subst he; have:=GY Vz (ER xm hj); cases this
 obtain ⟨ao,co,rfl,hoc⟩:=Hs (f:=fun n=>Value.int .i64 n) AEX; have Y':=hB.lt t'; rw [yB,q6,q12,q16,q60,q61,q62]; simp only [Ax,AA]
 refine It (fun A0=>?_) (fun Mx=>?_)
 ·have hx:=List.getElem?_eq_getElem A0; obtain ⟨w',hw,ZG,_⟩:=I.H.at A0; have ZI:=JY I.H A0 hw ZG; obtain ⟨q,rfl,hq⟩:=hoc i _ hx; obtain ⟨vh,hbh,hh⟩:=D.hs; have hxh:=List.getElem?_eq_getElem ZG; obtain ⟨ah,ch,rfl,oF⟩:=id hh; obtain ⟨p,rfl,hp⟩:=oF w' _ hxh; have l3:∀ W1,Kp W' W1→ld prog 3 (.pointer (some ⟨q.block,q.off+i*1,none⟩)) W1=some (.int .i64 ((w'+1:Nat):Int)):=fun W1 k1=>AF a3 (a:=⟨q.block,q.off+i*1,none⟩) (k1.cell t' (by rw [←hw]; exact hq)); have l81:∀ W1,Kp W' W1→ld prog 81 (.pointer (some ⟨br,0+1,none⟩)) W1=some (.map (some r)):=fun W1 k1=>AF zx (a:=⟨br,0+1,none⟩) (k1.cell t' (D.rl 1 _ rfl)); have ju:∀ W1,Kp W' W1→ld prog 24 (.pointer (some ⟨bh,0,none⟩)) W1=some (.slice (some p) h.length ch):=fun W1 k1=>AF yA (a:=⟨bh,0,none⟩) (k1.cell t' hbh); have l9:∀ W1,Kp W' W1→ld prog 9 (.pointer (some ⟨p.block,p.off+w'*2,none⟩)) W1=some (.string h[w'].type):=fun W1 k1=>AF a9 (a:=⟨p.block,p.off+w'*2,none⟩) (k1.cell t' hp.type)
  have AEY:AH prog .sub 3 true (.int .i64 ((w'+1:Nat):Int)) (.int .i64 1)=some (.int .i64 (w':Nat)):=by
   rw [Ak,show ((w'+1:Nat):Int)-1=(w':Nat) by omega,wrap64 (by omega) (by omega)]
  have oN:O6 Br.to W' r l:=I.to.kp I.top k'; obtain ⟨ws,L,Zw,PZ⟩:=fN oN h[w'].type; obtain ⟨mto,AEZ,_⟩:=id oN; have df:=AEZ.lt t'; rw [BM Hq s3 A0]; simp only [AA]; rw [l3 W' (.refl _)]; simp only [Yg,AA]; rw [l81 W' (.refl _),ju W' (.refl _)]; simp only [AA]; rw [AEY]; simp only [AA]; rw [BM WC Ma ZG]; simp only [H9,AA]; rw [l9 W' (.refl _)]; simp only [AA]; refine BG L ?_; refine BG (Bd _ _) ?_; refine BG (Be _ _) ?_; refine HM rj jT t' fun W1 k1 t1 z1 VT=>?_; refine Dj jT (a:=⟨W'.sz,0,none⟩) PZ Zw VT (Nat.le_refl 3) fun W2 hu HN=>?_; have hu:Da W'.sz W1 W2:=hu; have k2:Kp W' W2:=k1.Az (Nat.le_refl _) hu; have t2:Aq W2:=t1.Az (by rw [z1]; exact Nat.lt_succ_self _) hu; have hL1:HW prog 81 (.map (some r)) (.string h[w'].type) true W1=some (.tuple #[.agg ws.toArray,.bool (l.find? fun x=>decide (Br.to x=h[w'].type)).isSome]):=by rw [←L]; exact jy (k1.obj _ df)
  refine ⟨by simp only [hL1,L,l9 W1 k1,l9 W' (.refl _),ju W1 k1,ju W' (.refl _),l81 W1 k1,l81 W' (.refl _),and_self],trivial,?_⟩; have ZK:=k'.trans k2
  have Jq:h[w'] ∈ AS h o:=by
   have:h[w'] ∈ AS h (o.take (i+1)):=by rw [ZI]; simp
   unfold AS at this ⊢; obtain ⟨v,hv,hx⟩:=List.mem_flatMap.1 this; exact List.mem_flatMap.2 ⟨v,List.mem_of_mem_take hv,hx⟩
  rw [oM]
  refine AN (fun GX=>?_) (fun GX=>?_)
  ·simp only [K4,LC,Kv,Wm]; refine xo ?_ _ W2 ZK t2 rfl rfl; unfold L5; rw [List.any_eq_true]; exact ⟨_,Jq,GX⟩
  ·have l83:ld prog 83 (.pointer (some ⟨br,0,none⟩)) W2=some (.agg [.map (some w),.map (some r)].toArray):=Ba (vs:=[.map (some w),.map (some r)]) (a:=⟨br,0,none⟩) a83 rr rfl (by omega) (D.rl.ext t' k2); obtain ⟨vx,hux,U4,ACJ⟩:=ec t' k2 hp; simp only [l83,ju W2 k2,BM WC Ma ZG,hux,AA]; have Hl:=List.getElem_mem ZG; have Rv:=I.H.ok _ Hl; refine (oC (r:=r) t2 (D.sp.kp t' k2) U4 (L4 I.sok Rv) I.sm).mono fun en W3 ⟨k3,t3,vv,FG,Xg,pS⟩=>?_; subst FG; simp only [AQ,rP,AA]; refine ⟨by simp only [and_self],trivial,?_⟩; have k23:=k2.trans k3; have IJ:=hB.ext t' k23; have sK:=htv.kp t' k23; have AFu:=ag l h o i; have l51:∀ W1,Kp W3 W1→ld prog 51 (.pointer (some ⟨IB,0,none⟩)) W1=some vt:=fun W1 k1=>AF a51 (a:=⟨IB,0,none⟩) (k1.cell t3 (IJ.cell rfl)); simp only [l51 W3 (.refl _),AA]; refine BA (V3 (Hs (f:=fun s=>Value.string s) sK) (by omega)) ?_; have tj:=eh (l:=l) I.H A0 hw ZG
   have tk:((AS h (o.take (i+1))).any fun x=>l.any fun s=>decide (s.to=x.type))=false:=by
    rw [ZI,List.any_append,Bg]; simp only [List.any_cons,GX,List.any_nil,Bool.or_self]
   have yX:DF (·=IB) W0 W3:=HU.then (DF.Gl k23 (S:=(·=IB))) fun _ _ h=>h; simp only [Ar,AA]
   cases hc:(JD l h o i).any (fun x=>decide (x=(AO l h[w']).type)) with
   | false =>
    simp only [Bool.not_false,Bx,l51 W3 (.refl _),AA]; refine Mf zu s9 z9 rfl (by omega) by9 (by omega) (AA' _) rfl rfl t3 sK (by rw [aY]; omega) fun u Wa lE W4 ka ta LL t4 o4 n4=>?_; have EB:¬BE vt IB:=fun hj=>by have:=GY IJ (ER sK hj); cases this
    have Mj:=LL.Gy.YX t3 EB IJ; refine Am s51 (a:=⟨IB,0,none⟩) (v:=lE) (Nt o4) Mj (by simp) fun W5 Im LS=>?_; have Im:Da IB W4 W5:=Im; have LS:BF W5 IB 51 [lE]:=LS; have tF:=Mj.lt t4; have hn4:=n4 W0.sz yX.sz; simp only [K4,Bi,Kv]; simp only [AW,Aa,Nat.reduceEqDiff,↓reduceIte,q62,Ae,AA]
    refine ⟨A0,trivial,lE,(yX.then LL.Gy fun j hj hi=>?_).then Im.Gy fun _ _ h=>h,t4.Az tF Im,(O5.trans (.put rfl)).trans (.put rfl),by rw [FU (by omega)],LS,?_,hn4,tk⟩
    ·obtain ⟨b,l',c',e1,e2⟩:=hi; have:=SB b l' c' e1; omega
    ·have AEa:∀ j,BE lE j→¬j=IB:=fun j hj he=>by subst he; have:=GY Mj (ER o4 hj); cases this
     have:=Im.Gy.own t4 o4 AEa; rw [tj]; unfold BQ; rw [if_neg (by rw [hc]; simp),nR]; exact this
   | true =>
    simp only [Bool.not_true,Ay,K4,Bi,Kv]; simp only [AW,Aa,Nat.reduceEqDiff,↓reduceIte,q62,Ae,AA]; refine ⟨A0,trivial,vt,yX,t3,(O5.trans (.put rfl)).trans (.put rfl),by rw [FU (by omega)],IJ,?_,SB,tk⟩; rw [tj]; unfold BQ; rw [if_pos hc]; exact sK
 ·simp only [Uj]; have ZI:o.take i=o:=List.take_of_length_le (by omega); rw [ZI] at Bg; unfold JD at htv; rw [ZI] at htv; have AEb:=O5.trans (.put rfl:DR [6,10,12,15,16,60,61] e' (Env.of e' [(63,.bool (decide ((i:Int)<o.length)))])); refine Iz Bg _ W' vt HU t' (fun t ht=>AEb t ?_) hB htv SB; simp only [List.mem_cons,List.not_mem_nil,or_false] at ht ⊢; rcases ht with rfl | rfl | rfl | rfl | rfl <;> simp
end Go.Ce
namespace Go.Ce
open Go Go.Proofs Go.Proofs.Tryz
theorem sL {c:List Aj} (Ai:BV c=true) {s:ByteArray} {i:Nat} (h:BL c s=some i):0<s.size:=by
 have Ge:=FO h; obtain ⟨h1,h2,_⟩:=List.findIdx?_eq_some_iff_getElem.1 h; unfold BV at Ai; simp only [Bool.and_eq_true,Bool.not_eq_true'] at Ai; have hb:=Dk Ai.2.1 Ge; unfold BU at hb; rw [List.getElem?_eq_getElem Ge] at hb; simp only [Bool.or_eq_false_iff,Bool.not_eq_false'] at hb; have:=hb.1.1; unfold GB at this; simp only [Bool.and_eq_true,decide_eq_true_eq] at this; rw [←of_decide_eq_true h2]; omega
theorem oO:B7 1=[1]:=by unfold B7; rfl
def oP (c:List Aj) (l:List Br) (h:List BN) (o:List Int):Prop:=h.length≤40∨((DD l (AS h o)).length≤100∧(Em c l h o).length≤3000)
theorem fY {p:V4} {W:CW} {vb:Value} {K:AB} {e:Env} (h:DS p W vb []) (Io:p.ts=DD p.l (AS p.h p.o)) (hC:SG p.c) (Ai:BV p.c=true) (hs:BI p.c p.l=true) (H:Hp p.c p.h p.o) (VU:∀ s,s ∈ p.l→s.map.length<100000) (JG:p.h.length≤1000) (VV:oP p.c p.l p.h p.o)
  (g6:e 6=.pointer (some ⟨p.bh,0,none⟩)) (jh:e 10=.pointer (some ⟨p.bk,0,none⟩)) (sJ:e 12=.pointer (some ⟨p.br,0,none⟩)) (g15:e 15=.pointer (some ⟨p.lX,0,none⟩)) (xy:e 16=.pointer (some ⟨p.IB,0,none⟩))
  (hK:∀ e' W' v,Kp p.A W'→Aq W'→e' 8=v→e' 9=.int .i64 0→C8 W' 5 1 v (Bk (Em p.c p.l p.h p.o))→K .ret e' [] W'):(Yk none K) .normal e [] W:=by
 have im:=H.found.len
 have HD:∀ s,s ∈ p.ts→0<s.size∧s.size<1000:=fun s KB=>by
  rw [Io] at KB
  rcases Nx p.l (AS p.h p.o) [] KB with h | ⟨x,hx,rfl⟩
  ·cases h
  ·obtain ⟨i,s,Y⟩:=Bt (CJ hs (H.ok _ (Ya hx))); exact ⟨sL Ai Y.ti,nT hC Y.ti⟩
 have Uo:p.ts.length≤100:=by
  rcases VV with VV | VV
  ·have h1:=J2 p.l (AS p.h p.o) []; have h2:=GW p.h p.o; rw [Io]; unfold DD; simp only [List.length_nil] at h1; omega
  ·rw [Io]; exact VV.1
 have AFv:(p.ts.flatMap GP).length≤100*1008:=by
  have htx:=QS p.ts fun s hs=>(HD s hs).2; have:p.ts.length*1008≤100*1008:=Nat.mul_le_mul_right _ Uo; omega
 have yW:((AS p.h p.o).flatMap fun x=>FD p.c p.ts p.o (AO p.l x)).length≤161600:=by
  rcases VV with VV | VV
  ·have h1:=Ny (l:=p.l) (t:=p.ts) (o:=p.o) (n:=p.h.length) Ai (by omega) (by omega) (AS p.h p.o) fun x hx=>CJ hs (H.ok x (by
    unfold AS at hx; obtain ⟨v,_,hv⟩:=List.mem_flatMap.1 hx
    cases hg:p.h[(v-1).toNat]? with
    | none=>rw [hg] at hv; cases hv
    | some y=>rw [hg] at hv; rw [List.mem_singleton.1 hv]; exact List.mem_of_getElem? hg))
   have h2:=GW p.h p.o; have h3:(AS p.h p.o).length*1616≤100*1616:=Nat.mul_le_mul_right _ (by omega); omega
  ·have:=VV.2; unfold Em at this; rw [Io]; simp only [List.length_append] at this; omega
 have pk:∀ (p':V4) W' IA XF,DS p' W' IA XF→ld prog 88 (.pointer (some ⟨p'.lX,0,none⟩)) W'=some (.pointer (some ⟨p'.wb,0,none⟩)):=fun p' W' IA XF E=>AF a88 (a:=⟨p'.lX,0,none⟩) (E.wv.cell rfl); have q51:∀ W' IA XF,DS p W' IA XF→ld prog 51 (.pointer (some ⟨p.IB,0,none⟩)) W'=some p.vt:=fun W' IA XF E=>AF a51 (a:=⟨p.IB,0,none⟩) (E.ty.cell rfl); simp only [Yk,Bi,g6,jh,sJ,g15,xy]; rw [pk p W _ _ h]; simp only [Bz,H_,AA]; refine (h.num (n:=1) (by omega) (by simp)).mono fun en W1 ⟨⟨v,he⟩,_,lW,h1,_⟩=>?_; subst he; simp only [AQ]; rw [pk p W1 _ _ h1,q51 W1 _ _ h1]; simp only [Bz,H_,AA]; rw [oO] at h1; refine (oI h1 HD (by omega) (by simp)).mono fun en W2 ⟨⟨v,he⟩,sG,h2⟩=>?_; subst he; simp only [AQ]; refine ⟨by simp only [and_self],trivial,?_⟩; refine UX (jw h2.top) fun W3 k3 t3=>?_; refine D' (ws:=[.nilFunc,.func (.func 106) #[] #[],.func (.func 107) #[] #[]]) ACL yS rfl rfl rfl t3 fun W4 k4 t4 z4 Mj=>?_; have h4:=h2.cT (k3.trans k4) t4; have E4:DS { p with bd:=W3.sz,bdt:=108,dvs:=[.nilFunc,.func (.func 106) #[] #[],.func (.func 107) #[] #[]] } W4 sG ([]++[1]++B7 p.ts.length++p.ts.flatMap GP):=⟨h4.kp,h4.top,h4.tA,h4.d,h4.wk,h4.wv,h4.ty,h4.sI,Mj,⟨(by decide:(108:Nat)≠97),(by decide:(108:Nat)≠5)⟩,h4.buf,h4.ge⟩
 have l89:ld prog 89 (.pointer (some ⟨p.wb,0+1,none⟩)) W4=some (.pointer (some ⟨p.bw,0,none⟩)):=AF pj (a:=⟨p.wb,0+1,none⟩) (h4.buf.b.cell rfl); have l40:ld prog 40 (.pointer (some ⟨p.bw,0,none⟩)) W4=some p.vo:=AF Nr (a:=⟨p.bw,0,none⟩) (h4.wk.w.cell rfl); rw [pk p W4 _ _ h4]; simp only [Bz,H_,Yo,AA]; rw [l89]; simp only [Bz,HR,AA]; rw [l40]; simp only [AA]; have hn8:=Dl (n:=p.ts.length) (by omega)
 refine (oL E4 hC Ai hs H VU JG yW (by show p.ts.length<100000; omega) (fun x hx=>by
  show p.ts.any _=true
  rw [Io]; exact Wo p.l _ [] x hx) (by simp only [List.length_append,List.length_cons,List.length_nil]; omega) rfl).mono fun en W5 ⟨⟨v,he⟩,vb5,h5⟩=>?_
 subst he; simp only [AQ]; refine ⟨by simp only [and_self],trivial,?_⟩; rw [pk _ W5 _ _ h5]; simp only [Bz,H_,TJ,AA]; have l29:ld prog 29 (.pointer (some ⟨p.wb,0,none⟩)) W5=some vb5:=h5.buf.ld; rw [l29]; simp only [AA]; refine hK _ W5 vb5 h5.kp h5.top rfl rfl ?_; have:=h5.buf.own; unfold Em; rw [←Io]
 simpa using this
end Go.Ce
namespace Go.Ce
open Go Go.Proofs Go.Proofs.Tryz
theorem s97:Db prog 97=some 4:=by kernel_rfl
theorem s88:Db prog 88=some 1:=by kernel_rfl
theorem z51:Gp prog 51=some (.slice none 0 0):=by kernel_rfl
theorem ACQ (a:Addr) (r1 r2:Nat):Sh prog 97 [(1,.pointer (some a)),(2,.agg [.map (some r1),.map (some r2)].toArray)]=some (.agg [.slice none 0 0,.pointer (some a),.map (some r1),.map (some r2)].toArray):=by kernel_rfl
theorem Ab {K:Value→CW→Prop} {KP:List PanicEntry→CW→Prop} {v:Value} {W:CW} (h:K v W):AQ K KP (.returned v) W:=h
theorem j6 {c:List Aj} {l:List Br} {h:List BN} {root:Int} (hc:BV c=true) (hs:BI c l=true):Ib c l h root=A7 c h root:=by
 unfold Ib A7 Ou; rw [hc,hs]; rfl
theorem N2 {v0 v1 v2:Value} {c:List Aj} {l:List Br} {h:List BN} {root:Int} {W:CW} (ht:Aq W) (hc:A3 5 (M7 W) v0 c) (hC:SG c) (hl:A3 3 (Vv W) v1 l) (pU:l.length<100000) (VU:∀ s,s ∈ l→s.map.length<100000) (hh:A3 2 (Gx W) v2 h) (pe:h.length<100000) (AEc:h.length≤40∨1000<h.length∨(Ib c l h root=0→L5 l h (Ad c l h root)=false→oP c l h (Ad c l h root))) (hv:∀ x,x ∈ h→x.AL.length<100000) :
  AD prog AM 17 [v0,v1,v2,.int .i64 root] W (Wp (C3 c l h root) W):=by
 refine ABy ?_; rw [ABx]; obtain ⟨ah,ch,rfl,_⟩:=id hh; refine GA s24 ht fun W0 k0 t0 z0 Ja=>?_; have Ja:BF W0 W.sz 24 [.slice ah h.length ch]:=Ja; refine (bB t0 (hc.imp fun _ _ _ hr=>hr.kp ht k0) hC).mono fun en W1 ⟨k1,t1,r1,r2,FG,PO,lS,GG⟩=>?_; subst FG; refine Ab ?_; refine BG (Bd _ _) ?_; refine BG (Be _ _) ?_; unfold K3; refine D' (ws:=[.map (some r1),.map (some r2)]) pf NS rfl rfl rfl t1 fun W4 k4 t4 z4 SL=>?_; have jo:=(k0.trans k1).trans k4; generalize LM:AI prog Tryz.f17 (Wp (C3 c l h root) W)=KK
 have Gz:∀ (e':Env) W' v n,Kp W W'→Aq W'→e' 8=v→e' 9=.int .i64 n→C8 W' 5 1 v (Bk (C3 c l h root).1)→(C3 c l h root).2=n→KK .ret e' [] W':=by
  intro e' W' v n k t h8 h9 ho hn; rw [←LM,jq,h8,h9]; exact ⟨k,t,v,by rw [hn],ho⟩
 simp only [Ar,AA]
 cases Ai:BV c with
 | false =>
  simp only [Bool.not_false,Bx]
  have hw:C3 c l h root=([],210):=by
   unfold C3 Ib Ou; rw [Ai]; rfl
  exact Gz _ W4 _ 210 jo t4 rfl rfl (by rw [hw]; exact C8.nil) (by rw [hw])
 | true =>
  simp only [Bool.not_true,Ay]; have XC:=(GG Ai).kp t1 k4; rw [V0 SL]; simp only [AA]; refine (nk t4 XC hC (hl.imp fun _ _ _ hr=>hr.kp ht jo) pU VU).mono fun en W5 ⟨k5,t5,w,r,FG,Jg⟩=>?_; subst FG; refine Ab ?_; refine BG (Bd _ _) ?_; refine BG (Be _ _) ?_; refine D' (ws:=[.map (some w),.map (some r)]) z83 rr rfl rfl rfl t5 fun W8 k8 t8 z8 sM=>?_; have sN:=k5.trans k8; have xc:=jo.trans sN; simp only [Ar,AA]
  cases hs:BI c l with
  | false =>
   simp only [Bool.not_false,Bx]
   have hw:C3 c l h root=([],212):=by
    unfold C3 Ib Ou; rw [Ai,hs]; rfl
   exact Gz _ W8 _ 212 xc t8 rfl rfl (by rw [hw]; exact C8.nil) (by rw [hw])
  | true =>
   simp only [Bool.not_true,Ay]; have ju:ld prog 24 (.pointer (some ⟨W.sz,0,none⟩)) W8=some (.slice ah h.length ch):=AF yA (a:=⟨W.sz,0,none⟩) (((k1.trans k4).trans sN).cell t0 (Ja.cell rfl)); rw [ju]; simp only [AA]; refine (J5 t8 (hc.imp fun _ _ _ hr=>hr.kp ht xc) hC (hh.imp fun _ _ _ hr=>hr.kp ht xc) hv (by omega)).mono fun en W9 ⟨k9,t9,r1',r2',FG,AFN⟩=>?_; subst FG; refine Ab ?_; refine BG (Bd _ _) ?_; refine BG (Be _ _) ?_; unfold K3; refine D' (ws:=[.map (some r1'),.map (some r2')]) pf NS rfl rfl rfl t9 fun A ZH tA z12 AD2=>?_; have yY:=k9.trans ZH; have k0A:=xc.trans yY; have yZ:=j6 (h:=h) (root:=root) Ai hs; rw [←yZ]; simp only [DK,AA]
   by_cases hz:Ib c l h root=0
   ·obtain ⟨_,_,Qz,sE,PO⟩:=DG hz; obtain ⟨JG,iK⟩:=CB Qz; simp only [hz,bne_self_eq_false,Ay]; obtain ⟨hsw,uY⟩:=Jg hs; have D:U8 A W1.sz W5.sz W.sz r1 r2 w r c l h:=⟨(SL.ext t4 (sN.trans yY)).cells,(sM.ext t8 yY).cells,XC.kp t4 (sN.trans yY),hsw.kp t5 (k8.trans yY),_,(((k1.trans k4).trans sN).trans yY).cell t0 (Ja.cell rfl),hh.imp fun _ _ _ hr=>hr.kp ht k0A⟩
    have hrA:O6 Br.to A r l:=uY.kp t5 (k8.trans yY); have kn:Kp A (A.new (.cells .nil 1 #[.pointer none] 88)):=.new _; have tn:=tA.new (.cells .nil 1 #[.pointer none] 88); have LU:(A.new (.cells .nil 1 #[.pointer none] 88)).obj A.sz=some (.cells .nil 1 #[.pointer none] 88):=by rw [BK,if_pos rfl]
    have tf:BF (A.new (.cells .nil 1 #[.pointer none] 88)) A.sz 88 [.pointer none]:=⟨.nil,1,_,LU,rfl,fun k v hk=>by
     match k,hk with
     | 0,hk=>cases hk; rfl⟩
    have yU:(A.new (.cells .nil 1 #[.pointer none] 88)).sz=A.sz+1:=rfl; have P7:∀ W0:CW,W0.obj A.sz=some (.cells .nil 1 #[.pointer none] 88)→H3 (.pointer (some ⟨A.sz,0,none⟩)) ((A.new (.cells .nil 1 #[.pointer none] 88)).obj A.sz) W0=true:=fun W0 h0=>G1 h0 rfl; generalize hAn:A.new (.cells .nil 1 #[.pointer none] 88)=An at kn tn LU tf yU P7 ⊢
    refine (XE (refs:=CR c l h) (N:=h.length) tn sE PO pe (fun n _ _=>Ml Ai hs iK) (fun n=>bP hC hs iK n) (fun n W' k' t' RT Vb K KP hk=>?_)).mono fun en H5 ⟨td,t13,bw,rp,vo,FG,oQ,hbw,lT,AEd,hF⟩=>?_
    ·refine H8 Tryz.func51 (by kernel_rfl) ((jt t' (D.kp tA (kn.trans k')) hC hs iK VU RT Vb pe).mono fun en W2 ⟨k2,t2,vr,FG,dd,sF⟩=>?_); subst FG; exact hk vr W2 k2 t2 dd sF
    subst FG; have hfo:Ao (CR c l h) h.length (start root) 0=Ad c l h root:=rfl; rw [hfo] at oQ hF; generalize ho:Ad c l h root=o at oQ hF; refine Ab ?_; have ya:=kn.trans td; have lA:∀ W',Kp A W'→ld prog 78 (.pointer (some ⟨W1.sz,0,none⟩)) W'=some (.agg [.map (some r1),.map (some r2)].toArray):=fun W' k=>Ba (vs:=[.map (some r1),.map (some r2)]) (a:=⟨W1.sz,0,none⟩) iB NS rfl (by omega) (D.kp tA k).k; rw [lA H5 ya]; simp only [AA]; refine BG (ACQ _ _ _) ?_; refine GA s97 t13 fun Nj Yh t15 z15 hBb=>?_; have hBb:BF Nj H5.sz 97 [.slice none 0 0,.pointer (some ⟨bw,0,none⟩),.map (some r1),.map (some r2)]:=hBb; have tp:=tf.ext tn (td.trans Yh); refine ⟨trivial,?_⟩; refine Am s88 (a:=⟨A.sz,0,none⟩) (v:=.pointer (some ⟨H5.sz,0,none⟩)) rfl tp (by simp) fun CQ hu yb=>?_; have hu:Da A.sz Nj CQ:=hu; have yb:BF CQ A.sz 88 [.pointer (some ⟨H5.sz,0,none⟩)]:=yb; have hAl:=tp.lt t15; have AFw:A.sz<H5.sz:=by have:=td.sz; omega
    refine ⟨by simp only [lA H5 ya,lA An kn,and_self],?_⟩; refine ⟨⟨⟨trivial,P7 Nj (by rw [(td.trans Yh).obj _ (by omega)]; exact LU),P7 H5 (by rw [td.obj _ (by omega)]; exact LU),P7 An LU⟩,trivial⟩,?_⟩; have t16:=t15.Az hAl hu; refine HM z51 s51 t16 fun MQ yc t17 z17 V5=>?_; have V5:BF MQ CQ.sz 51 [.slice none 0 0]:=V5; have z16:CQ.sz=H5.sz+1:=by rw [hu.sz,z15]
    have ACR:Kp A MQ:=((ya.trans Yh).Az (Nat.le_refl _) hu).trans yc; have BY:∀ j,j<Nj.sz→j≠A.sz→MQ.obj j=Nj.obj j:=fun j hj EB=>by rw [yc.obj j (by rw [hu.sz]; exact hj),hu.obj j EB]
    have fZ:∀ j,j<H5.sz→j≠A.sz→MQ.obj j=H5.obj j:=fun j hj EB=>by rw [BY j (by omega) EB,Yh.obj j hj]
    have oR:C8 MQ 3 1 vo (B8 o):=O9 oQ.own fun j hj=>fZ j (Ul t13 oQ.own hj) (by obtain ⟨b,l',c',e1,e2⟩:=hj; have:=AEd b l' c' e1; omega); have ACS:BF MQ bw 100 [vo,.map (some rp)]:=oQ.w.congr (fZ _ (oQ.w.lt t13) (by omega)); have ACT:BF MQ H5.sz 97 [.slice none 0 0,.pointer (some ⟨bw,0,none⟩),.map (some r1),.map (some r2)]:=hBb.congr (BY _ (by omega) (by omega)); have AEe:cX MQ rp o:=oQ.p.congr (fZ _ (oQ.p.lt t13) (by omega)); have yd:BF MQ A.sz 88 [.pointer (some ⟨H5.sz,0,none⟩)]:=yb.ext t16 yc; have l88:ld prog 88 (.pointer (some ⟨A.sz,0,none⟩)) MQ=some (.pointer (some ⟨H5.sz,0,none⟩)):=AF a88 (a:=⟨A.sz,0,none⟩) (yd.cell rfl); have l89:ld prog 89 (.pointer (some ⟨H5.sz,0+1,none⟩)) MQ=some (.pointer (some ⟨bw,0,none⟩)):=AF pj (a:=⟨H5.sz,0+1,none⟩) (ACT.cell rfl); have l40:ld prog 40 (.pointer (some ⟨bw,0,none⟩)) MQ=some vo:=AF Nr (a:=⟨bw,0,none⟩) (ACS.cell rfl); have im:=hF.len; have Ge:(B8 o).length=o.length*1:=by unfold B8; rw [List.length_map]; omega
    rw [l88]; simp only [Bz,Yo,AA]; rw [l89]; simp only [Bz,HR,AA]; rw [l40]; simp only [AA]; rw [JX Hq oR (by omega) Ge]; simp only [AA]; have hH:Hp c h o:=⟨hF,pe,iK⟩
    have I:ACP A W1.sz W5.sz W.sz r1 r2 w r c l h o:=⟨tA,D,hrA,hs,VU,hH⟩
    have AFO:H5.sz≤CQ.sz:=by omega
    refine jz I ACR t17 V5 (by omega) oR rfl rfl rfl rfl rfl rfl (fun hb e' W' k' t' q8 q9=>?_) (fun hb e' W' vt HU t' O5 hBt htv SB=>?_)
    ·simp only [PV]
     have hw:C3 c l h root=([],214):=by
      unfold C3; rw [if_neg (by simp [hz]),ho,if_pos hb]
     exact Gz _ W' _ 214 (k0A.trans k') t' q8 q9 (by rw [hw]; exact C8.nil) (by rw [hw])
    ·simp only [JB,if_true]; have Y':¬L5 l h o=true:=by rw [hb]; simp
     have hw:C3 c l h root=(Em c l h o,0):=by
      unfold C3; rw [if_neg (by simp [hz]),ho,if_neg Y']
     have Y_:∀ j,j<CQ.sz→W'.obj j=MQ.obj j:=fun j hj=>HU.obj j (by omega) (by omega)
     have E:DS { A:=A,bk:=W1.sz,br:=W5.sz,bh:=W.sz,lX:=A.sz,IB:=CQ.sz,bd:=A.sz,wb:=H5.sz,bw:=bw,rp:=rp,r1:=r1,r2:=r2,w:=w,r:=r,vt:=vt,vo:=vo,bdt:=88,dvs:=[.pointer (some ⟨H5.sz,0,none⟩)],c:=c,l:=l,h:=h,o:=o,ts:=DD l (AS h o) } W' (.slice none 0 0) [] :=
      ⟨DF.kp ACR HU fun j hj=>by have hj:j=CQ.sz:=hj; show A.sz≤j; omega,t',tA,D,⟨ACS.congr (Y_ _ (by have:=oQ.w.lt t13; omega)),O9 oR fun j hj=>Y_ j (by have:=Ul t13 oQ.own hj; omega),AEe.congr (Y_ _ (by have:=oQ.p.lt t13; omega))⟩,yd.congr (Y_ _ (by omega)),hBt,htv,yd.congr (Y_ _ (by omega)),⟨(by decide:(88:Nat)≠97),(by decide:(88:Nat)≠5)⟩,⟨ACT.congr (Y_ _ (by omega)),C8.nil⟩,by show A.sz≤H5.sz; omega,fun j hj=>by obtain ⟨_,_,_,e1,_⟩:=hj; cases e1⟩
     refine fY E rfl hC Ai hs hH VU JG (by
      rcases AEc with NT | NT | NT
      ·exact .inl NT
      ·omega
      ·rw [←ho]; exact NT hz (by rw [ho]; exact hb)) ((O5 6 (by decide)).trans rfl) ((O5 10 (by decide)).trans rfl) ((O5 12 (by decide)).trans rfl) ((O5 15 (by decide)).trans rfl) ((O5 16 (by decide)).trans rfl) fun e2 W2 v k2 t2 h8 h9 ph=>?_
     exact Gz _ W2 v 0 (k0A.trans k2) t2 h8 h9 (by rw [hw]; exact ph) (by rw [hw])
   ·simp only [show (Ib c l h root != 0)=true from by simpa using hz,Bx]
    have hw:C3 c l h root=([],Ib c l h root):=by
     unfold C3; rw [if_pos hz]
    exact Gz _ A _ (Ib c l h root) k0A tA rfl rfl (by rw [hw]; exact C8.nil) (by rw [hw])
end Go.Ce
namespace Go.Ce
open Go Go.Proofs Go.Proofs.Tryz
def DA (W:CW) (b n:Nat):Prop:=∃ l:List Int,l.length=n∧BF W b 3 (B8 l)
theorem Bq {b n:Nat} {i:Int} (h0:0≤i) (h1:i<n):Bm prog 40 (.slice (some ⟨b,0,none⟩) n n) (.int .i64 i)=some (.pointer (some ⟨b,0+i.toNat*1,none⟩)):=by
 have:=BM (P:=prog) Hq s3 (a:=⟨b,0,none⟩) (len:=n) (cap:=n) (kk:=.i64) (i:=i.toNat) (by omega); rw [show ((i.toNat:Nat):Int)=i by omega] at this; exact this
theorem DA.ld {W:CW} {b n:Nat} (h:DA W b n) {i:Int} (h0:0≤i) (h1:i<n):∃ x,Go.Ce.ld prog 3 (.pointer (some ⟨b,0+i.toNat*1,none⟩)) W=some (.int .i64 x):=by
 obtain ⟨l,hl,hB⟩:=h; have hx:=List.getElem?_eq_getElem (show i.toNat<l.length by omega); refine ⟨_,AF a3 (a:=⟨b,0+i.toNat*1,none⟩) (v:=.int .i64 (l[i.toNat]'(by omega))) ?_⟩; show W.cell b (0+i.toNat*1)=_; rw [show 0+i.toNat*1=i.toNat by omega]; refine hB.cell ?_; unfold B8; rw [List.getElem?_map,hx]; rfl
theorem Es {W:CW} {b n:Nat} (h:DA W b n) {i:Int} (h0:0≤i) (h1:i<n) {x:Int} {K:CW→Prop} (hk:∀ W',Da b W W'→DA W' b n→K W'):wV (B5 prog 3 (.pointer (some ⟨b,0+i.toNat*1,none⟩)) (.int .i64 x) W) K:=by
 obtain ⟨l,hl,hB⟩:=h; refine Am s3 (a:=⟨b,0+i.toNat*1,none⟩) (v:=.int .i64 x) rfl hB (by rw [CE]; show 0+i.toNat*1<_; omega) fun W2 hu HN=>?_; have hu:Da b W W2:=hu; have HN:BF W2 b 3 (putAt (B8 l) (0+i.toNat*1) [.int .i64 x]):=HN; refine hk W2 hu ⟨l.set i.toNat x,by rw [List.length_set]; exact hl,?_⟩
 have hs:putAt (B8 l) (0+i.toNat*1) [.int .i64 x]=B8 (l.set i.toNat x):=by
  apply List.ext_getElem?; intro j; have Ge:i.toNat<l.length:=by omega
  rw [QK (by rw [CE,List.length_singleton]; omega),List.length_singleton]; unfold B8; rw [List.getElem?_map,List.getElem?_map,List.getElem?_set]
  by_cases e:i.toNat=j
  ·rw [if_pos ⟨by omega,by omega⟩,if_pos e,if_pos Ge,show j-(0+i.toNat*1)=0 by omega]; rfl
  ·rw [if_neg (by omega),if_neg e]
 rw [←hs]; exact HN
structure SD (A W:CW) (b n:Nat):Prop where
 Gy:DF (·=b) A W
 top:Aq W
 da:DA W b n
theorem DA.lt {W:CW} {b n:Nat} (h:DA W b n) (ht:Aq W):b<W.sz:=by
 obtain ⟨l,_,hB⟩:=h; exact hB.lt ht
theorem SD.start {W:CW} {b n:Nat} (ht:Aq W) (h:DA W b n):SD W W b n:=⟨.refl _ _,ht,h⟩
theorem SD.put {A W W':CW} {b n:Nat} (h:SD A W b n) (hu:Da b W W') (hd:DA W' b n):SD A W' b n:=⟨h.Gy.then hu.Gy fun _ _ h=>h,h.top.Az (h.da.lt h.top) hu,hd⟩
theorem SD.trans {A W W':CW} {b n:Nat} (h:SD A W b n) (k:SD W W' b n):SD A W' b n:=⟨h.Gy.then k.Gy fun _ _ h=>h,k.top,k.da⟩
theorem DA.kp {W W':CW} {b n:Nat} (h:DA W b n) (ht:Aq W) (k:Kp W W'):DA W' b n:=by
 obtain ⟨l,hl,hB⟩:=h; exact ⟨l,hl,hB.ext ht k⟩
theorem SD.kp {A W W':CW} {b n:Nat} (h:SD A W b n) (k:Kp W W') (t:Aq W'):SD A W' b n:=⟨h.Gy.then (DF.Gl k) fun _ _ h=>h,t,h.da.kp h.top k⟩
def lY (b n:Nat) (W:CW):Ending→CW→Prop:=fun en W'=>en=.returned (.tuple #[])∧SD W W' b n
theorem oS {x d:Int} (h0:0≤x) (h1:x≤1000000) (hd:0<d):AH prog .quo 3 true (.int .i64 x) (.int .i64 d)=some (.int .i64 (x / d)):=by
 rw [nG _ _ _ (by omega),Int.tdiv_eq_ediv_of_nonneg h0]; have h2:x / d≤x:=Int.ediv_le_self _ h0; have h3:0≤x / d:=Int.ediv_nonneg h0 (by omega); rw [wrap64 (by omega) (by omega)]
theorem DH (x y:Int) (W:CW):AD prog AM 147 [.int .i64 x,.int .i64 y] W (Gk (.bool (decide (x<y))) W):=by
 refine vX ?_; rw [vW]
 have AEf:AD prog AM 159 [.int .i64 x] W (Gk (.bool false) W):=by
  refine vZ ?_; rw [vY]; simp only [DK,AA,bne_self_eq_false]; rw [eE]; exact ⟨rfl,rfl⟩
 refine BA AEf ?_; simp only [Ay,Ax,AA,MU,Bi,zs]; rw [eD]; exact ⟨rfl,rfl⟩
theorem MA {W:CW} {b n s:Nat} {i j k lo hi:Int} (ht:Aq W) (hd:DA W b n) (hs:BF W s 3 [.int .i64 k]) (XB:0≤lo) (PN:hi≤n) (T4:lo≤i∧i<hi) (hj0:lo≤j∧j<hi) :
  AD prog AM 161 [.slice (some ⟨b,0,none⟩) n n,.int .i64 i,.int .i64 j,.pointer (some ⟨s,0,none⟩)] W (fun en W'=>DF (·=s) W W'∧Aq W'∧(∃ k',BF W' s 3 [.int .i64 k'])∧∃ p q,en=.returned (.tuple #[.int .i64 p,.int .i64 q])∧lo≤p∧p<hi∧lo≤q∧q<hi):=by
 refine wP ?_; rw [wO]; obtain ⟨x,hx⟩:=hd.ld (i:=j) (by omega) (by omega); obtain ⟨y,hy⟩:=hd.ld (i:=i) (by omega) (by omega); rw [Bq (by omega) (by omega),Bq (by omega) (by omega)]; simp only [hx,hy,AA]; refine BA (DH x y W) ?_; refine ⟨by simp only [and_self],trivial,?_⟩
 refine AN (fun _=>?_) (fun _=>?_)
 ·simp only [Bz,AA]; rw [AF a3 (a:=⟨s,0,none⟩) (hs.cell rfl)]; simp only [AA,Ae]; refine Am s3 (a:=⟨s,0,none⟩) rfl hs (by simp) fun W2 hu hB=>?_; have hu:Da s W W2:=hu; rw [UN]; exact ⟨hu.Gy,ht.Az (hs.lt ht) hu,⟨_,hB⟩,j,i,rfl,hj0.1,hj0.2,T4.1,T4.2⟩
 ·rw [UN]; exact ⟨.refl _ _,ht,⟨k,hs⟩,i,j,rfl,T4.1,T4.2,hj0.1,hj0.2⟩
theorem DA.Gy {W W':CW} {b n s:Nat} (h:DA W b n) (ht:Aq W) (hc:DF (·=s) W W') (EB:b≠s):DA W' b n:=by
 obtain ⟨l,hl,hB⟩:=h; exact ⟨l,hl,hc.YX ht EB hB⟩
theorem Yq {W:CW} {b n s:Nat} {i j k c lo hi:Int} (ht:Aq W) (hd:DA W b n) (hs:BF W s 3 [.int .i64 c]) (EB:b≠s) (XB:0≤lo) (PN:hi≤n) (T4:lo≤i∧i<hi) (hj0:lo≤j∧j<hi) (hk0:lo≤k∧k<hi) :
  AD prog AM 158 [.slice (some ⟨b,0,none⟩) n n,.int .i64 i,.int .i64 j,.int .i64 k,.pointer (some ⟨s,0,none⟩)] W (fun en W'=>DF (·=s) W W'∧Aq W'∧(∃ k',BF W' s 3 [.int .i64 k'])∧∃ p,en=.returned (.int .i64 p)∧lo≤p∧p<hi):=by
 refine wN ?_; rw [wM]; refine (MA ht hd hs XB PN T4 hj0).mono fun en W1 ⟨c1,t1,⟨s1,SW⟩,p1,q1,he,a1,a2,ye,a4'⟩=>?_; subst he; refine Ab ?_; refine BG (Bd _ _) ?_; refine BG (Be _ _) ?_; have tc:=hd.Gy ht c1 EB; refine (MA t1 tc SW XB PN ⟨ye,a4'⟩ hk0).mono fun en W2 ⟨c2,t2,⟨s2,Vh⟩,p2,q2,he,b1,b2,b3,b4⟩=>?_; subst he; refine Ab ?_; refine BG (Bd _ _) ?_; refine BG (Be _ _) ?_; have hd2:=tc.Gy t1 c2 EB; refine (MA t2 hd2 Vh XB PN ⟨a1,a2⟩ ⟨b1,b2⟩).mono fun en W3 ⟨c3,t3,⟨s3,hs3⟩,p3,q3,he,d1,d2,d3,d4⟩=>?_; subst he; refine Ab ?_; refine BG (Bd _ _) ?_; refine BG (Be _ _) ?_; rw [eM]; exact ⟨(c1.then c2 fun _ _ h=>h).then c3 fun _ _ h=>h,t3,⟨_,hs3⟩,q3,rfl,d3,d4⟩
theorem bR {W:CW} {b n:Nat} {lo hi:Int} (ht:Aq W) (hd:DA W b n) (hn:n≤1000000) (XB:0≤lo) (PN:hi≤n) (h8:8≤hi-lo) (h50:hi-lo<50) :
  AD prog AM 144 [.slice (some ⟨b,0,none⟩) n n,.int .i64 lo,.int .i64 hi] W (fun en W'=>Kp W W'∧Aq W'∧∃ p h,en=.returned (.tuple #[.int .i64 p,.int .i64 h])∧lo≤p∧p<hi):=by
 refine vn ?_; rw [vk]; simp only [Ak,AA]; rw [wrap64 (by omega) (by omega)]; refine HM z3 s3 ht fun W0 k0 t0 z0 hB=>?_; have hB:BF W0 W.sz 3 [.int .i64 0]:=hB; have eY:=hd.lt ht; have hd0:=hd.kp ht k0; rw [oS (by omega) (by omega) (by omega)]; simp only [Jv,Ae,DL,AA]; rw [wrap64 (x:=(hi-lo) / 4*1) (by omega) (by omega),wrap64 (x:=(hi-lo) / 4*2) (by omega) (by omega),wrap64 (x:=(hi-lo) / 4*3) (by omega) (by omega),wrap64 (x:=lo+(hi-lo) / 4*1) (by omega) (by omega),wrap64 (x:=lo+(hi-lo) / 4*2) (by omega) (by omega),wrap64 (x:=lo+(hi-lo) / 4*3) (by omega) (by omega),decide_eq_true (show hi-lo≥8 by omega),decide_eq_false (show ¬hi-lo≥50 by omega)]; simp only [Bx,Ay,MV,Bi,zs]; simp only [AW,Aa,aK,Nat.reduceEqDiff,↓reduceIte,aL,ZF]; refine (Yq t0 hd0 hB (by omega) XB PN (by omega) (by omega) (by omega)).mono fun en W2 ⟨c2,t2,⟨k2,Vh⟩,p,he,VW,SK⟩=>?_; subst he; refine Ab ?_; have kW:Kp W W2:=DF.kp k0 c2 fun j hj=>by omega
 simp only [Oc,Bi]; simp only [AW,Aa,Nat.reduceEqDiff,↓reduceIte]; rw [AF a3 (a:=⟨W.sz,0,none⟩) (Vh.cell rfl)]; simp only [AA,CD]
 refine AN (fun _=>?_) (fun _=>AN (fun _=>?_) (fun _=>?_))
 ·rw [Nn]; exact ⟨kW,t2,p,1,rfl,VW,SK⟩
 ·rw [Nn]; exact ⟨kW,t2,p,2,rfl,VW,SK⟩
 ·rw [Nn]; exact ⟨kW,t2,p,0,rfl,VW,SK⟩
end Go.Ce
namespace Go.Ce
open Go Go.Proofs Go.Proofs.Tryz
theorem MB {x y:Int} {X Y:Prop} (h1:x≤y→X) (h2:y<x→Y):wI (.bool (decide (x≤y))) X Y:=AN (fun h=>h1 (of_decide_eq_true h)) (fun h=>h2 (by have:=of_decide_eq_false h; omega))
theorem U_ {x y:Int} {X Y:Prop} (h1:x<y→X) (h2:y≤x→Y):wI (.bool (decide (x<y))) X Y:=AN (fun h=>h1 (of_decide_eq_true h)) (fun h=>h2 (by have:=of_decide_eq_false h; omega))
theorem Yr {x y:Int} {X Y:Prop} (h1:y≤x→X) (h2:x<y→Y):wI (.bool (decide (x≥y))) X Y:=AN (fun h=>h1 (of_decide_eq_true h)) (fun h=>h2 (by have:=of_decide_eq_false h; omega))
theorem VA {x y:Int} {X Y:Prop} (h1:y<x→X) (h2:x≤y→Y):wI (.bool (decide (x>y))) X Y:=AN (fun h=>h1 (of_decide_eq_true h)) (fun h=>h2 (by have:=of_decide_eq_false h; omega))
theorem V6 {W:CW} {b n:Nat} {lo hi:Int} (ht:Aq W) (hd:DA W b n) (hn:n≤1000000) (XB:0≤lo) (PN:hi≤n) (iY:lo≤hi) :
  AD prog AM 145 [.slice (some ⟨b,0,none⟩) n n,.int .i64 lo,.int .i64 hi] W (lY b n W):=by
 refine vz ?_; rw [vu]; simp only [Ak,AA]; rw [wrap64 (by omega) (by omega)]; refine Dh (fun k e ds W'=>ds=[]∧SD W W' b n∧e 0=.slice (some ⟨b,0,none⟩) n n∧∃ i j:Int,e 6=.int .i64 i∧e 7=.int .i64 j∧0≤i∧-1≤j∧j<n∧i≤n∧(j-i+2).toNat=k) (hi-1-lo+2).toNat ⟨rfl,.start ht hd,rfl,lo,hi-1,rfl,rfl,by omega,by omega,by omega,by omega,rfl⟩ ?_; rintro k e ds W' ⟨rfl,S,h0,i,j,h6,h7,i0,j0,j1,i1,hk⟩; rw [qz,h0,h6,h7]; simp only [Ax,AA]
 refine U_ (fun A0=>?_) (fun Mx=>?_)
 ·obtain ⟨x,hx⟩:=S.da.ld (i:=j) (by omega) (by omega); obtain ⟨y,hy⟩:=S.da.ld (i:=i) (by omega) (by omega); rw [Bq (by omega) (by omega),Bq (by omega) (by omega)]; simp only [hx,hy,AA]; refine Es S.da (by omega) (by omega) fun W2 H4 d2=>?_; refine Es d2 (by omega) (by omega) fun W3 LO d3=>?_; refine ⟨by simp only [and_self],trivial,?_⟩; simp only [Ae,Ak,AA,Wg]; rw [wrap64 (x:=i+1) (by omega) (by omega),wrap64 (x:=j-1) (by omega) (by omega)]; exact ⟨(j-1-(i+1)+2).toNat,by omega,trivial,(S.put H4 d2).put LO d3,by simp only [AW,Aa,Nat.reduceEqDiff,↓reduceIte,h0],i+1,j-1,by simp only [AW,Nat.reduceEqDiff,↓reduceIte],by simp only [AW,↓reduceIte],by omega,by omega,by omega,by omega,rfl⟩
 ·simp only [JB,Wh,if_true]; exact EA (by kernel_rfl) _ _ (.inl rfl) _ _ ⟨rfl,S⟩
theorem SM {W:CW} {b n:Nat} {lo hi:Int} (ht:Aq W) (hd:DA W b n) (hn:n≤1000000) (XB:0≤lo) (PN:hi≤n) (iY:lo≤hi) :
  AD prog AM 141 [.slice (some ⟨b,0,none⟩) n n,.int .i64 lo,.int .i64 hi] W (lY b n W):=by
 refine nE ?_; rw [nD]; simp only [Ae,AA]; rw [wrap64 (by omega) (by omega)]; refine Dh (fun k e ds W'=>ds=[]∧SD W W' b n∧e 0=.slice (some ⟨b,0,none⟩) n n∧e 1=.int .i64 lo∧e 2=.int .i64 hi∧∃ i:Int,e 6=.int .i64 i∧lo<i∧i≤hi+1∧(hi+1-i).toNat=k) (hi+1-(lo+1)).toNat ⟨rfl,.start ht hd,rfl,rfl,rfl,lo+1,rfl,by omega,by omega,rfl⟩ ?_; rintro k e ds W' ⟨rfl,S,h0,h1,h2,i,h6,i0,i1,hk⟩; rw [gh,h2,h6]; simp only [Ax,AA]; refine U_ (fun A0=>?_) (fun Mx=>?_)
 rotate_left
 ·simp only [JB,Wh,if_true]; exact EA (by kernel_rfl) _ _ (.inl rfl) _ _ ⟨rfl,S⟩
 refine Dh (fun k e ds W'=>ds=[]∧SD W W' b n∧e 0=.slice (some ⟨b,0,none⟩) n n∧e 1=.int .i64 lo∧e 2=.int .i64 hi∧e 6=.int .i64 i∧∃ j:Int,e 7=.int .i64 j∧lo≤j∧j≤i∧j.toNat=k) i.toNat ?_ ?_
 ·exact ⟨rfl,S,by simp only [AW,Aa,Nat.reduceEqDiff,↓reduceIte,h0],by simp only [AW,Aa,Nat.reduceEqDiff,↓reduceIte,h1],by simp only [AW,Aa,Nat.reduceEqDiff,↓reduceIte,h2],by simp only [AW,Aa,Nat.reduceEqDiff,↓reduceIte,h6],i,by simp only [AW,↓reduceIte],by omega,by omega,rfl⟩
 rintro k' e ds W' ⟨rfl,S,h0,h1,h2,h6,j,h7,j0,j1,hk'⟩; rw [qq,h0,h1,h7]; simp only [CO,AA]
 have k5:∀ (e2:Env) (q:Bool),e2 30=.bool q→e2 0=.slice (some ⟨b,0,none⟩) n n→e2 1=.int .i64 lo→e2 2=.int .i64 hi→e2 6=.int .i64 i→e2 7=.int .i64 j→(q=true→lo<j)→(Su none (FA (fun k e ds W'=>ds=[]∧SD W W' b n∧e 0=.slice (some ⟨b,0,none⟩) n n∧e 1=.int .i64 lo∧e 2=.int .i64 hi∧e 6=.int .i64 i∧∃ j:Int,e 7=.int .i64 j∧lo≤j∧j≤i∧j.toNat=k) k' (Av 2 (Av 1 (YF none (FA (fun k e ds W'=>ds=[]∧SD W W' b n∧e 0=.slice (some ⟨b,0,none⟩) n n∧e 1=.int .i64 lo∧e 2=.int .i64 hi∧∃ i:Int,e 6=.int .i64 i∧lo<i∧i≤hi+1∧(hi+1-i).toNat=k) k (Av 0 (AI prog Tryz.f141 (lY b n W))))))))) .normal e2 [] W':=by
  intro e2 q g30 g0 g1 g2 g6 g7 hq; simp only [Su,Bi,g30]
  refine AN (fun hb=>?_) (fun hb=>?_)
  ·have hj:=hq hb; simp only [Ob,Bi,g0,g7,Ak,AA]; rw [wrap64 (by omega) (by omega)]; obtain ⟨x,hx⟩:=S.da.ld (i:=j-1) (by omega) (by omega); obtain ⟨y,hy⟩:=S.da.ld (i:=j) (by omega) (by omega); rw [Bq (by omega) (by omega),Bq (by omega) (by omega)]; simp only [hx,hy,AA]; refine Es S.da (by omega) (by omega) fun W2 H4 d2=>?_; refine Es d2 (by omega) (by omega) fun W3 LO d3=>?_; refine ⟨by simp only [and_self],trivial,?_⟩; simp only [YG,Bi,Wg]; simp only [AW,Aa,Nat.reduceEqDiff,↓reduceIte,g7,Ak,AA]; rw [wrap64 (by omega) (by omega)]; exact ⟨(j-1).toNat,by omega,trivial,(S.put H4 d2).put LO d3,by simp only [g0],by simp only [g1],by simp only [g2],by simp only [g6],j-1,by simp only [AW],by omega,by omega,rfl⟩
  ·simp only [Ob,YG,YF,JB,rK,Rr,Bi,Wh,Wg,if_true,g6,Ae,AA]; rw [wrap64 (by omega) (by omega)]; exact ⟨(hi+1-(i+1)).toNat,by omega,trivial,S,by simp only [AW,Aa,Nat.reduceEqDiff,↓reduceIte,g0],by simp only [AW,Aa,Nat.reduceEqDiff,↓reduceIte,g1],by simp only [AW,Aa,Nat.reduceEqDiff,↓reduceIte,g2],i+1,by simp only [AW,↓reduceIte],by omega,by omega,rfl⟩
 refine VA (fun Xv=>?_) (fun hle=>?_)
 ·obtain ⟨x,hx⟩:=S.da.ld (i:=j) (by omega) (by omega); obtain ⟨y,hy⟩:=S.da.ld (i:=j-1) (by omega) (by omega); rw [Bq (by omega) (by omega)]; simp only [hx,AA,Ak]; rw [wrap64 (by omega) (by omega),Bq (by omega) (by omega)]; simp only [hy,AA]; refine BA (DH x y W') ?_; refine ⟨by simp only [and_self],trivial,?_⟩; exact k5 _ (decide (x<y)) (by simp only [AW,↓reduceIte]) (by simp only [AW,Aa,Nat.reduceEqDiff,↓reduceIte,h0]) (by simp only [AW,Aa,Nat.reduceEqDiff,↓reduceIte,h1]) (by simp only [AW,Aa,Nat.reduceEqDiff,↓reduceIte,h2]) (by simp only [AW,Aa,Nat.reduceEqDiff,↓reduceIte,h6]) (by simp only [AW,Aa,Nat.reduceEqDiff,↓reduceIte,h7]) fun _=>Xv
 ·refine ⟨trivial,trivial,?_⟩; exact k5 _ false (by simp only [AW,↓reduceIte]) (by simp only [AW,Aa,Nat.reduceEqDiff,↓reduceIte,h0]) (by simp only [AW,Aa,Nat.reduceEqDiff,↓reduceIte,h1]) (by simp only [AW,Aa,Nat.reduceEqDiff,↓reduceIte,h2]) (by simp only [AW,Aa,Nat.reduceEqDiff,↓reduceIte,h6]) (by simp only [AW,Aa,Nat.reduceEqDiff,↓reduceIte,h7]) fun h=>(by cases h)
theorem V7 {W:CW} {b n:Nat} {lo hi:Int} (ht:Aq W) (hd:DA W b n) (hn:n≤1000000) (XB:0≤lo) (PN:hi≤n) (iY:lo≤hi) (h50:hi-lo<50) :
  AD prog AM 146 [.slice (some ⟨b,0,none⟩) n n,.int .i64 lo,.int .i64 hi] W (fun en W'=>W'=W∧∃ q,en=.returned (.bool q)):=by
 refine wA ?_; rw [v_]; generalize LM:AI prog Tryz.f146 (fun en W'=>W'=W∧∃ q,en=.returned (.bool q))=KK
 have HS:∀ (e:Env) q,e 6=.bool q→KK .ret e [] W:=by
  intro e q h6; rw [←LM,eG,h6]; exact ⟨rfl,q,rfl⟩
 simp only [Ae,AA]; rw [wrap64 (by omega) (by omega)]; refine Dh (fun k e ds W'=>ds=[]∧W'=W∧e 0=.slice (some ⟨b,0,none⟩) n n∧e 1=.int .i64 lo∧e 2=.int .i64 hi∧(∃ i:Int,e 7=.int .i64 i∧lo<i∧i≤hi+1)∧∃ s:Int,e 8=.int .i64 s∧0≤s∧s≤5∧(5-s).toNat=k) 5 ⟨rfl,rfl,rfl,rfl,rfl,⟨lo+1,rfl,by omega,by omega⟩,0,rfl,by omega,by omega,rfl⟩ ?_; rintro k e ds W' ⟨rfl,rfl,h0,h1,h2,⟨i,h7,i0,i1⟩,s,h8,s0,s1,hk⟩; rw [q5,h8]; simp only [Ax,AA]; refine U_ (fun A0=>?_) (fun Mx=>?_)
 rotate_left
 ·simp only [JB,Wh,if_true,gj,Bi]; exact HS _ false (by simp only [AW,↓reduceIte])
 refine Dh (fun k e ds W2=>ds=[]∧W2=W'∧e 0=.slice (some ⟨b,0,none⟩) n n∧e 1=.int .i64 lo∧e 2=.int .i64 hi∧∃ i:Int,e 7=.int .i64 i∧lo<i∧i≤hi+1∧(hi+1-i).toNat=k) (hi+1-i).toNat ?_ ?_
 ·exact ⟨rfl,rfl,by simp only [AW,Aa,Nat.reduceEqDiff,↓reduceIte,h0],by simp only [AW,Aa,Nat.reduceEqDiff,↓reduceIte,h1],by simp only [AW,Aa,Nat.reduceEqDiff,↓reduceIte,h2],i,by simp only [AW,Aa,Nat.reduceEqDiff,↓reduceIte,h7],i0,i1,rfl⟩
 rintro k' e ds W2 ⟨rfl,rfl,h0,h1,h2,i,h7,i0,i1,hk'⟩; rw [q7,h0,h2,h7]; simp only [Ax,AA]
 have k7:∀ (e2:Env) (q:Bool) (K:AB),e2 32=.bool q→e2 0=.slice (some ⟨b,0,none⟩) n n→e2 1=.int .i64 lo→e2 2=.int .i64 hi→e2 7=.int .i64 i→(q=true→i<hi)→(∀ (e3:Env),e3 1=.int .i64 lo→e3 2=.int .i64 hi→e3 7=.int .i64 i→K (.exit 2) e3 [] W2)→(Sx none (FA (fun k e ds W3=>ds=[]∧W3=W2∧e 0=.slice (some ⟨b,0,none⟩) n n∧e 1=.int .i64 lo∧e 2=.int .i64 hi∧∃ i:Int,e 7=.int .i64 i∧lo<i∧i≤hi+1∧(hi+1-i).toNat=k) k' K)) .normal e2 [] W2:=by
  intro e2 q K g32 g0 g1 g2 g7 hq hK; simp only [Sx,Bi,g32]
  refine AN (fun hb=>?_) (fun hb=>?_)
  ·have hj:=hq hb; simp only [Od,Bi,Wg,g7,Ae,AA]; rw [wrap64 (by omega) (by omega)]; exact ⟨(hi+1-(i+1)).toNat,by omega,trivial,trivial,by simp only [AW,Aa,Nat.reduceEqDiff,↓reduceIte,g0],by simp only [AW,Aa,Nat.reduceEqDiff,↓reduceIte,g1],by simp only [AW,Aa,Nat.reduceEqDiff,↓reduceIte,g2],i+1,by simp only [AW,↓reduceIte],by omega,by omega,rfl⟩
  ·simp only [Od,Rr,Wh]; exact hK e2 g1 g2 g7
 have hK:∀ (e3:Env) (K:AB),(∀ e q,e 6=.bool q→K .ret e [] W2)→e3 1=.int .i64 lo→e3 2=.int .i64 hi→e3 7=.int .i64 i→(Av 2 (YJ none K)) (.exit 2) e3 [] W2:=by
  intro e3 K hK g1 g2 g7; simp only [JB,if_true,YJ,Bi,g1,g2,g7,CD,AA]
  refine AN (fun hb=>?_) (fun hb=>?_)
  ·simp only [I_,LC]; exact hK _ true (by simp only [AW,↓reduceIte])
  ·simp only [Ak,Ax,AA]; rw [wrap64 (by omega) (by omega),decide_eq_true h50]; simp only [Bx,I_,LC]; exact hK _ false (by simp only [AW,↓reduceIte])
 refine U_ (fun Xv=>?_) (fun hle=>?_)
 ·obtain ⟨x,hx⟩:=hd.ld (i:=i) (by omega) (by omega); obtain ⟨y,hy⟩:=hd.ld (i:=i-1) (by omega) (by omega); rw [Bq (by omega) (by omega)]; simp only [hx,AA,Ak]; rw [wrap64 (by omega) (by omega),Bq (by omega) (by omega)]; simp only [hy,AA]; refine BA (DH x y W2) ?_; simp only [Ar,AA]; refine ⟨by simp only [and_self],trivial,?_⟩; exact k7 _ (!decide (x<y)) _ (by simp only [AW,↓reduceIte]) (by simp only [AW,Aa,Nat.reduceEqDiff,↓reduceIte,h0]) (by simp only [AW,Aa,Nat.reduceEqDiff,↓reduceIte,h1]) (by simp only [AW,Aa,Nat.reduceEqDiff,↓reduceIte,h2]) (by simp only [AW,Aa,Nat.reduceEqDiff,↓reduceIte,h7]) (fun _=>Xv) fun e3 g1 g2 g7=>hK e3 _ (fun e q h6=>HS e q h6) g1 g2 g7
 ·refine ⟨trivial,trivial,?_⟩; exact k7 _ false _ (by simp only [AW,↓reduceIte]) (by simp only [AW,Aa,Nat.reduceEqDiff,↓reduceIte,h0]) (by simp only [AW,Aa,Nat.reduceEqDiff,↓reduceIte,h1]) (by simp only [AW,Aa,Nat.reduceEqDiff,↓reduceIte,h2]) (by simp only [AW,Aa,Nat.reduceEqDiff,↓reduceIte,h7]) (fun h=>(by cases h)) fun e3 g1 g2 g7=>hK e3 _ (fun e q h6=>HS e q h6) g1 g2 g7
end Go.Ce
namespace Go.Ce
open Go Go.Proofs Go.Proofs.Tryz
theorem VB {W:CW} {b n:Nat} {lo hi first:Int} (ht:Aq W) (hd:DA W b n) (hn:n≤1000000) (XB:0≤lo) (hln:lo≤n) (hf:0≤first) (PN:first+hi≤n) (h0i:0≤hi) :
  AD prog AM 156 [.slice (some ⟨b,0,none⟩) n n,.int .i64 lo,.int .i64 hi,.int .i64 first] W (lY b n W):=by
 refine wL ?_; rw [wK]; refine Dh (fun k e ds W'=>ds=[]∧SD W W' b n∧e 0=.slice (some ⟨b,0,none⟩) n n∧e 2=.int .i64 hi∧e 3=.int .i64 first∧∃ r:Int,e 8=.int .i64 r∧0≤r∧r≤n∧(n-r).toNat=k) ((n:Int)-lo).toNat ⟨rfl,.start ht hd,rfl,rfl,rfl,lo,rfl,XB,hln,rfl⟩ ?_; rintro k e ds W' ⟨rfl,S,h0,h2,h3,r,h8,r0,r1,hk⟩; rw [rH,h0,h2,h3,h8]; simp only [Jv,Ae,DL,AA]; rw [wrap64 (x:=2*r) (by omega) (by omega),wrap64 (x:=2*r+1) (by omega) (by omega)]
 refine Yr (fun Mx=>?_) (fun A0=>?_)
 ·simp only [JB,Wh,if_true]; exact EA (by kernel_rfl) _ _ (.inl rfl) _ _ ⟨rfl,S⟩
 have k4:∀ (e2:Env) (c:Int),e2 0=.slice (some ⟨b,0,none⟩) n n→e2 2=.int .i64 hi→e2 3=.int .i64 first→e2 8=.int .i64 r→e2 9=.int .i64 c→r<c→c<hi→(Om none (FA (fun k e ds W'=>ds=[]∧SD W W' b n∧e 0=.slice (some ⟨b,0,none⟩) n n∧e 2=.int .i64 hi∧e 3=.int .i64 first∧∃ r:Int,e 8=.int .i64 r∧0≤r∧r≤n∧(n-r).toNat=k) k (Av 0 (AI prog Tryz.f156 (lY b n W))))) .normal e2 [] W':=by
  intro e2 c g0 g2 g3 g8 g9 hrc HU; simp only [Om,Bi,PV,Wg,zt,g0,g3,g8,g9,Ae,AA]; rw [wrap64 (x:=first+r) (by omega) (by omega),wrap64 (x:=first+c) (by omega) (by omega)]; obtain ⟨x,hx⟩:=S.da.ld (i:=first+r) (by omega) (by omega); obtain ⟨y,hy⟩:=S.da.ld (i:=first+c) (by omega) (by omega); rw [Bq (by omega) (by omega),Bq (by omega) (by omega)]; simp only [hx,hy,AA]; refine BA (DH x y W') ?_; simp only [Ar,AA]; refine ⟨by simp only [and_self],trivial,?_⟩
  refine AN (fun _=>?_) (fun _=>?_)
  ·exact EA (by kernel_rfl) _ _ (.inr rfl) _ _ ⟨rfl,S⟩
  ·simp only [hx,hy,AA]; refine Es S.da (by omega) (by omega) fun W2 H4 d2=>?_; refine Es d2 (by omega) (by omega) fun W3 LO d3=>?_; refine ⟨by simp only [and_self],trivial,?_⟩; exact ⟨(n-c).toNat,by omega,trivial,(S.put H4 d2).put LO d3,by simp only [AW,Aa,Nat.reduceEqDiff,↓reduceIte,g0],by simp only [AW,Aa,Nat.reduceEqDiff,↓reduceIte,g2],by simp only [AW,Aa,Nat.reduceEqDiff,↓reduceIte,g3],c,by simp only [AW,↓reduceIte],by omega,by omega,rfl⟩
 have k5:∀ (e2:Env) (q:Bool),e2 36=.bool q→e2 0=.slice (some ⟨b,0,none⟩) n n→e2 2=.int .i64 hi→e2 3=.int .i64 first→e2 8=.int .i64 r→e2 9=.int .i64 (2*r+1)→(q=true→2*r+1+1<hi)→(S1 none (FA (fun k e ds W'=>ds=[]∧SD W W' b n∧e 0=.slice (some ⟨b,0,none⟩) n n∧e 2=.int .i64 hi∧e 3=.int .i64 first∧∃ r:Int,e 8=.int .i64 r∧0≤r∧r≤n∧(n-r).toNat=k) k (Av 0 (AI prog Tryz.f156 (lY b n W))))) .normal e2 [] W':=by
  intro e2 q g36 g0 g2 g3 g8 g9 hq; simp only [S1,Bi,g36]
  refine AN (fun hb=>?_) (fun hb=>?_)
  ·have:=hq hb; simp only [g9,Ae,AA]; rw [wrap64 (by omega) (by omega)]; exact k4 _ (2*r+1+1) (by simp only [AW,Aa,Nat.reduceEqDiff,↓reduceIte,g0]) (by simp only [AW,Aa,Nat.reduceEqDiff,↓reduceIte,g2]) (by simp only [AW,Aa,Nat.reduceEqDiff,↓reduceIte,g3]) (by simp only [AW,Aa,Nat.reduceEqDiff,↓reduceIte,g8]) (by simp only [AW,↓reduceIte]) (by omega) (by omega)
  ·exact k4 e2 (2*r+1) g0 g2 g3 g8 g9 (by omega) (by omega)
 rw [wrap64 (x:=2*r+1+1) (by omega) (by omega)]; simp only [Ax,AA]
 refine U_ (fun SE=>?_) (fun SE=>?_)
 ·rw [wrap64 (x:=first+(2*r+1)) (by omega) (by omega),wrap64 (x:=first+(2*r+1)+1) (by omega) (by omega)]; obtain ⟨x,hx⟩:=S.da.ld (i:=first+(2*r+1)) (by omega) (by omega); obtain ⟨y,hy⟩:=S.da.ld (i:=first+(2*r+1)+1) (by omega) (by omega); rw [Bq (by omega) (by omega),Bq (by omega) (by omega)]; simp only [hx,hy,AA]; refine BA (DH x y W') ?_; refine ⟨by simp only [and_self],trivial,?_⟩; exact k5 _ (decide (x<y)) (by simp only [AW,↓reduceIte]) (by simp only [AW,Aa,Nat.reduceEqDiff,↓reduceIte,h0]) (by simp only [AW,Aa,Nat.reduceEqDiff,↓reduceIte,h2]) (by simp only [AW,Aa,Nat.reduceEqDiff,↓reduceIte,h3]) (by simp only [AW,Aa,Nat.reduceEqDiff,↓reduceIte,h8]) (by simp only [AW,Nat.reduceEqDiff,↓reduceIte]) fun _=>SE
 ·refine ⟨trivial,trivial,?_⟩; exact k5 _ false (by simp only [AW,↓reduceIte]) (by simp only [AW,Aa,Nat.reduceEqDiff,↓reduceIte,h0]) (by simp only [AW,Aa,Nat.reduceEqDiff,↓reduceIte,h2]) (by simp only [AW,Aa,Nat.reduceEqDiff,↓reduceIte,h3]) (by simp only [AW,Aa,Nat.reduceEqDiff,↓reduceIte,h8]) (by simp only [AW,Nat.reduceEqDiff,↓reduceIte]) fun h=>(by cases h)
theorem fa {W:CW} {b n:Nat} {lo hi:Int} (ht:Aq W) (hd:DA W b n) (hn:n≤1000000) (XB:0≤lo) (PN:hi≤n) (iY:lo<hi) :
  AD prog AM 142 [.slice (some ⟨b,0,none⟩) n n,.int .i64 lo,.int .i64 hi] W (lY b n W):=by
 refine vg ?_; rw [vd]; simp only [Ak,AA]; rw [wrap64 (x:=hi-lo) (by omega) (by omega),wrap64 (by omega) (by omega),oS (by omega) (by omega) (by omega)]; simp only [AA]; refine Dh (fun k e ds W'=>ds=[]∧SD W W' b n∧e 0=.slice (some ⟨b,0,none⟩) n n∧e 6=.int .i64 lo∧e 7=.int .i64 0∧e 8=.int .i64 (hi-lo)∧∃ i:Int,e 9=.int .i64 i∧-1≤i∧i<hi-lo∧(i+1).toNat=k) ((hi-lo-1) / 2+1).toNat ⟨rfl,.start ht hd,rfl,rfl,rfl,rfl,(hi-lo-1) / 2,rfl,by omega,by omega,rfl⟩ ?_; rintro k e ds W' ⟨rfl,S,h0,h6,h7,h8,i,h9,i0,i1,hk⟩; rw [qu,h0,h6,h8,h9]; simp only [DL,AA]
 refine Yr (fun Mx=>?_) (fun A0=>?_)
 ·refine (VB S.top S.da hn Mx (by omega) XB (by omega) (by omega)).mono fun en W2 ⟨he,S2⟩=>?_; subst he; refine Ab ?_; simp only [YH,Bi,Wg]; simp only [AW,Aa,Nat.reduceEqDiff,↓reduceIte,h9,Ak,AA]; rw [wrap64 (by omega) (by omega)]; exact ⟨(i-1+1).toNat,by omega,trivial,S.trans S2,by simp only [h0],by simp only [h6],by simp only [h7],by simp only [h8],i-1,by simp only [AW],by omega,by omega,rfl⟩
 simp only [JB,Wh,if_true,gi,Bi]; simp only [AW,Aa,Nat.reduceEqDiff,↓reduceIte,h8,Ak,AA]; rw [wrap64 (by omega) (by omega)]
 refine Dh (fun k e ds W'=>ds=[]∧SD W W' b n∧e 0=.slice (some ⟨b,0,none⟩) n n∧e 6=.int .i64 lo∧e 7=.int .i64 0∧∃ i:Int,e 10=.int .i64 i∧-1≤i∧i<hi-lo∧(i+1).toNat=k) (hi-lo-1+1).toNat ?_ ?_
 ·exact ⟨rfl,S,by simp only [AW,Aa,Nat.reduceEqDiff,↓reduceIte,h0],by simp only [AW,Aa,Nat.reduceEqDiff,↓reduceIte,h6],by simp only [AW,Aa,Nat.reduceEqDiff,↓reduceIte,h7],hi-lo-1,by simp only [AW,↓reduceIte],by omega,by omega,rfl⟩
 rintro k e ds W' ⟨rfl,S,h0,h6,h7,i,Nz,i0,i1,hk⟩; rw [qw,h0,h6,h7,Nz]; simp only [DL,AA]
 refine Yr (fun Mx=>?_) (fun A0=>?_)
 ·simp only [Ae,AA]; rw [wrap64 (by omega) (by omega)]; obtain ⟨x,hx⟩:=S.da.ld (i:=lo+i) (by omega) (by omega); obtain ⟨y,hy⟩:=S.da.ld (i:=lo) (by omega) (by omega); rw [Bq (by omega) (by omega),Bq (by omega) (by omega)]; simp only [hx,hy,AA]; refine Es S.da (by omega) (by omega) fun W2 H4 d2=>?_; refine Es d2 (by omega) (by omega) fun W3 LO d3=>?_; refine ⟨by simp only [and_self],trivial,?_⟩; have S3:=(S.put H4 d2).put LO d3; refine (VB S3.top S3.da hn (by omega) (by omega) XB (by omega) Mx).mono fun en W4 ⟨he,S4⟩=>?_; subst he; refine Ab ?_; simp only [YI,Bi,Wg]; simp only [AW,Aa,Nat.reduceEqDiff,↓reduceIte,Nz,Ak,AA]; rw [wrap64 (by omega) (by omega)]; exact ⟨(i-1+1).toNat,by omega,trivial,S3.trans S4,by simp only [h0],by simp only [h6],by simp only [h7],i-1,by simp only [AW],by omega,by omega,rfl⟩
 ·simp only [JB,Wh,if_true]; exact EA (by kernel_rfl) _ _ (.inl rfl) _ _ ⟨rfl,S⟩
structure PE (e:Env) (b n:Nat) (ki kj:Nat) (a i j:Int):Prop where
 e0:e 0=.slice (some ⟨b,0,none⟩) n n
 e1:e 1=.int .i64 a
 ei:e ki=.int .i64 i
 ej:e kj=.int .i64 j
theorem oT {W:CW} {K:AB} {e:Env} {b n:Nat} {a:Int} {i0 j:Int} (hd:DA W b n) (hn:n≤1000000) (dg:0≤a) (De:a<n) (h0i:0≤i0) (pn:j<n) (E:PE e b n 10 11 a i0 j)
  (Jq:i0≤n+5) (R9:-5≤j) (EU:∀ e' i,PE e' b n 10 11 a i j→i0≤i→(i≤j+1∨i=i0)→K (.exit 0) e' [] W) :
  Bj prog AM none 149 168 (.loop (AY prog 149 0)) e [] W K:=by
 refine Dh (fun k e ds W2=>ds=[]∧W2=W∧∃ i:Int,PE e b n 10 11 a i j∧i0≤i∧(i≤j+1∨i=i0)∧(j+1-i).toNat=k) (j+1-i0).toNat ⟨rfl,rfl,i0,E,by omega,.inr rfl,rfl⟩ ?_; rintro k e ds W' ⟨rfl,rfl,i,E,T4,lZ,hk⟩; rw [rC,E.e0,E.e1,E.ei,E.ej]; simp only [Ds,AA]
 have kt:∀ (e2:Env) (q:Bool),e2 43=.bool q→PE e2 b n 10 11 a i j→(q=true→i≤j)→(Oh none (FA (fun k e ds W2=>ds=[]∧W2=W'∧∃ i:Int,PE e b n 10 11 a i j∧i0≤i∧(i≤j+1∨i=i0)∧(j+1-i).toNat=k) k K)) .normal e2 [] W':=by
  intro e2 q g E2 hq; simp only [Oh,Bi,g]
  refine AN (fun hb=>?_) (fun hb=>?_)
  ·have:=hq hb; simp only [Lu,Bi,Wg,E2.ei,Ae,AA]; rw [wrap64 (by omega) (by omega)]; exact ⟨(j+1-(i+1)).toNat,by omega,trivial,trivial,i+1,⟨by simp only [AW,Aa,Nat.reduceEqDiff,↓reduceIte,E2.e0],by simp only [AW,Aa,Nat.reduceEqDiff,↓reduceIte,E2.e1],by simp only [AW,↓reduceIte],by simp only [AW,Aa,Nat.reduceEqDiff,↓reduceIte,E2.ej]⟩,by omega,.inl (by omega),rfl⟩
  ·simp only [Lu,Rr,Wh]; exact EU e2 i E2 T4 lZ
 refine MB (fun hle=>?_) (fun Xv=>?_)
 ·obtain ⟨x,hx⟩:=hd.ld (i:=i) (by omega) (by omega); obtain ⟨y,hy⟩:=hd.ld (i:=a) (by omega) (by omega); rw [Bq (by omega) (by omega),Bq (by omega) (by omega)]; simp only [hx,hy,AA]; refine BA (DH x y W') ?_; refine ⟨by simp only [and_self],trivial,?_⟩; exact kt _ (decide (x<y)) (by simp only [AW,↓reduceIte]) ⟨by simp only [AW,Aa,Nat.reduceEqDiff,↓reduceIte,E.e0],by simp only [AW,Aa,Nat.reduceEqDiff,↓reduceIte,E.e1],by simp only [AW,Aa,Nat.reduceEqDiff,↓reduceIte,E.ei],by simp only [AW,Aa,Nat.reduceEqDiff,↓reduceIte,E.ej]⟩ fun _=>hle
 ·refine ⟨trivial,trivial,?_⟩; exact kt _ false (by simp only [AW,↓reduceIte]) ⟨by simp only [AW,Aa,Nat.reduceEqDiff,↓reduceIte,E.e0],by simp only [AW,Aa,Nat.reduceEqDiff,↓reduceIte,E.e1],by simp only [AW,Aa,Nat.reduceEqDiff,↓reduceIte,E.ei],by simp only [AW,Aa,Nat.reduceEqDiff,↓reduceIte,E.ej]⟩ fun h=>(by cases h)
theorem oU {W:CW} {K:AB} {e:Env} {b n:Nat} {a:Int} {i j0:Int} (hd:DA W b n) (hn:n≤1000000) (dg:0≤a) (De:a<n) (h0i:0≤i) (pn:j0<n) (E:PE e b n 10 11 a i j0)
  (Jq:i≤n+5) (R9:-5≤j0) (EU:∀ e' j,PE e' b n 10 11 a i j→j≤j0→(i≤j+1∨j=j0)→K (.exit 2) e' [] W) :
  Bj prog AM none 149 168 (.loop (AY prog 149 1)) e [] W K:=by
 refine Dh (fun k e ds W2=>ds=[]∧W2=W∧∃ j:Int,PE e b n 10 11 a i j∧j≤j0∧(i≤j+1∨j=j0)∧(j+1-i).toNat=k) (j0+1-i).toNat ⟨rfl,rfl,j0,E,by omega,.inr rfl,rfl⟩ ?_; rintro k e ds W' ⟨rfl,rfl,j,E,T4,lZ,hk⟩; rw [rD,E.e0,E.e1,E.ei,E.ej]; simp only [Ds,AA]
 have kt:∀ (e2:Env) (q:Bool),e2 60=.bool q→PE e2 b n 10 11 a i j→(q=true→i≤j)→(Oi none (FA (fun k e ds W2=>ds=[]∧W2=W'∧∃ j:Int,PE e b n 10 11 a i j∧j≤j0∧(i≤j+1∨j=j0)∧(j+1-i).toNat=k) k K)) .normal e2 [] W':=by
  intro e2 q g E2 hq; simp only [Oi,Bi,g]
  refine AN (fun hb=>?_) (fun hb=>?_)
  ·have:=hq hb; simp only [Lv,Bi,Wg,E2.ej,Ak,AA]; rw [wrap64 (by omega) (by omega)]; exact ⟨(j-1+1-i).toNat,by omega,trivial,trivial,j-1,⟨by simp only [AW,Aa,Nat.reduceEqDiff,↓reduceIte,E2.e0],by simp only [AW,Aa,Nat.reduceEqDiff,↓reduceIte,E2.e1],by simp only [AW,Aa,Nat.reduceEqDiff,↓reduceIte,E2.ei],by simp only [AW,↓reduceIte]⟩,by omega,.inl (by omega),rfl⟩
  ·simp only [Lv,Rr,Wh]; exact EU e2 j E2 T4 lZ
 refine MB (fun hle=>?_) (fun Xv=>?_)
 ·obtain ⟨x,hx⟩:=hd.ld (i:=j) (by omega) (by omega); obtain ⟨y,hy⟩:=hd.ld (i:=a) (by omega) (by omega); rw [Bq (by omega) (by omega),Bq (by omega) (by omega)]; simp only [hx,hy,AA]; refine BA (DH x y W') ?_; simp only [Ar,AA]; refine ⟨by simp only [and_self],trivial,?_⟩; exact kt _ (!decide (x<y)) (by simp only [AW,↓reduceIte]) ⟨by simp only [AW,Aa,Nat.reduceEqDiff,↓reduceIte,E.e0],by simp only [AW,Aa,Nat.reduceEqDiff,↓reduceIte,E.e1],by simp only [AW,Aa,Nat.reduceEqDiff,↓reduceIte,E.ei],by simp only [AW,Aa,Nat.reduceEqDiff,↓reduceIte,E.ej]⟩ fun _=>hle
 ·refine ⟨trivial,trivial,?_⟩; exact kt _ false (by simp only [AW,↓reduceIte]) ⟨by simp only [AW,Aa,Nat.reduceEqDiff,↓reduceIte,E.e0],by simp only [AW,Aa,Nat.reduceEqDiff,↓reduceIte,E.e1],by simp only [AW,Aa,Nat.reduceEqDiff,↓reduceIte,E.ei],by simp only [AW,Aa,Nat.reduceEqDiff,↓reduceIte,E.ej]⟩ fun h=>(by cases h)
theorem oV {W:CW} {K:AB} {e:Env} {b n:Nat} {a:Int} {i0 j:Int} (hd:DA W b n) (hn:n≤1000000) (dg:0≤a) (De:a<n) (h0i:0≤i0) (pn:j<n) (E:PE e b n 10 11 a i0 j)
  (Jq:i0≤n+5) (R9:-5≤j) (EU:∀ e' i,PE e' b n 10 11 a i j→i0≤i→(i≤j+1∨i=i0)→K (.exit 6) e' [] W) :
  Bj prog AM none 149 168 (.loop (AY prog 149 3)) e [] W K:=by
 refine Dh (fun k e ds W2=>ds=[]∧W2=W∧∃ i:Int,PE e b n 10 11 a i j∧i0≤i∧(i≤j+1∨i=i0)∧(j+1-i).toNat=k) (j+1-i0).toNat ⟨rfl,rfl,i0,E,by omega,.inr rfl,rfl⟩ ?_; rintro k e ds W' ⟨rfl,rfl,i,E,T4,lZ,hk⟩; rw [rF,E.e0,E.e1,E.ei,E.ej]; simp only [Ds,AA]
 have kt:∀ (e2:Env) (q:Bool),e2 112=.bool q→PE e2 b n 10 11 a i j→(q=true→i≤j)→(Oj none (FA (fun k e ds W2=>ds=[]∧W2=W'∧∃ i:Int,PE e b n 10 11 a i j∧i0≤i∧(i≤j+1∨i=i0)∧(j+1-i).toNat=k) k K)) .normal e2 [] W':=by
  intro e2 q g E2 hq; simp only [Oj,Bi,g]
  refine AN (fun hb=>?_) (fun hb=>?_)
  ·have:=hq hb; simp only [Lw,Bi,Wg,E2.ei,Ae,AA]; rw [wrap64 (by omega) (by omega)]; exact ⟨(j+1-(i+1)).toNat,by omega,trivial,trivial,i+1,⟨by simp only [AW,Aa,Nat.reduceEqDiff,↓reduceIte,E2.e0],by simp only [AW,Aa,Nat.reduceEqDiff,↓reduceIte,E2.e1],by simp only [AW,↓reduceIte],by simp only [AW,Aa,Nat.reduceEqDiff,↓reduceIte,E2.ej]⟩,by omega,.inl (by omega),rfl⟩
  ·simp only [Lw,Rr,Wh]; exact EU e2 i E2 T4 lZ
 refine MB (fun hle=>?_) (fun Xv=>?_)
 ·obtain ⟨x,hx⟩:=hd.ld (i:=i) (by omega) (by omega); obtain ⟨y,hy⟩:=hd.ld (i:=a) (by omega) (by omega); rw [Bq (by omega) (by omega),Bq (by omega) (by omega)]; simp only [hx,hy,AA]; refine BA (DH x y W') ?_; refine ⟨by simp only [and_self],trivial,?_⟩; exact kt _ (decide (x<y)) (by simp only [AW,↓reduceIte]) ⟨by simp only [AW,Aa,Nat.reduceEqDiff,↓reduceIte,E.e0],by simp only [AW,Aa,Nat.reduceEqDiff,↓reduceIte,E.e1],by simp only [AW,Aa,Nat.reduceEqDiff,↓reduceIte,E.ei],by simp only [AW,Aa,Nat.reduceEqDiff,↓reduceIte,E.ej]⟩ fun _=>hle
 ·refine ⟨trivial,trivial,?_⟩; exact kt _ false (by simp only [AW,↓reduceIte]) ⟨by simp only [AW,Aa,Nat.reduceEqDiff,↓reduceIte,E.e0],by simp only [AW,Aa,Nat.reduceEqDiff,↓reduceIte,E.e1],by simp only [AW,Aa,Nat.reduceEqDiff,↓reduceIte,E.ei],by simp only [AW,Aa,Nat.reduceEqDiff,↓reduceIte,E.ej]⟩ fun h=>(by cases h)
theorem oW {W:CW} {K:AB} {e:Env} {b n:Nat} {a:Int} {i j0:Int} (hd:DA W b n) (hn:n≤1000000) (dg:0≤a) (De:a<n) (h0i:0≤i) (pn:j0<n) (E:PE e b n 10 11 a i j0)
  (Jq:i≤n+5) (R9:-5≤j0) (EU:∀ e' j,PE e' b n 10 11 a i j→j≤j0→(i≤j+1∨j=j0)→K (.exit 8) e' [] W) :
  Bj prog AM none 149 168 (.loop (AY prog 149 4)) e [] W K:=by
 refine Dh (fun k e ds W2=>ds=[]∧W2=W∧∃ j:Int,PE e b n 10 11 a i j∧j≤j0∧(i≤j+1∨j=j0)∧(j+1-i).toNat=k) (j0+1-i).toNat ⟨rfl,rfl,j0,E,by omega,.inr rfl,rfl⟩ ?_; rintro k e ds W' ⟨rfl,rfl,j,E,T4,lZ,hk⟩; rw [rG,E.e0,E.e1,E.ei,E.ej]; simp only [Ds,AA]
 have kt:∀ (e2:Env) (q:Bool),e2 129=.bool q→PE e2 b n 10 11 a i j→(q=true→i≤j)→(Ol none (FA (fun k e ds W2=>ds=[]∧W2=W'∧∃ j:Int,PE e b n 10 11 a i j∧j≤j0∧(i≤j+1∨j=j0)∧(j+1-i).toNat=k) k K)) .normal e2 [] W':=by
  intro e2 q g E2 hq; simp only [Ol,Bi,g]
  refine AN (fun hb=>?_) (fun hb=>?_)
  ·have:=hq hb; simp only [Lx,Bi,Wg,E2.ej,Ak,AA]; rw [wrap64 (by omega) (by omega)]; exact ⟨(j-1+1-i).toNat,by omega,trivial,trivial,j-1,⟨by simp only [AW,Aa,Nat.reduceEqDiff,↓reduceIte,E2.e0],by simp only [AW,Aa,Nat.reduceEqDiff,↓reduceIte,E2.e1],by simp only [AW,Aa,Nat.reduceEqDiff,↓reduceIte,E2.ei],by simp only [AW,↓reduceIte]⟩,by omega,.inl (by omega),rfl⟩
  ·simp only [Lx,Rr,Wh]; exact EU e2 j E2 T4 lZ
 refine MB (fun hle=>?_) (fun Xv=>?_)
 ·obtain ⟨x,hx⟩:=hd.ld (i:=j) (by omega) (by omega); obtain ⟨y,hy⟩:=hd.ld (i:=a) (by omega) (by omega); rw [Bq (by omega) (by omega),Bq (by omega) (by omega)]; simp only [hx,hy,AA]; refine BA (DH x y W') ?_; simp only [Ar,AA]; refine ⟨by simp only [and_self],trivial,?_⟩; exact kt _ (!decide (x<y)) (by simp only [AW,↓reduceIte]) ⟨by simp only [AW,Aa,Nat.reduceEqDiff,↓reduceIte,E.e0],by simp only [AW,Aa,Nat.reduceEqDiff,↓reduceIte,E.e1],by simp only [AW,Aa,Nat.reduceEqDiff,↓reduceIte,E.ei],by simp only [AW,Aa,Nat.reduceEqDiff,↓reduceIte,E.ej]⟩ fun _=>hle
 ·refine ⟨trivial,trivial,?_⟩; exact kt _ false (by simp only [AW,↓reduceIte]) ⟨by simp only [AW,Aa,Nat.reduceEqDiff,↓reduceIte,E.e0],by simp only [AW,Aa,Nat.reduceEqDiff,↓reduceIte,E.e1],by simp only [AW,Aa,Nat.reduceEqDiff,↓reduceIte,E.ei],by simp only [AW,Aa,Nat.reduceEqDiff,↓reduceIte,E.ej]⟩ fun h=>(by cases h)
theorem oY {W:CW} {K:AB} {e:Env} {b n:Nat} {a:Int} {i0 j:Int} (hd:DA W b n) (hn:n≤1000000) (dg:0≤a) (De:a<n) (h0i:0≤i0) (pn:j<n) (E:PE e b n 9 10 a i0 j)
  (Jq:i0≤n+5) (R9:-5≤j) (EU:∀ e' i,PE e' b n 9 10 a i j→i0≤i→(i≤j+1∨i=i0)→K (.exit 2) e' [] W) :
  Bj prog AM none 148 84 (.loop (AY prog 148 1)) e [] W K:=by
 refine Dh (fun k e ds W2=>ds=[]∧W2=W∧∃ i:Int,PE e b n 9 10 a i j∧i0≤i∧(i≤j+1∨i=i0)∧(j+1-i).toNat=k) (j+1-i0).toNat ⟨rfl,rfl,i0,E,by omega,.inr rfl,rfl⟩ ?_; rintro k e ds W' ⟨rfl,rfl,i,E,T4,lZ,hk⟩; rw [rA,E.e0,E.e1,E.ei,E.ej]; simp only [Ds,AA]
 have kt:∀ (e2:Env) (q:Bool),e2 43=.bool q→PE e2 b n 9 10 a i j→(q=true→i≤j)→(Sy none (FA (fun k e ds W2=>ds=[]∧W2=W'∧∃ i:Int,PE e b n 9 10 a i j∧i0≤i∧(i≤j+1∨i=i0)∧(j+1-i).toNat=k) k K)) .normal e2 [] W':=by
  intro e2 q g E2 hq; simp only [Sy,Bi,g]
  refine AN (fun hb=>?_) (fun hb=>?_)
  ·have:=hq hb; simp only [Oe,Bi,Wg,E2.ei,Ae,AA]; rw [wrap64 (by omega) (by omega)]; exact ⟨(j+1-(i+1)).toNat,by omega,trivial,trivial,i+1,⟨by simp only [AW,Aa,Nat.reduceEqDiff,↓reduceIte,E2.e0],by simp only [AW,Aa,Nat.reduceEqDiff,↓reduceIte,E2.e1],by simp only [AW,↓reduceIte],by simp only [AW,Aa,Nat.reduceEqDiff,↓reduceIte,E2.ej]⟩,by omega,.inl (by omega),rfl⟩
  ·simp only [Oe,Rr,Wh]; exact EU e2 i E2 T4 lZ
 refine MB (fun hle=>?_) (fun Xv=>?_)
 ·obtain ⟨x,hx⟩:=hd.ld (i:=i) (by omega) (by omega); obtain ⟨y,hy⟩:=hd.ld (i:=a) (by omega) (by omega); rw [Bq (by omega) (by omega),Bq (by omega) (by omega)]; simp only [hx,hy,AA]; refine BA (DH y x W') ?_; simp only [Ar,AA]; refine ⟨by simp only [and_self],trivial,?_⟩; exact kt _ (!decide (y<x)) (by simp only [AW,↓reduceIte]) ⟨by simp only [AW,Aa,Nat.reduceEqDiff,↓reduceIte,E.e0],by simp only [AW,Aa,Nat.reduceEqDiff,↓reduceIte,E.e1],by simp only [AW,Aa,Nat.reduceEqDiff,↓reduceIte,E.ei],by simp only [AW,Aa,Nat.reduceEqDiff,↓reduceIte,E.ej]⟩ fun _=>hle
 ·refine ⟨trivial,trivial,?_⟩; exact kt _ false (by simp only [AW,↓reduceIte]) ⟨by simp only [AW,Aa,Nat.reduceEqDiff,↓reduceIte,E.e0],by simp only [AW,Aa,Nat.reduceEqDiff,↓reduceIte,E.e1],by simp only [AW,Aa,Nat.reduceEqDiff,↓reduceIte,E.ei],by simp only [AW,Aa,Nat.reduceEqDiff,↓reduceIte,E.ej]⟩ fun h=>(by cases h)
theorem oZ {W:CW} {K:AB} {e:Env} {b n:Nat} {a:Int} {i j0:Int} (hd:DA W b n) (hn:n≤1000000) (dg:0≤a) (De:a<n) (h0i:0≤i) (pn:j0<n) (E:PE e b n 9 10 a i j0)
  (Jq:i≤n+5) (R9:-5≤j0) (EU:∀ e' j,PE e' b n 9 10 a i j→j≤j0→(i≤j+1∨j=j0)→K (.exit 4) e' [] W) :
  Bj prog AM none 148 84 (.loop (AY prog 148 2)) e [] W K:=by
 refine Dh (fun k e ds W2=>ds=[]∧W2=W∧∃ j:Int,PE e b n 9 10 a i j∧j≤j0∧(i≤j+1∨j=j0)∧(j+1-i).toNat=k) (j0+1-i).toNat ⟨rfl,rfl,j0,E,by omega,.inr rfl,rfl⟩ ?_; rintro k e ds W' ⟨rfl,rfl,j,E,T4,lZ,hk⟩; rw [rB,E.e0,E.e1,E.ei,E.ej]; simp only [Ds,AA]
 have kt:∀ (e2:Env) (q:Bool),e2 59=.bool q→PE e2 b n 9 10 a i j→(q=true→i≤j)→(Of none (FA (fun k e ds W2=>ds=[]∧W2=W'∧∃ j:Int,PE e b n 9 10 a i j∧j≤j0∧(i≤j+1∨j=j0)∧(j+1-i).toNat=k) k K)) .normal e2 [] W':=by
  intro e2 q g E2 hq; simp only [Of,Bi,g]
  refine AN (fun hb=>?_) (fun hb=>?_)
  ·have:=hq hb; simp only [Lt,Bi,Wg,E2.ej,Ak,AA]; rw [wrap64 (by omega) (by omega)]; exact ⟨(j-1+1-i).toNat,by omega,trivial,trivial,j-1,⟨by simp only [AW,Aa,Nat.reduceEqDiff,↓reduceIte,E2.e0],by simp only [AW,Aa,Nat.reduceEqDiff,↓reduceIte,E2.e1],by simp only [AW,Aa,Nat.reduceEqDiff,↓reduceIte,E2.ei],by simp only [AW,↓reduceIte]⟩,by omega,.inl (by omega),rfl⟩
  ·simp only [Lt,Rr,Wh]; exact EU e2 j E2 T4 lZ
 refine MB (fun hle=>?_) (fun Xv=>?_)
 ·obtain ⟨x,hx⟩:=hd.ld (i:=j) (by omega) (by omega); obtain ⟨y,hy⟩:=hd.ld (i:=a) (by omega) (by omega); rw [Bq (by omega) (by omega),Bq (by omega) (by omega)]; simp only [hx,hy,AA]; refine BA (DH y x W') ?_; refine ⟨by simp only [and_self],trivial,?_⟩; exact kt _ (decide (y<x)) (by simp only [AW,↓reduceIte]) ⟨by simp only [AW,Aa,Nat.reduceEqDiff,↓reduceIte,E.e0],by simp only [AW,Aa,Nat.reduceEqDiff,↓reduceIte,E.e1],by simp only [AW,Aa,Nat.reduceEqDiff,↓reduceIte,E.ei],by simp only [AW,Aa,Nat.reduceEqDiff,↓reduceIte,E.ej]⟩ fun _=>hle
 ·refine ⟨trivial,trivial,?_⟩; exact kt _ false (by simp only [AW,↓reduceIte]) ⟨by simp only [AW,Aa,Nat.reduceEqDiff,↓reduceIte,E.e0],by simp only [AW,Aa,Nat.reduceEqDiff,↓reduceIte,E.e1],by simp only [AW,Aa,Nat.reduceEqDiff,↓reduceIte,E.ei],by simp only [AW,Aa,Nat.reduceEqDiff,↓reduceIte,E.ej]⟩ fun h=>(by cases h)
end Go.Ce
namespace Go.Ce
open Go Go.Proofs Go.Proofs.Tryz
theorem SN {W:CW} {b n:Nat} {a hi p:Int} (ht:Aq W) (hd:DA W b n) (hn:n≤1000000) (ha:0≤a) (PN:hi≤n) (hah:a<hi) (VW:a≤p) (SK:p<hi) :
  AD prog AM 149 [.slice (some ⟨b,0,none⟩) n n,.int .i64 a,.int .i64 hi,.int .i64 p] W (fun en W'=>SD W W' b n∧∃ m q,en=.returned (.tuple #[.int .i64 m,.bool q])∧a≤m∧m<hi):=by
 refine wE ?_; rw [wD]; generalize LM:AI prog Tryz.f149 (fun en W'=>SD W W' b n∧∃ m q,en=.returned (.tuple #[.int .i64 m,.bool q])∧a≤m∧m<hi)=KK
 have HS:∀ (e:Env) W' m q,SD W W' b n→e 8=.int .i64 m→e 9=.bool q→a≤m→m<hi→KK .ret e [] W':=by
  intro e W' m q S h8 h9 h1 h2; rw [←LM,eJ,h8,h9]; exact ⟨S,m,q,rfl,h1,h2⟩
 obtain ⟨x,hx⟩:=hd.ld (i:=p) (by omega) (by omega); obtain ⟨y,hy⟩:=hd.ld (i:=a) (by omega) (by omega); rw [Bq (by omega) (by omega),Bq (by omega) (by omega)]; simp only [hx,hy,AA]; refine Es hd (by omega) (by omega) fun W2 H4 d2=>?_; refine Es d2 (by omega) (by omega) fun W3 LO d3=>?_; refine ⟨by simp only [and_self],trivial,?_⟩; have S3:=((SD.start ht hd).put H4 d2).put LO d3; simp only [Ae,Ak,AA]; rw [wrap64 (x:=a+1) (by omega) (by omega),wrap64 (x:=hi-1) (by omega) (by omega)]; refine oT d3 hn ha (by omega) (by omega) (by omega) ⟨rfl,rfl,rfl,rfl⟩ (by omega) (by omega) fun e1 i1 E1 lZ AFx=>?_; simp only [JB,if_true,aH,Bi]; refine oU d3 hn ha (by omega) (by omega) (by omega) E1 (by omega) (by omega) fun e2 j1 E2 s7 AFy=>?_; simp only [JB,if_true,gq,Bi,E2.e0,E2.e1,E2.ei,E2.ej,CO,AA]
 refine VA (fun Xv=>?_) (fun hle=>?_)
 ·obtain ⟨x,hx⟩:=d3.ld (i:=a) (by omega) (by omega); obtain ⟨y,hy⟩:=d3.ld (i:=j1) (by omega) (by omega); rw [Bq (by omega) (by omega),Bq (by omega) (by omega)]; simp only [hx,hy,AA]; refine Es d3 (by omega) (by omega) fun W4 j7 d4=>?_; refine Es d4 (by omega) (by omega) fun W5 Im d5=>?_; refine ⟨by simp only [and_self],trivial,?_⟩; exact HS _ W5 j1 true ((S3.put j7 d4).put Im d5) (by simp only [AW,Nat.reduceEqDiff,↓reduceIte]) (by simp only [AW,↓reduceIte]) (by omega) (by omega)
 obtain ⟨x,hx⟩:=d3.ld (i:=j1) (by omega) (by omega); obtain ⟨y,hy⟩:=d3.ld (i:=i1) (by omega) (by omega); rw [Bq (by omega) (by omega),Bq (by omega) (by omega)]; simp only [hx,hy,AA]; refine Es d3 (by omega) (by omega) fun W4 j7 d4=>?_; refine Es d4 (by omega) (by omega) fun W5 Im d5=>?_; refine ⟨by simp only [and_self],trivial,?_⟩; have S5:=(S3.put j7 d4).put Im d5; simp only [Ae,Ak,AA]; rw [wrap64 (x:=i1+1) (by omega) (by omega),wrap64 (x:=j1-1) (by omega) (by omega)]
 refine Dh (fun k e ds W'=>ds=[]∧SD W W' b n∧∃ i j:Int,PE e b n 10 11 a i j∧a<i∧i≤hi+1∧a≤j∧j<hi∧(j+1-i).toNat=k) (j1-1+1-(i1+1)).toNat ?_ ?_
 ·exact ⟨rfl,S5,i1+1,j1-1,⟨by simp only [AW,Aa,Nat.reduceEqDiff,↓reduceIte,E2.e0],by simp only [AW,Aa,Nat.reduceEqDiff,↓reduceIte,E2.e1],by simp only [AW,Nat.reduceEqDiff,↓reduceIte],by simp only [AW,↓reduceIte]⟩,by omega,by omega,by omega,by omega,rfl⟩
 rintro k e3 ds W6 ⟨rfl,S,i,j,E3,i0,i9,j0,j9,hk⟩; rw [rE]; refine oV S.da hn ha (by omega) (by omega) (by omega) E3 (by omega) (by omega) fun e4 i2 E4 hi2 AEg=>?_; simp only [JB,if_true,aJ,Bi]; refine oW S.da hn ha (by omega) (by omega) (by omega) E4 (by omega) (by omega) fun e5 j2 E5 qR AEh=>?_; simp only [JB,if_true,aI,Bi,E5.e0,E5.ei,E5.ej,CO,AA]
 refine VA (fun Xv=>?_) (fun hle=>?_)
 ·simp only [Wh,JB,if_true,gp,Bi]; simp only [AW,Aa,Nat.reduceEqDiff,↓reduceIte,E5.e0,E5.e1,E5.ej]; obtain ⟨x,hx⟩:=S.da.ld (i:=a) (by omega) (by omega); obtain ⟨y,hy⟩:=S.da.ld (i:=j2) (by omega) (by omega); rw [Bq (by omega) (by omega),Bq (by omega) (by omega)]; simp only [hx,hy,AA]; refine Es S.da (by omega) (by omega) fun W7 ZL d7=>?_; refine Es d7 (by omega) (by omega) fun W8 iL d8=>?_; refine ⟨by simp only [and_self],trivial,?_⟩; exact HS _ W8 j2 false ((S.put ZL d7).put iL d8) (by simp only [AW,Nat.reduceEqDiff,↓reduceIte]) (by simp only [AW,↓reduceIte]) (by omega) (by omega)
 ·obtain ⟨x,hx⟩:=S.da.ld (i:=j2) (by omega) (by omega); obtain ⟨y,hy⟩:=S.da.ld (i:=i2) (by omega) (by omega); rw [Bq (by omega) (by omega),Bq (by omega) (by omega)]; simp only [hx,hy,AA]; refine Es S.da (by omega) (by omega) fun W7 ZL d7=>?_; refine Es d7 (by omega) (by omega) fun W8 iL d8=>?_; refine ⟨by simp only [and_self],trivial,?_⟩; simp only [Ae,Ak,AA,Wg]; rw [wrap64 (x:=i2+1) (by omega) (by omega),wrap64 (x:=j2-1) (by omega) (by omega)]; exact ⟨(j2-1+1-(i2+1)).toNat,by omega,trivial,(S.put ZL d7).put iL d8,i2+1,j2-1,⟨by simp only [AW,Aa,Nat.reduceEqDiff,↓reduceIte,E5.e0],by simp only [AW,Aa,Nat.reduceEqDiff,↓reduceIte,E5.e1],by simp only [AW,Nat.reduceEqDiff,↓reduceIte],by simp only [AW,↓reduceIte]⟩,by omega,by omega,by omega,by omega,rfl⟩
theorem bS {W:CW} {b n:Nat} {a hi p:Int} (ht:Aq W) (hd:DA W b n) (hn:n≤1000000) (ha:0≤a) (PN:hi≤n) (hah:a<hi) (VW:a≤p) (SK:p<hi) :
  AD prog AM 148 [.slice (some ⟨b,0,none⟩) n n,.int .i64 a,.int .i64 hi,.int .i64 p] W (fun en W'=>SD W W' b n∧∃ m,en=.returned (.int .i64 m)∧a<m∧m≤hi):=by
 refine wC ?_; rw [wB]; obtain ⟨x,hx⟩:=hd.ld (i:=p) (by omega) (by omega); obtain ⟨y,hy⟩:=hd.ld (i:=a) (by omega) (by omega); rw [Bq (by omega) (by omega),Bq (by omega) (by omega)]; simp only [hx,hy,AA]; refine Es hd (by omega) (by omega) fun W2 H4 d2=>?_; refine Es d2 (by omega) (by omega) fun W3 LO d3=>?_; refine ⟨by simp only [and_self],trivial,?_⟩; have S3:=((SD.start ht hd).put H4 d2).put LO d3; simp only [Ae,Ak,AA]; rw [wrap64 (x:=a+1) (by omega) (by omega),wrap64 (x:=hi-1) (by omega) (by omega)]; refine Dh (fun k e ds W'=>ds=[]∧SD W W' b n∧∃ i j:Int,PE e b n 9 10 a i j∧a<i∧i≤hi∧a≤j∧j<hi∧(j+1-i).toNat=k) (hi-1+1-(a+1)).toNat ⟨rfl,S3,a+1,hi-1,⟨rfl,rfl,rfl,rfl⟩,by omega,by omega,by omega,by omega,rfl⟩ ?_; rintro k e3 ds W6 ⟨rfl,S,i,j,E3,i0,i9,j0,j9,hk⟩; rw [q_]; refine oY S.da hn ha (by omega) (by omega) (by omega) E3 (by omega) (by omega) fun e4 i2 E4 hi2 AEg=>?_; simp only [JB,if_true,gn,Bi]; refine oZ S.da hn ha (by omega) (by omega) (by omega) E4 (by omega) (by omega) fun e5 j2 E5 qR AEh=>?_; simp only [JB,if_true,gm,Bi,E5.e0,E5.ei,E5.ej,CO,AA]
 refine VA (fun Xv=>?_) (fun hle=>?_)
 ·simp only [Wh,JB,if_true,gl,Bi]; rw [eH]; refine ⟨S,i2,?_,by omega,by omega⟩; simp only [AW,Aa,Nat.reduceEqDiff,↓reduceIte,E5.ei]
 ·obtain ⟨x,hx⟩:=S.da.ld (i:=j2) (by omega) (by omega); obtain ⟨y,hy⟩:=S.da.ld (i:=i2) (by omega) (by omega); rw [Bq (by omega) (by omega),Bq (by omega) (by omega)]; simp only [hx,hy,AA]; refine Es S.da (by omega) (by omega) fun W7 ZL d7=>?_; refine Es d7 (by omega) (by omega) fun W8 iL d8=>?_; refine ⟨by simp only [and_self],trivial,?_⟩; simp only [Ae,Ak,AA,Wg]; rw [wrap64 (x:=i2+1) (by omega) (by omega),wrap64 (x:=j2-1) (by omega) (by omega)]; exact ⟨(j2-1+1-(i2+1)).toNat,by omega,trivial,(S.put ZL d7).put iL d8,i2+1,j2-1,⟨by simp only [AW,Aa,Nat.reduceEqDiff,↓reduceIte,E5.e0],by simp only [AW,Aa,Nat.reduceEqDiff,↓reduceIte,E5.e1],by simp only [AW,Nat.reduceEqDiff,↓reduceIte],by simp only [AW,↓reduceIte]⟩,by omega,by omega,by omega,by omega,rfl⟩
def J7 (n:Nat):Nat:=if n=0 then 0 else Nat.log2 n+1
noncomputable def oa (n:Nat):Bool:=match idx prog 9 (.string ⟨#[0,1,2,2,3,3,3,3,4,4,4,4,4,4,4,4,5,5,5,5,5,5,5,5,5,5,5,5,5,5,5,5,6,6,6,6,6,6,6,6,6,6,6,6,6,6,6,6,6,6,6,6,6,6,6,6,6,6,6,6,6,6,6,6,7,7,7,7,7,7,7,7,7,7,7,7,7,7,7,7,7,7,7,7,7,7,7,7,7,7,7,7,7,7,7,7,7,7,7,7,7,7,7,7,7,7,7,7,7,7,7,7,7,7,7,7,7,7,7,7,7,7,7,7,7,7,7,7,8,8,8,8,8,8,8,8,8,8,8,8,8,8,8,8,8,8,8,8,8,8,8,8,8,8,8,8,8,8,8,8,8,8,8,8,8,8,8,8,8,8,8,8,8,8,8,8,8,8,8,8,8,8,8,8,8,8,8,8,8,8,8,8,8,8,8,8,8,8,8,8,8,8,8,8,8,8,8,8,8,8,8,8,8,8,8,8,8,8,8,8,8,8,8,8,8,8,8,8,8,8,8,8,8,8,8,8,8,8,8,8,8,8,8,8,8,8,8,8,8,8,8,8,8,8,8,8]⟩) (.int .u8 (n:Int)) with
 | some (.int .u8 x)=>decide (x=(J7 n:Int)) && decide (J7 n≤6) && decide (8≤n→2 ^ J7 n≤2*n)
 | _=>false
theorem yf:(List.range 50).all oa=true:=by kernel_rfl
theorem Ys {n:Nat} (hn:n<50):idx prog 9 (.string ⟨#[0,1,2,2,3,3,3,3,4,4,4,4,4,4,4,4,5,5,5,5,5,5,5,5,5,5,5,5,5,5,5,5,6,6,6,6,6,6,6,6,6,6,6,6,6,6,6,6,6,6,6,6,6,6,6,6,6,6,6,6,6,6,6,6,7,7,7,7,7,7,7,7,7,7,7,7,7,7,7,7,7,7,7,7,7,7,7,7,7,7,7,7,7,7,7,7,7,7,7,7,7,7,7,7,7,7,7,7,7,7,7,7,7,7,7,7,7,7,7,7,7,7,7,7,7,7,7,7,8,8,8,8,8,8,8,8,8,8,8,8,8,8,8,8,8,8,8,8,8,8,8,8,8,8,8,8,8,8,8,8,8,8,8,8,8,8,8,8,8,8,8,8,8,8,8,8,8,8,8,8,8,8,8,8,8,8,8,8,8,8,8,8,8,8,8,8,8,8,8,8,8,8,8,8,8,8,8,8,8,8,8,8,8,8,8,8,8,8,8,8,8,8,8,8,8,8,8,8,8,8,8,8,8,8,8,8,8,8,8,8,8,8,8,8,8,8,8,8,8,8,8,8,8,8,8,8]⟩) (.int .u8 (n:Int))=some (.int .u8 (J7 n:Int))∧J7 n≤6∧(8≤n→2 ^ J7 n≤2*n):=by
 have h:=List.all_eq_true.1 yf n (List.mem_range.2 hn); unfold oa at h
 split at h
 ·rename_i x hx; simp only [Bool.and_eq_true,decide_eq_true_eq] at h; rw [hx,h.1.1]; exact ⟨rfl,h.1.2,h.2⟩
 ·cases h
theorem yg (n:Int):cO prog 197 5 (.int .u64 n)=some (.int .u8 (IntKind.u8.wrap n)):=by kernel_rfl
theorem ACU (n:Int):cO prog 5 3 (.int .u8 n)=some (.int .i64 (IntKind.i64.wrap n)):=by kernel_rfl
theorem oc (n:Int):cO prog 3 164 (.int .i64 n)=some (.int .u64 (IntKind.u64.wrap n)):=by kernel_rfl
theorem ACV (n:Int):cO prog 3 205 (.int .i64 n)=some (.int .u64 (IntKind.u64.wrap n)):=by kernel_rfl
theorem ACW (n:Int):cO prog 164 3 (.int .u64 n)=some (.int .i64 (IntKind.i64.wrap n)):=by kernel_rfl
theorem bT {x:Int} (h1:0≤x) (h2:x<18446744073709551616):IntKind.u64.wrap x=x:=by
 unfold IntKind.wrap; simp [IntKind.bits,IntKind.signed]; omega
theorem Q0 {n:Nat} (hn:n<50) (W:CW):AD prog AM 116 [.int .u64 (n:Int)] W (Gk (.int .i64 (J7 n:Int)) W):=by
 obtain ⟨h1,h2,_⟩:=Ys hn
 have AEi:AD prog AM 139 [.int .u64 (n:Int)] W (Gk (.int .i64 (J7 n:Int)) W):=by
  refine vV ?_; rw [vU]; simp only [DL,AA]; rw [decide_eq_false (by omega)]; simp only [Ay,YE,Bi]; simp only [AW,Aa,aK,Nat.reduceEqDiff,↓reduceIte,aL,ZF,DL,AA]; rw [decide_eq_false (by omega)]; simp only [Ay,YD,Bi]; simp only [AW,Aa,aK,Nat.reduceEqDiff,↓reduceIte,aL,ZF,DL,AA]; rw [decide_eq_false (by omega)]; simp only [Ay,YC,Bi]; simp only [AW,Aa,aK,Nat.reduceEqDiff,↓reduceIte,aL,ZF,yg,AA]; rw [nL (by omega) (by omega),h1]; simp only [AA,ACU,Ae]; rw [wrap64 (x:=(J7 n:Int)) (by omega) (by omega),Int.zero_add,wrap64 (x:=(J7 n:Int)) (by omega) (by omega),eC]; exact ⟨rfl,rfl⟩
 refine vT ?_; rw [vS]; refine BA AEi ?_; rw [d_]; exact ⟨rfl,rfl⟩
theorem yh {t:Nat} (h:t≤6):AH prog .shl 164 true (.int .u64 1) (.int .i64 (t:Int))=some (.int .u64 ((2 ^ t:Nat):Int)):=by
 have h:t=0∨t=1∨t=2∨t=3∨t=4∨t=5∨t=6:=by omega
 rcases h with rfl | rfl | rfl | rfl | rfl | rfl | rfl <;> rfl
theorem j8 {n:Nat} (hn:n<50) (W:CW):AD prog AM 151 [.int .i64 (n:Int)] W (Gk (.int .u64 ((2 ^ J7 n:Nat):Int)) W):=by
 obtain ⟨_,h2,_⟩:=Ys hn; refine wG ?_; rw [wF,oc]; simp only [AA]; rw [bT (by omega) (by omega)]; refine BA (Q0 hn W) ?_; have hs:=yh h2; rw [hs]; simp only [AA]; rw [eK]; exact ⟨rfl,rfl⟩
theorem AEj:agg? prog 205=some false:=by kernel_rfl
theorem od:Db prog 205=some 1:=by kernel_rfl
theorem AEk:Gp prog 205=some (.int .u64 0):=by kernel_rfl
theorem oe (x c:Int) (hc:0≤c):∃ y,AH prog .shl 205 true (.int .u64 x) (.int .u64 c)=some (.int .u64 y):=by
 refine ⟨IntKind.u64.wrap (x*2 ^ (min c.toNat IntKind.u64.bits)),?_⟩; simp only [AH]; rw [decide_eq_false (by omega)]; rfl
theorem yi (x c:Int) (hc:0≤c):∃ y,AH prog .shr 205 true (.int .u64 x) (.int .u64 c)=some (.int .u64 y):=by
 refine ⟨x.fdiv (2 ^ (min c.toNat IntKind.u64.bits)),?_⟩; simp only [AH]; rw [decide_eq_false (by omega)]; rfl
theorem fb (x y:Int):∃ z,AH prog .xor 205 false (.int .u64 x) (.int .u64 y)=some (.int .u64 z):=⟨IntKind.u64.wrap ((BitVec.ofInt 64 x ^^^ BitVec.ofInt 64 y).toNat),by simp only [AH,Mu,decide_true,cond_true]; rfl⟩
theorem fc {W:CW} {s:Nat} {k:Int} (ht:Aq W) (hs:BF W s 205 [.int .u64 k]):AD prog AM 152 [.pointer (some ⟨s,0,none⟩)] W (fun en W'=>DF (·=s) W W'∧Aq W'∧∃ k',BF W' s 205 [.int .u64 k']∧en=.returned (.int .u64 k')):=by
 refine wJ ?_; rw [wH]; have ld:∀ {V:CW} {k:Int},BF V s 205 [.int .u64 k]→Go.Ce.ld prog 205 (.pointer (some ⟨s,0,none⟩)) V=some (.int .u64 k):=fun hB=>AF AEj (a:=⟨s,0,none⟩) (hB.cell rfl); obtain ⟨x1,h1⟩:=oe k 13 (by omega); obtain ⟨x2,h2⟩:=fb k x1; simp only [Bz,ld hs,h1,h2,AA]; refine Am od (a:=⟨s,0,none⟩) (v:=.int .u64 x2) rfl hs (by simp) fun W1 PQ VT=>?_; have PQ:Da s W W1:=PQ; have VT:BF W1 s 205 [.int .u64 x2]:=VT; have t1:=ht.Az (hs.lt ht) PQ; refine ⟨by simp only [and_self],trivial,?_⟩; obtain ⟨x3,h3⟩:=yi x2 7 (by omega); obtain ⟨x4,h4⟩:=fb x2 x3; simp only [ld VT,h3,h4,AA]; refine Am od (a:=⟨s,0,none⟩) (v:=.int .u64 x4) rfl VT (by simp) fun W2 H4 HN=>?_; have H4:Da s W1 W2:=H4; have HN:BF W2 s 205 [.int .u64 x4]:=HN; have t2:=t1.Az (VT.lt t1) H4; refine ⟨by simp only [and_self],trivial,?_⟩; obtain ⟨x5,h5⟩:=oe x4 17 (by omega); obtain ⟨x6,h6⟩:=fb x4 x5; simp only [ld HN,h5,h6,AA]; refine Am od (a:=⟨s,0,none⟩) (v:=.int .u64 x6) rfl HN (by simp) fun W3 LO IJ=>?_; have LO:Da s W2 W3:=LO; have IJ:BF W3 s 205 [.int .u64 x6]:=IJ; refine ⟨by simp only [and_self],trivial,?_⟩; simp only [ld IJ,AA]; rw [eL]; exact ⟨(PQ.Gy.then H4.Gy fun _ _ h=>h).then LO.Gy fun _ _ h=>h,t2.Az (HN.lt t2) LO,x6,IJ,rfl⟩
theorem yj (x:Int) {m:Nat} (hm:m≤1000):∃ w:Nat,AH prog .and 164 false (.int .u64 x) (.int .u64 (m:Int))=some (.int .u64 (w:Int))∧w≤m:=by
 have h:AH prog .and 164 false (.int .u64 x) (.int .u64 (m:Int))=some (.int .u64 (IntKind.u64.wrap ((BitVec.ofInt 64 x &&& BitVec.ofInt 64 (m:Int)).toNat))):=by simp only [AH,Mu,decide_true,cond_true]; rfl
 have hle:(BitVec.ofInt 64 x &&& BitVec.ofInt 64 (m:Int)).toNat≤m:=by
  rw [BitVec.toNat_and]; refine Nat.le_trans Nat.and_le_right ?_; rw [BitVec.toNat_ofInt]; omega
 exact ⟨_,by rw [h,bT (by omega) (by omega)],hle⟩
theorem bU {W:CW} {b n:Nat} {lo hi:Int} (ht:Aq W) (hd:DA W b n) (hn:n<50) (XB:0≤lo) (PN:hi≤n) (h8:8≤hi-lo) :
  AD prog AM 143 [.slice (some ⟨b,0,none⟩) n n,.int .i64 lo,.int .i64 hi] W (lY b n W):=by
 refine vj ?_; rw [vi]; obtain ⟨l,hl⟩:∃ l:Nat,hi-lo=(l:Int):=⟨(hi-lo).toNat,by omega⟩
 obtain ⟨_,hl6,ACX⟩:=Ys (n:=l) (by omega); have ACX:=ACX (by omega); simp only [Ak,AA]; rw [wrap64 (by omega) (by omega),hl]; simp only [DL,AA]; rw [decide_eq_true (show (l:Int)≥8 by omega),Bx,ACV]; simp only [AA]; refine HM AEk od ht fun W0 k0 t0 z0 Vz=>?_; have Vz:BF W0 W.sz 205 [.int .u64 0]:=Vz; refine Am od (a:=⟨W.sz,0,none⟩) (v:=.int .u64 (IntKind.u64.wrap (l:Int))) rfl Vz (by simp) fun W1 PQ VT=>?_; have PQ:Da W.sz W0 W1:=PQ; have VT:BF W1 W.sz 205 [.int .u64 (IntKind.u64.wrap (l:Int))]:=VT; have t1:=t0.Az (Vz.lt t0) PQ; have k1:Kp W W1:=k0.Az (Nat.le_refl _) PQ; have eY:=hd.lt ht; have EB:b≠W.sz:=by omega
 refine BA (j8 (n:=l) (by omega) W1) ?_; rw [oS (by omega) (by omega) (by omega)]; simp only [Jv,Ae,Ak,AA]; rw [wrap64 (x:=(l:Int) / 4*2) (by omega) (by omega),wrap64 (x:=lo+(l:Int) / 4*2) (by omega) (by omega),wrap64 (x:=lo+(l:Int) / 4*2-1) (by omega) (by omega)]; refine Dh (fun k e ds W'=>ds=[]∧SD W W' b n∧(∃ c,BF W' W.sz 205 [.int .u64 c])∧e 0=.slice (some ⟨b,0,none⟩) n n∧e 1=.int .i64 lo∧e 6=.int .i64 (l:Int)∧e 7=.pointer (some ⟨W.sz,0,none⟩)∧e 8=.int .u64 ((2 ^ J7 l:Nat):Int)∧∃ i:Int,e 9=.int .i64 i∧lo+(l:Int) / 4*2-1≤i∧i≤lo+(l:Int) / 4*2+2∧(lo+(l:Int) / 4*2+2-i).toNat=k) 3 ⟨rfl,((SD.start ht hd).kp k1 t1),⟨_,VT⟩,rfl,rfl,rfl,rfl,rfl,_,rfl,by omega,by omega,by omega⟩ ?_; rintro k e ds W2 ⟨rfl,S,⟨c,hc⟩,e0,e1,e6,e7,e8,i,e9,i0,i1,hk⟩; rw [qy,e1,e6,e7,e8,e9,oS (by omega) (by omega) (by omega)]; simp only [Jv,Ae,AA]; rw [wrap64 (x:=(l:Int) / 4*2) (by omega) (by omega),wrap64 (x:=lo+(l:Int) / 4*2) (by omega) (by omega),wrap64 (x:=lo+(l:Int) / 4*2+1) (by omega) (by omega)]; simp only [Ds,AA]; refine MB (fun hle=>?_) (fun Xv=>?_)
 rotate_left
 ·simp only [JB,Wh,if_true]; exact EA (by kernel_rfl) _ _ (.inl rfl) _ _ ⟨rfl,S⟩
 refine (fc S.top hc).mono fun en W3 ⟨c3,t3,k',IJ,he⟩=>?_; subst he; refine Ab ?_; have hd3:=S.da.Gy S.top c3 EB; have S3:SD W W3 b n:=⟨S.Gy.then c3 fun j hj he=>by omega,t3,hd3⟩
 have SK:1≤2 ^ J7 l:=Nat.one_le_two_pow; have zj:2 ^ J7 l≤100:=by omega
 simp only [Ak,AA]; rw [bT (by omega) (by omega),show ((2 ^ J7 l:Nat):Int)-1=((2 ^ J7 l-1:Nat):Int) by omega]; obtain ⟨w,hw,hwm⟩:=yj k' (m:=2 ^ J7 l-1) (by omega); rw [hw]; simp only [AA,ACW,DL]; rw [wrap64 (by omega) (by omega)]
 have k9:∀ (e2:Env) (o:Int),0≤o→o<l→e2 0=.slice (some ⟨b,0,none⟩) n n→e2 1=.int .i64 lo→e2 6=.int .i64 (l:Int)→e2 7=.pointer (some ⟨W.sz,0,none⟩)→e2 8=.int .u64 ((2 ^ J7 l:Nat):Int)→e2 9=.int .i64 i→e2 10=.int .i64 o→(Sw none (FA (fun k e ds W'=>ds=[]∧SD W W' b n∧(∃ c,BF W' W.sz 205 [.int .u64 c])∧e 0=.slice (some ⟨b,0,none⟩) n n∧e 1=.int .i64 lo∧e 6=.int .i64 (l:Int)∧e 7=.pointer (some ⟨W.sz,0,none⟩)∧e 8=.int .u64 ((2 ^ J7 l:Nat):Int)∧∃ i:Int,e 9=.int .i64 i∧lo+(l:Int) / 4*2-1≤i∧i≤lo+(l:Int) / 4*2+2∧(lo+(l:Int) / 4*2+2-i).toNat=k) k (Av 0 (AI prog Tryz.f143 (lY b n W))))) .normal e2 [] W3:=by
  intro e2 o o0 o1 g0 g1 g6 g7 g8 g9 jh; simp only [Sw,Bi,g0,g1,g9,jh,Ae,AA]; rw [wrap64 (by omega) (by omega)]; obtain ⟨x,hx⟩:=hd3.ld (i:=lo+o) (by omega) (by omega); obtain ⟨y,hy⟩:=hd3.ld (i:=i) (by omega) (by omega); rw [Bq (by omega) (by omega),Bq (by omega) (by omega)]; simp only [hx,hy,AA]; refine Es hd3 (by omega) (by omega) fun W4 j7 d4=>?_; refine Es d4 (by omega) (by omega) fun W5 Im d5=>?_; refine ⟨by simp only [and_self],trivial,?_⟩; simp only [Sv,Bi,Wg]; simp only [AW,Aa,Nat.reduceEqDiff,↓reduceIte,g9,Ae,AA]; rw [wrap64 (by omega) (by omega)]; exact ⟨(lo+(l:Int) / 4*2+2-(i+1)).toNat,by omega,trivial,(S3.put j7 d4).put Im d5,⟨k',(IJ.congr (j7.obj _ (fun e=>EB e.symm))).congr (Im.obj _ (fun e=>EB e.symm))⟩,by simp only [g0],by simp only [g1],by simp only [g6],by simp only [g7],by simp only [g8],i+1,by simp only [AW],by omega,by omega,rfl⟩
 refine Yr (fun Mx=>?_) (fun A0=>?_)
 ·simp only [Ak,AA]; rw [wrap64 (by omega) (by omega)]; exact k9 _ ((w:Int)-l) (by omega) (by omega) (by simp only [AW,Aa,Nat.reduceEqDiff,↓reduceIte,e0]) (by simp only [AW,Aa,Nat.reduceEqDiff,↓reduceIte,e1]) (by simp only [AW,Aa,Nat.reduceEqDiff,↓reduceIte,e6]) (by simp only [AW,Aa,Nat.reduceEqDiff,↓reduceIte,e7]) (by simp only [AW,Aa,Nat.reduceEqDiff,↓reduceIte,e8]) (by simp only [AW,Aa,Nat.reduceEqDiff,↓reduceIte,e9]) (by simp only [AW,↓reduceIte])
 ·exact k9 _ (w:Int) (by omega) (by omega) (by simp only [AW,Aa,Nat.reduceEqDiff,↓reduceIte,e0]) (by simp only [AW,Aa,Nat.reduceEqDiff,↓reduceIte,e1]) (by simp only [AW,Aa,Nat.reduceEqDiff,↓reduceIte,e6]) (by simp only [AW,Aa,Nat.reduceEqDiff,↓reduceIte,e7]) (by simp only [AW,Aa,Nat.reduceEqDiff,↓reduceIte,e8]) (by simp only [AW,Aa,Nat.reduceEqDiff,↓reduceIte,e9]) (by simp only [AW,Nat.reduceEqDiff,↓reduceIte])
end Go.Ce
