/- A part of the proof: Qh, Qi, ShD, Qj, Qk, Ql, Qm, Qn, Qo, Qp, Qq, Qr, Qs, Ra, Rb, Rc, Re, Rf, Rg, Rh. -/
import Derived.Test.YtmknebebbbjdlaaGreatW02
import Derived.Test.YtmknebebbbjdlaaGreatW03
import Derived.Test.YtmknebebbbjdlaaGreatProg
set_option linter.unusedSectionVars false
set_option linter.unusedVariables false
set_option linter.unusedSimpArgs false
set_option maxRecDepth 200000
namespace Go.Ce
open Go Go.Proofs Go.Proofs.Tryz
structure KdAt (W:CW) (bk bx r1 r2:Nat) (c:List Shp) (ty:ByteArray) (n:Nat):Prop where
 k0:W.cell bk 0=some (.map (some r1))
 k1:W.cell bk 1=some (.map (some r2))
 cat:CatAt W r1 r2 c
 x0:W.cell bx 0=some (.string ty)
 x1:∃ a cap,W.cell bx 1=some (.slice a n cap)
theorem ShM.elem {W:CW} {r:Nat} {c:List Shp} (h:ShM W r c) {s:ByteArray} {i:Nat} (hi:zBQ c s=Option.some i):∃ a b f g,lkp prog 75 (.map (Option.some r)) (.string s) false W=Option.some (.agg #[a,b,f,.int .u8 (zAN c i),g]):=by
 obtain ⟨u,x,hx,hu,_,l2⟩:=h.some hi; obtain ⟨vf,ab,lb,cb,rfl,_⟩:=hu; exact ⟨_,_,_,_,by unfold zAN; rw [hx]; exact l2⟩
theorem zG9 {l:Nat} {args:List Value} {W:CW} {K:Value→CW→Prop} {KP:List PanicEntry→CW→Prop} (h:WRound prog pkL l args W (zAK K KP)):zBq prog pkL (.func (.yield l) #[] #[]) args W K KP:=by
 unfold zBq zFN
 simpa using h
theorem zFq (Q:Ending→CW→Prop) (x:Exit) (hx:x=.normal∨x=.ret) (e:Env) (W:CW) (h:Q (.returned (.tuple #[])) W):zAE prog Tryz.f108 Q x e [] W:=by
 have hr:Tryz.f108.results.toList=[]:=by kernel_rfl
 rcases hx with rfl | rfl <;> simp only [zAE,zBB,hr,zFu] <;> exact h
theorem zQl {l bk bx r1 r2 n ix:Nat} {c:List Shp} {ty:ByteArray} (hix:zBQ c ty=some ix) (hnl:n<100000) (hn:zAN c ix=0→n≤(zAj c ix).length) (J:Nat→CW→Prop) (Stop:CW→Prop) (hJ:∀ i W,J i W→KdAt W bk bx r1 r2 c ty n)
  (hround:∀ i W,i<n→J i W→WRound prog pkL l [.int .i64 i,.int .u8 (zA3 c ix i)] W fun e W'=>(e=.returned (.bool true)∧J (i+1) W')∨(e=.returned (.bool false)∧Stop W')) {W:CW} (h0:J 0 W) :
  WCall prog pkL 108 [.func (.yield l) #[] #[],.pointer (some ⟨bk,0,none⟩),.pointer (some ⟨bx,0,none⟩)] W fun e W'=>e=.returned (.tuple #[])∧(J n W'∨Stop W'):=by
 refine zTl ?_; rw [zTm]; have K0:=hJ 0 W h0; obtain ⟨a0,cap0,hx1⟩:=K0.x1; obtain ⟨ea,eb,ef,eg,hel⟩:=K0.cat.sh.elem hix; simp only [zDL,zCU,zCH,zAA]; rw [zAB a75 (a:=⟨bk,0,none⟩) K0.k0,zAB a9 (a:=⟨bx,0,none⟩) K0.x0,zAB a40 (a:=⟨bx,0+1,none⟩) hx1]; simp only [zAA,hel,zGu,zAT u40]; refine zCX (fun i e ds W'=>ds=[]∧e 0=.func (.yield l) #[] #[]∧e 1=.pointer (some ⟨bk,0,none⟩)∧e 2=.pointer (some ⟨bx,0,none⟩)∧e 4=.int .u8 (zAN c ix)∧e 15=.int .i64 n∧e 16=.int .i64 i∧J i W') n ⟨rfl,rfl,rfl,rfl,rfl,rfl,rfl,h0⟩ ?_; rintro i e ds W' hi ⟨rfl,h0,h1,h2,h4,h15,h16,hj⟩; rw [zRT,h1,h2,h4,h15,h16]; simp only [zAZ,zAA]
 refine zGZ (fun hlt=>?_) (fun hge=>?_)
 ·have hcall:∀ (e1:Env),Agree [0,1,2,4,15,16] e e1→e1 5=.int .i64 i→e1 6=.int .u8 (zA3 c ix i) →
    (zGx none (zJQ (fun i e ds W'=>ds=[]∧e 0=.func (.yield l) #[] #[]∧e 1=.pointer (some ⟨bk,0,none⟩)∧e 2=.pointer (some ⟨bx,0,none⟩)∧e 4=.int .u8 (zAN c ix)∧e 15=.int .i64 n∧e 16=.int .i64 i∧J i W') i n (zBm 0 (zAE prog Tryz.f108 fun e W'=>e=.returned (.tuple #[])∧(J n W'∨Stop W'))))) .normal e1 [] W':=by
   intro e1 hA h5 h6; have g0:=(hA 0 (by decide)).trans h0; have g16:=(hA 16 (by decide)).trans h16; simp only [zGx,qKn,qKr,qKx,qKp,bKn,bKr,bKp,bKx,tKn,tKr,tKx,tKp,zKn,zKr,zKx,zKp,g0,h5,h6]; refine zG9 ((hround i W' hlt hj).mono fun en W1 hp=>?_)
   rcases hp with ⟨rfl,hj1⟩ | ⟨rfl,hst⟩
   ·simp only [zAK,zAR,zAA,Bool.not_true,zAP,zEx,qKn,qKr,qKx,qKp,bKn,bKr,bKp,bKx,tKn,tKr,tKx,tKp,zKn,zKr,zKx,zKp]; simp only [eKc,eKn,eKa,Nat.reduceEqDiff,↓reduceIte,gKz,gKs,dKs,and_self,g16,zAW,zAA,qKn,qKr,qKx,qKp,bKn,bKr,bKp,bKx,tKn,tKr,tKx,tKp,zKn,zKr,zKx,zKp]; exact ⟨hlt,trivial,g0,(hA 1 (by decide)).trans h1,(hA 2 (by decide)).trans h2,(hA 4 (by decide)).trans h4,(hA 15 (by decide)).trans h15,by rw [zCT (by omega)],hj1⟩
   ·simp only [zAK,zAR,zAA,Bool.not_false,zAn,zEx,qKn,qKr,qKx,qKp,bKn,bKr,bKp,bKx,tKn,tKr,tKx,tKp,zKn,zKr,zKx,zKp]; exact zFq _ _ (.inr rfl) _ _ ⟨rfl,.inr hst⟩
  simp only [zAz,zAA]
  refine zAH (fun he=>?_) (fun he=>?_)
  ·have he:zAN c ix=0:=by simpa using he
   have Ki:=hJ i W' hj; have hil:=zCF hix; have hrl:i<(zAj c ix).length:=by have:=hn he; omega
   obtain ⟨ar,cr,lr,hrr⟩:=Ki.cat.rw.some hix; obtain ⟨_,_,e3,hrc⟩:=hrr
   cases e3
   obtain ⟨pr,rfl,hpr⟩:=hrc i _ (List.getElem?_eq_getElem hrl); simp only [zD6,zCU,zAA]; rw [zAB a76 (a:=⟨bk,0+1,none⟩) Ki.k1,zAB a9 (a:=⟨bx,0,none⟩) Ki.x0]; simp only [zAA,lr]; rw [zAb u29 s5 hrl]; simp only [zAA]; rw [zAB a5 (a:=⟨pr.block,pr.off+i*1,none⟩) hpr]; simp only [zAA]; refine hcall _ (.put rfl) rfl ?_; show Value.int .u8 (zAj c ix)[i]=_; rw [zD3 he hil,List.getElem?_eq_getElem hrl]; rfl
  ·have he:zAN c ix≠0:=by simpa using he
   refine hcall _ (.put rfl) rfl ?_; show Value.int .u8 (zAN c ix)=_; have hil:=zCF hix; unfold zA3; unfold zAN at he ⊢; rw [List.getElem?_eq_getElem hil] at he ⊢; simp only at he ⊢; rw [if_pos he]
 ·simp only [qKn,qKr,qKx,qKp,bKn,bKr,bKp,bKx,tKn,tKr,tKx,tKp,zKn,zKr,zKx,zKp,if_true]; have hi:i=n:=by omega
  exact zFq _ _ (.inl rfl) _ _ ⟨rfl,.inl (hi ▸ hj)⟩
theorem zMY {fn:FuncId} {nt:Nat} {f:Operand} {p1 p2 a1 a2:Tmp} {A B:Code} {e:Env} {ds:List Deferred} {W:CW} {K:zAI} {bk bx r1 r2 n ix:Nat} {c:List Shp} {ty:ByteArray} (ht:Top W)
  (hf:e.ev f=.func (.func 108) #[] #[.pointer (some ⟨bk,0,none⟩),.pointer (some ⟨bx,0,none⟩)]) (hix:zBQ c ty=some ix) (hnl:n<100000) (hn:zAN c ix=0→n≤(zAj c ix).length)
  (hA:∀ ro e0 ds K W,zAJ prog pkL ro fn nt A e0 ds W K=K .normal (Env.of e0 [(a2,e0 p2),(a1,e0 p1)]) ds W) (hdist:p1≠p2∧a1≠a2)
  (J:Nat→CW→Prop) (Stop:Exit→CW→Prop) (hJ:∀ i W,J i W→KdAt W bk bx r1 r2 c ty n)
  (hJl:∀ i W1 W2,J i W1→Upd (W.sz+1) W1 W2→(∀ b k v,W1.cell b k=some v→W2.cell b k=some v)→J i W2)
  (hSl:∀ x W1 W2,Stop x W1→Upd (W.sz+1) W1 W2→(∀ b k v,W1.cell b k=some v→W2.cell b k=some v)→Stop x W2)
  (h0:∀ W2,Kp W W2→Top W2→W2.sz=W.sz+2→W2.obj W.sz=some .deferred→J 0 W2)
  (hbody:∀ (i:Nat) W1 (Kb:zAI) (E:Env),(∀ t,t≠p1→t≠p2→t≠a1→t≠a2→E t=e t)→E a1=.int .i64 i→E a2=.int .u8 (zA3 c ix i)→i<n→J i W1→(∃ o,W1.obj (W.sz+1)=some o∧∀ a b c d,o≠.cells a b c d) →
   (∀ e' ds' W3,W3.obj (W.sz+1)=W1.obj (W.sz+1)→J (i+1) W3→Kb .normal e' ds' W3)→(∀ e' ds' W3,W3.obj (W.sz+1)=W1.obj (W.sz+1)→Stop .ret W3→Kb .ret e' ds' W3)→(∀ id e' ds' W3,W3.obj (W.sz+1)=W1.obj (W.sz+1)→Stop (.exit id) W3→Kb (.exit id) e' ds' W3) →
   zAJ prog pkL (some (W.sz+1)) fn nt B E [] W1 Kb)
  (hend:∀ W',J n W'→K .normal e (zFA W.sz::ds) W') (hstop:∀ x W',Stop x W'→K x e (zFA W.sz::ds) W') :
  zCg prog pkL none fn nt (.rangeFunc f #[p1,p2] A B) e ds W K:=by
 have hcell:∀ {W1 W2:CW} {st pend fn' e' nt' ps' A' B' d'},LoopAt W1 (W.sz+1) st pend fn' e' nt' ps' A' B' d'→Upd (W.sz+1) W1 W2→∀ b k v,W1.cell b k=some v→W2.cell b k=some v:=by
  intro W1 W2 st pend fn' e' nt' ps' A' B' d' hl hu b k v hc; obtain ⟨T,ho,_⟩:=hl
  rw [hu.cell]
  ·exact hc
  ·rintro rfl; unfold CW.cell at hc; rw [ho] at hc; cases hc
 refine zT1 (g:=108) (args:=[.func (.yield (W.sz+1)) #[] #[],.pointer (some ⟨bk,0,none⟩),.pointer (some ⟨bx,0,none⟩)]) ht ?_ fun W2 k2 t2 z2 hd hl=>?_
 ·rw [hf]; rfl
 ·refine (zQl (J:=fun i W'=>J i W'∧LoopAt W' (W.sz+1) .ready none fn e nt #[p1,p2] A B W.sz) (Stop:=fun W'=>∃ x,Stop x W'∧∃ pd,LoopAt W' (W.sz+1) .done (some pd) fn e nt #[p1,p2] A B W.sz∧((pd=.ret∧x=.ret)∨∃ id,pd=.exit id∧x=.exit id)) hix hnl hn (fun i W' h=>hJ i W' h.1) (fun i W' hi h=>?_) ⟨h0 W2 k2 t2 z2 hd,hl⟩).mono fun en W' ⟨he,hr⟩=>?_
  ·obtain ⟨hj,hl'⟩:=h; refine zPr hl' rfl ?_; rw [hA]; refine ⟨rfl,none,e,nt,#[p1,p2],A,B,W.sz,hl',fun W3 hu hl3=>?_⟩; have hj3:=hJl i W' W3 hj hu (hcell hl' hu); obtain ⟨hd1,hd2⟩:=hdist
   refine hbody i W3 _ _ (fun t h1 h2 h3 h4=>by simp only [eKc,eKn,List.zip_cons_cons,List.zip_nil_left,Env.sets,if_neg h1,if_neg h2,if_neg h3,if_neg h4]) (by simp only [eKc,eKn,List.zip_cons_cons,List.zip_nil_left,Env.sets,if_neg hd1,if_neg hd2,if_true]) (by simp only [eKc,eKn,List.zip_cons_cons,List.zip_nil_left,Env.sets,if_true,if_neg (Ne.symm hd1)]) hi hj3 (by obtain ⟨T,ho,_⟩:=hl3; exact ⟨_,ho,fun _ _ _ _ h=>by cases h⟩) (fun e' ds' W4 ho hj4=>?_) (fun e' ds' W4 ho hs4=>?_) (fun id e' ds' W4 ho hs4=>?_)
   ·refine ⟨.busy,none,fn,e,nt,#[p1,p2],A,B,W.sz,hl3.congr ho,fun W5 hu5 hl5=>.inl ⟨rfl,?_,hl5⟩⟩; exact hJl _ W4 W5 hj4 hu5 (hcell (hl3.congr ho) hu5)
   ·refine ⟨.busy,none,fn,e,nt,#[p1,p2],A,B,W.sz,hl3.congr ho,fun W5 hu5 hl5=>.inr ⟨rfl,.ret,?_,.ret,hl5,.inl ⟨rfl,rfl⟩⟩⟩; exact hSl _ W4 W5 hs4 hu5 (hcell (hl3.congr ho) hu5)
   ·refine ⟨.busy,none,fn,e,nt,#[p1,p2],A,B,W.sz,hl3.congr ho,fun W5 hu5 hl5=>.inr ⟨rfl,.exit id,?_,.exit id,hl5,.inr ⟨id,rfl,rfl⟩⟩⟩; exact hSl _ W4 W5 hs4 hu5 (hcell (hl3.congr ho) hu5)
  ·refine ⟨⟨_,he⟩,?_⟩
   rcases hr with ⟨hj,hl'⟩ | ⟨x,hs,pd,hl',hx⟩
   ·refine ⟨.ready,none,fn,e,nt,#[p1,p2],A,B,W.sz,hl',(by intro h; cases h),fun W5 hu5=>hend W5 ?_⟩; exact hJl _ W' W5 hj hu5 (hcell hl' hu5)
   ·refine ⟨.done,some pd,fn,e,nt,#[p1,p2],A,B,W.sz,hl',(by intro h; cases h),fun W5 hu5=>?_⟩; have hs5:=hSl _ W' W5 hs hu5 (hcell hl' hu5)
    rcases hx with ⟨rfl,rfl⟩ | ⟨id,rfl,rfl⟩
    ·exact hstop _ W5 hs5
    ·exact hstop _ W5 hs5
end Go.Ce
namespace Go.Ce
open Go Go.Proofs Go.Proofs.Tryz
theorem zLt:Tryz.f119.results.toList=[.cell 6 4]:=by kernel_rfl
theorem s4:siz prog 4=some 1:=by kernel_rfl
theorem a4:agg? prog 4=some false:=by kernel_rfl
theorem zDs {P:Program} {fn:Func} {Q:Ending→CW→Prop} {x:Exit} {e:Env} {ds:List Deferred} {W:CW} {r:Nat} (ho:W.obj r=some .deferred) (h:zAE P fn Q x e ds (W.upd r .dead)):zAE P fn Q x e (zFA r::ds) W:=⟨ho,h⟩
def zRu (r1 r2:Nat) (ty:ByteArray) (vx:Value) (W:CW):Ending→CW→Prop:=fun e W'=>Kp W W'∧Top W'∧∃ bk bx,e=.returned (.func (.func 108) #[] #[.pointer (some ⟨bk,0,none⟩),.pointer (some ⟨bx,0,none⟩)])∧W.sz≤bk∧W.sz≤bx∧Blk W' bk 78 [.map (some r1),.map (some r2)]∧Blk W' bx 56 [.string ty,vx]
theorem zHe {r1 r2:Nat} {ty:ByteArray} {vx:Value} {W:CW} (ht:Top W):WCall prog pkL 62 [zI2 r1 r2,.agg #[.string ty,vx]] W (zRu r1 r2 ty vx W):=by
 refine zXP ?_; rw [zXQ]; unfold zI2; refine zDC s78 ht fun W0 k0 t0 z0 hB0=>?_; refine zDC s56 t0 fun W1 k1 t1 z1 hB1=>?_; simp only [zAA]; rw [zQ5]; exact ⟨k0.trans k1,t1,W.sz,W0.sz,rfl,Nat.le_refl _,k0.sz,hB0.ext t0 k1,hB1⟩
theorem zOn (kind n:Int) (size:Nat):(!zGd kind n size)=((kind == 1 && !(decide (-1000000000≤n) && decide (n≤1000000000))) || (kind == 2 && !(decide ((0:Int)≤n) && decide (n≤(size:Int))))):=by
 unfold zGd; rw [Bool.not_not]
 congr 2
 ·by_cases h1:-1000000000≤n <;> by_cases h2:n≤1000000000 <;> simp [h1,h2] <;> omega
 ·by_cases h1:(0:Int)≤n <;> by_cases h2:n≤(size:Int) <;> simp [h1,h2] <;> omega
def zI4 (c:List Shp) (i:Nat) (vs:List Int) (size k:Nat):Bool:=match vs[k]? with
 | some n=>!zGd (zA3 c i k) n size
 | none=>false
theorem zJ0 {c:List Shp} {x:Thg} {size i:Nat} {s:Shp} (hi:zBQ c x.type=some i) (hs:c[i]?=some s):zAs c x size=(zC0 c i s x.vals.length && !zCW x.vals.length (zI4 c i x.vals size)):=by
 unfold zAs; rw [hi]; simp only [hs]; rfl
theorem zUE {c:List Shp} {r1 r2:Nat} {x:Thg} {vx:Value} {size:Nat} {W:CW} (ht:Top W) (hcat:CatAt W r1 r2 c) (hok:zA9 c=true) (hC:Cat c) (hvx:IsSl 1 (RInt W) vx x.vals) (hv:x.vals.length<100000) (hsz:size<1000000) :
  WCall prog pkL 119 [zI2 r1 r2,.agg #[.string x.type,vx],.int .i64 size] W (Ret (.bool (zAs c x size)) W):=by
 refine zVy ?_; rw [zVz]; unfold zI2; obtain ⟨ax,cx,rfl,_⟩:=id hvx; refine zDC s78 ht fun W0 k0 t0 z0 hB3=>?_; have hB3:Blk W0 W.sz 78 [.map (some r1),.map (some r2)]:=hB3; refine zDC s56 t0 fun W1 k1 t1 z1 hB4=>?_; have hB4:Blk W1 W0.sz 56 [.string x.type,.slice ax x.vals.length cx]:=hB4; refine zDC s3 t1 fun W2 k2 t2 z2 hB5=>?_; have hB5:Blk W2 W1.sz 3 [.int .i64 size]:=hB5; refine zFa z4 s4 t2 fun W3 k3 t3 z3 hB6=>?_; have hB6:Blk W3 W2.sz 4 [.bool false]:=hB6; have k13:=(k1.trans k2).trans k3; have kk:Kp W W3:=k0.trans k13; have hcat3:=hcat.kp ht kk; have hB3:=hB3.ext t0 k13; have hB4:=hB4.ext t1 (k2.trans k3); have hB5:=hB5.ext t2 k3; have hb6W:W.sz≤W2.sz:=by have:=k0.sz; have:=k1.sz; have:=k2.sz; omega
 have hne:W2.sz≠W.sz∧W2.sz≠W0.sz∧W2.sz≠W1.sz:=by have:=k1.sz; omega
 generalize hb3:W.sz=b3 at hB3 hb6W hne; generalize hb4:W0.sz=b4 at hB4 hne; generalize hb5:W1.sz=b5 at hB5 hne; generalize hb6:W2.sz=b6 at hB6 hb6W hne; have q3:∀ W7,Kp W3 W7→ld prog 75 (.pointer (some ⟨b3,0,none⟩)) W7=some (.map (some r1)):=fun W7 k7=>zAB a75 (a:=⟨b3,0,none⟩) (k7.cell t3 (hB3.cell rfl)); have q3':∀ W7,Kp W3 W7→ld prog 76 (.pointer (some ⟨b3,0+1,none⟩)) W7=some (.map (some r2)):=fun W7 k7=>zAB a76 (a:=⟨b3,1,none⟩) (k7.cell t3 (hB3.cell rfl)); have q4:∀ W7,Kp W3 W7→ld prog 9 (.pointer (some ⟨b4,0,none⟩)) W7=some (.string x.type):=fun W7 k7=>zAB a9 (a:=⟨b4,0,none⟩) (k7.cell t3 (hB4.cell rfl)); have q4':∀ W7,Kp W3 W7→ld prog 40 (.pointer (some ⟨b4,0+1,none⟩)) W7=some (.slice ax x.vals.length cx):=fun W7 k7=>zAB a40 (a:=⟨b4,1,none⟩) (k7.cell t3 (hB4.cell rfl)); obtain ⟨ws,L,hws,hone,hel⟩:=zLI hcat3.sh x.type; simp only [zDL,zCU,zAA,q3 W3 (.refl _),q4 W3 (.refl _),L,zBF,zBE]; refine zBx z48 s48 rfl hone hws t3 fun W5 k5 t5 z5 hB7=>?_; have hcat5:=hcat3.kp t3 k5; generalize hKK:zAE prog Tryz.f119 (Ret (.bool (zAs c x size)) W)=K
 have hend:∀ (W7:CW) (b:Bool) (e:Env),Chg (·=b6) W3 W7→Top W7→W7.cell b6 0=some (.bool b)→e 6=.pointer (some ⟨b6,0,none⟩)→b=zAs c x size→K .ret e [] W7:=by
  intro W7 b e k t hb h6 hbe; rw [←hKK]; refine zFB zLt h6 (zAB a4 (a:=⟨b6,0,none⟩) hb) ?_; exact ⟨by rw [hbe],Chg.kp kk k fun j hj=>by rw [hj]; omega,t⟩
 have leaf:∀ (b:Bool) (e:Env),e 44=.bool b→e 3=.pointer (some ⟨b3,0,none⟩)→e 4=.pointer (some ⟨b4,0,none⟩)→e 5=.pointer (some ⟨b5,0,none⟩)→e 6=.pointer (some ⟨b6,0,none⟩) →
   (b=true→zAs c x size=false)→(b=false→∃ i s,zBQ c x.type=some i∧c[i]?=some s∧zC0 c i s x.vals.length=true)→(zFH none K) .normal e [] W5:=by
  intro b e h44 h3 h4 h5 h6 hbt hbf; have hB65:=hB6.ext t3 k5; simp only [zFH,qKn,qKr,qKx,qKp,bKn,bKr,bKp,bKx,tKn,tKr,tKx,tKp,zKn,zKr,zKx,zKp,h44]
  refine zAH (fun hb=>?_) (fun hb=>?_)
  ·rw [h6]; refine zAX s4 (a:=⟨b6,0,none⟩) rfl hB65 (by simp) fun W6 hu hB=>?_; have hu:Upd b6 W5 W6:=hu; have hb6l:=hB65.lt t5; simp only [zGL,qKn,qKr,qKx,qKp,bKn,bKr,bKp,bKx,tKn,tKr,tKx,tKp,zKn,zKr,zKx,zKp,zIV]; exact hend W6 false e ((Chg.of_kp k5).then hu.chg fun _ _ h=>h) (t5.upd hb6l hu) (hB.cell rfl) h6 (hbt hb).symm
  ·obtain ⟨i,s,hi,hs,hm⟩:=hbf hb; have hth:zAs c x size=!zCW x.vals.length (zI4 c i x.vals size):=by rw [zJ0 hi hs,hm,Bool.true_and]
   have hB35:=hB3.ext t3 k5; have hB45:=hB4.ext t3 k5; simp only [zGL,qKn,qKr,qKx,qKp,bKn,bKr,bKp,bKx,tKn,tKr,tKx,tKp,zKn,zKr,zKx,zKp,h3,h4]; rw [zA8 (vs:=[.map (some r1),.map (some r2)]) a78 s78 rfl (by omega) hB35.cells,zA8 (vs:=[.string x.type,.slice ax x.vals.length cx]) a56 s56 rfl (by omega) hB45.cells]; simp only [zAA]; refine (zHe (r1:=r1) (r2:=r2) (ty:=x.type) t5).mono fun en W8 ⟨k8,t8,bk,bx,hen,hbk,hbx,hBk,hBx⟩=>?_; subst hen; simp only [zAK]; have hcat8:=hcat5.kp t5 k8; have k38:=k5.trans k8; have hB68:=hB65.ext t5 k8; have hb6l:=hB68.lt t8; have hbkl:=hBk.lt t8; have hbxl:=hBx.lt t8; have hb63:=hB6.lt t3; have hsz5:=k5.sz; have hv8:IsSl 1 (RInt W8) (.slice ax x.vals.length cx) x.vals:=hvx.imp fun _ _ _ hr=>hr.kp ht (kk.trans k38); have hKd:∀ W',Kp W8 W'→KdAt W' bk bx r1 r2 c x.type x.vals.length:=fun W' k=>⟨k.cell t8 (hBk.cell rfl),k.cell t8 (hBk.cell rfl),hcat8.kp t8 k,k.cell t8 (hBx.cell rfl),_,_,k.cell t8 (hBx.cell rfl)⟩
   refine zMY (bk:=bk) (bx:=bx) (r1:=r1) (r2:=r2) (n:=x.vals.length) (ix:=i) (c:=c) (ty:=x.type) (a1:=9) (a2:=10) t8 rfl hi hv (fun he=>by
     have:=zD2 hs he hm; omega) (fun ro e0 ds K W=>by rw [zUf]) (by decide)
    (fun j W'=>Kp W8 W'∧Top W'∧W'.obj W8.sz=some .deferred∧W8.sz+1<W'.sz∧∀ m,m<j→zI4 c i x.vals size m=false)
    (fun y W'=>y=.ret∧Chg (·=b6) W8 W'∧Top W'∧W'.obj W8.sz=some .deferred∧W'.cell b6 0=some (.bool false)∧W8.sz+1<W'.sz∧zAs c x size=false)
    (fun j W' h=>hKd W' h.1) (fun j W1 W2 ⟨h1,h2,h3,h4,h5⟩ hu hc=>?_) (fun y W1 W2 ⟨h1,h2,h3,h4,h5,h6,h7⟩ hu hc=>?_) (fun W2 k2 t2 z2 hd=>⟨k2,t2,hd,by omega,by omega⟩) (fun j W1 Kb E hE hE1 hE2 hj ⟨hk1,ht1,hd1,hl1,hpre⟩ hlo hn hr hx=>?_) (fun W' ⟨h1,h2,h3,h4,h5⟩=>?_) (fun y W' ⟨y1,y2,y3,y4,y5,y6,y7⟩=>?_)
   ·exact ⟨h1.upd (by omega) hu,h2.upd h4 hu,by rw [hu.obj _ (by omega)]; exact h3,by rw [hu.sz]; exact h4,h5⟩
   ·exact ⟨h1,h2.then hu.chg fun i hi he=>by omega,h3.upd h6 hu,by rw [hu.obj _ (by omega)]; exact h4,hc _ _ _ h5,by rw [hu.sz]; exact h6,h7⟩
   ·have hxj:=List.getElem?_eq_getElem hj; obtain ⟨p,e2,hpc⟩:=id hv8; have hv1:IsSl 1 (RInt W1) (.slice ax x.vals.length cx) x.vals:=hv8.imp fun _ _ _ hr=>hr.kp t8 hk1; obtain ⟨_,_,e3,hvc⟩:=hv1
    cases e3
    obtain ⟨q,rfl,hq⟩:=hvc j _ hxj; have k31:=k38.trans hk1; have hB61:=hB68.ext t8 hk1; have l3:ld prog 3 (.pointer (some ⟨b5,0,none⟩)) W1=some (.int .i64 size):=zAB a3 (a:=⟨b5,0,none⟩) (k31.cell t3 (hB5.cell rfl)); have g4:E 4=.pointer (some ⟨b4,0,none⟩):=(hE 4 (by decide) (by decide) (by decide) (by decide)).trans h4; have g5:E 5=.pointer (some ⟨b5,0,none⟩):=(hE 5 (by decide) (by decide) (by decide) (by decide)).trans h5; have g6:E 6=.pointer (some ⟨b6,0,none⟩):=(hE 6 (by decide) (by decide) (by decide) (by decide)).trans h6; rw [zUe,g4,g5,hE1,hE2]; simp only [zCH,zAA,q4' W1 k31]; rw [zAb u40 s3 hj]; simp only [zAA]; rw [zAB a3 (a:=⟨q.block,q.off+j*1,none⟩) hq.1]; simp only [zAA,zAz]
    have hvb:zI4 c i x.vals size j=((zA3 c i j == 1 && !(decide (-1000000000≤x.vals[j]) && decide (x.vals[j]≤1000000000))) || (zA3 c i j == 2 && !(decide ((0:Int)≤x.vals[j]) && decide (x.vals[j]≤(size:Int))))):=by
     unfold zI4; rw [hxj]; exact zOn _ _ _
    have leaf2:∀ (b:Bool) (e2:Env),e2 71=.bool b→e2 6=.pointer (some ⟨b6,0,none⟩)→b=zI4 c i x.vals size j→(zCi (some (W8.sz+1)) Kb) .normal e2 [] W1:=by
     intro b e2 h71 g6 hb; simp only [zCi,qKn,qKr,qKx,qKp,bKn,bKr,bKp,bKx,tKn,tKr,tKx,tKp,zKn,zKr,zKx,zKp,h71]
     refine zAH (fun hbb=>?_) (fun hbb=>?_)
     ·rw [g6]; refine zAX s4 (a:=⟨b6,0,none⟩) (v:=.bool false) rfl hB61 (by simp) fun W9 hu hB=>?_; have hu:Upd b6 W1 W9:=hu; refine hr _ _ W9 (hu.obj _ (by omega)) ⟨rfl,(Chg.of_kp hk1).then hu.chg fun _ _ h=>h,ht1.upd (by omega) hu,by rw [hu.obj _ (by omega)]; exact hd1,hB.cell rfl,by rw [hu.sz]; exact hl1,?_⟩; rw [hth,zBk hj (by rw [←hb,hbb])]; rfl
     ·exact hn _ _ W1 rfl ⟨hk1,ht1,hd1,hl1,zE8 hpre (by rw [←hb,hbb])⟩
    have second:∀ (e2:Env),e2 6=.pointer (some ⟨b6,0,none⟩)→True:=fun _ _=>trivial
    refine zAH (fun hk=>?_) (fun hk=>?_)
    ·refine zB2 (zQr _ _ _ _) ?_; simp only [zAR,zAA]; rw [hk,Bool.true_and] at hvb
     refine zAH (fun hin=>?_) (fun hin=>?_)
     ·exact leaf2 true _ rfl (by exact g6) (by rw [hvb,hin]; rfl)
     ·have hk1:zA3 c i j=1:=by simpa using hk
      rw [hin,hk1,show ((1:Int) == 2)=false from rfl,Bool.false_and,Bool.or_self] at hvb; simp only [hk1,zAz,zAA,Int.reduceBEq,zAP]; exact leaf2 false _ rfl (by exact g6) hvb.symm
    ·rw [hk,Bool.false_and,Bool.false_or] at hvb
     refine zAH (fun hk2=>?_) (fun hk2=>?_)
     ·simp only [l3,zAA]; refine zB2 (zQr _ _ _ _) ?_; simp only [zAR,zAA]; rw [hk2,Bool.true_and] at hvb; exact leaf2 _ _ rfl (by exact g6) hvb.symm
     ·exact leaf2 false _ rfl (by exact g6) (by rw [hvb,hk2,Bool.false_and])
   ·simp only [qKn,qKr,qKx,qKp,bKn,bKr,bKp,bKx,tKn,tKr,tKx,tKp,zKn,zKr,zKx,zKp,zIV]; simp only [eKc,eKn,eKa,Nat.reduceEqDiff,↓reduceIte,gKz,gKs,dKs,and_self,h6]; have hB61:=hB68.ext t8 h1; refine zAX s4 (a:=⟨b6,0,none⟩) (v:=.bool true) rfl hB61 (by simp) fun W9 hu hB=>?_; have hu:Upd b6 W' W9:=hu; rw [←hKK]; have hd9:W9.obj W8.sz=some .deferred:=by rw [hu.obj _ (by omega)]; exact h3
    refine zDs hd9 ?_; have hu2:Upd W8.sz W9 (W9.upd W8.sz .dead):=Upd.of _ _ _; have t9:Top W9:=h2.upd (by omega) hu; rw [hKK]; refine hend _ true _ ((((Chg.of_kp (k38.trans h1)).then hu.chg fun _ _ h=>h)).then hu2.chg fun j hj he=>by omega) (t9.upd (by rw [hu.sz]; omega) hu2) (by rw [hu2.cell (by omega)]; exact hB.cell rfl) h6 ?_; rw [hth,zCJ fun m hm=>h5 m hm]; rfl
   ·subst y1; simp only [qKn,qKr,qKx,qKp,bKn,bKr,bKp,bKx,tKn,tKr,tKx,tKp,zKn,zKr,zKx,zKp,zIV]; rw [←hKK]; refine zDs y4 ?_; have hu2:Upd W8.sz W' (W'.upd W8.sz .dead):=Upd.of _ _ _; rw [hKK]; exact hend _ false _ (((Chg.of_kp k38).then y2 fun _ _ h=>h).then hu2.chg fun j hj he=>by omega) (y3.upd (by omega) hu2) (by rw [hu2.cell (by omega)]; exact y5) h6 y7.symm
 simp only [zAR,zAA]
 cases hi:zBQ c x.type with
 | none =>
  simp only [Option.isSome_none,Bool.not_false,zAn]; exact leaf true _ rfl rfl rfl rfl rfl (fun _=>by unfold zAs; rw [hi]) (fun h=>by cases h)
 | some i =>
  have hil:=zCF hi; have hs:=List.getElem?_eq_getElem hil; simp only [Option.isSome_some,Bool.not_true,zAP]; have e7:ld prog 5 (.pointer (some ⟨W3.sz,0+3,none⟩)) W5=some (.int .u8 (zAN c i)):=zAB a5 (a:=⟨W3.sz,0+3,none⟩) (hB7.cell (hel i hi)); obtain ⟨ar,cr,lr,hrr⟩:=hcat5.rw.some hi; have helc:zAN c i=c[i].elem:=by unfold zAN; rw [hs]
  have h60:=(zIj hok hil).1; simp only [zNB,zCU,zCH,zD6,zAA,e7,q4 W5 k5,q4' W5 k5,q3' W5 k5,lr,zAT u40,zAT u29,zAz,zBW,zBO]
  refine zAH (fun he=>?_) (fun he=>?_)
  ·have he:zAN c i=0:=by simpa using he
   have hm:zC0 c i c[i] x.vals.length=decide (x.vals.length=(zAj c i).length):=by unfold zC0; rw [if_neg (by rw [←helc]; simpa using he)]
   refine zAH (fun hn=>?_) (fun hn=>?_)
   ·have hn:¬(x.vals.length:Int)=(zAj c i).length:=by simpa using hn
    exact leaf true _ rfl rfl rfl rfl rfl (fun _=>by rw [zJ0 hi hs,hm,decide_eq_false (by omega)]; rfl) (fun h=>by cases h)
   ·have hn:(x.vals.length:Int)=(zAj c i).length:=by simpa using hn
    refine leaf (decide ((x.vals.length:Int)>200)) _ rfl rfl rfl rfl rfl (fun h=>by have:=of_decide_eq_true h; omega) (fun _=>⟨i,c[i],hi,hs,by rw [hm]; exact decide_eq_true (by omega)⟩)
  ·have he:zAN c i≠0:=by simpa using he
   have hm:zC0 c i c[i] x.vals.length=decide (x.vals.length≤200):=by unfold zC0; rw [if_pos (by rw [←helc]; exact he)]
   refine leaf (decide ((x.vals.length:Int)>200)) _ rfl rfl rfl rfl rfl (fun h=>?_) (fun h=>⟨i,c[i],hi,hs,?_⟩)
   ·have:=of_decide_eq_true h; rw [zJ0 hi hs,hm,decide_eq_false (by omega)]; rfl
   ·have:=of_decide_eq_false h; rw [hm]; exact decide_eq_true (by omega)
theorem s24:siz prog 24=some 1:=by kernel_rfl
theorem a24:agg? prog 24=some false:=by kernel_rfl
structure WrAt (W:CW) (b2 b3 r1 r2:Nat) (c:List Shp) (h:List Thg):Prop where
 k:Cells W b2 0 [.map (some r1),.map (some r2)]
 cat:CatAt W r1 r2 c
 h:∃ a cap,W.cell b3 0=some (.slice a h.length cap)
theorem zPn {c:List Shp} {r1 r2 b2 b3:Nat} {x:Thg} {h:List Thg} {vx:Value} {W:CW} (ht:Top W) (A:WrAt W b2 b3 r1 r2 c h) (hok:zA9 c=true) (hC:Cat c) (hvx:IsSl 1 (RInt W) vx x.vals) (hv:x.vals.length<100000) (hsz:h.length<1000000) :
  WCall prog pkL 118 [.agg #[.string x.type,vx],.pointer (some ⟨b2,0,none⟩),.pointer (some ⟨b3,0,none⟩)] W (Ret (.bool (!zAs c x h.length)) W):=by
 refine zV0 ?_; rw [zV1]; refine zDC s56 ht fun W0 k0 t0 z0 hB=>?_; have hB:Blk W0 W.sz 56 [.string x.type,vx]:=hB; obtain ⟨a,cap,h3⟩:=A.h; have hc2:Cells W0 b2 0 [.map (some r1),.map (some r2)]:=A.k.ext ht k0; rw [zA8 (vs:=[.map (some r1),.map (some r2)]) (a:=⟨b2,0,none⟩) a78 s78 rfl (by omega) hc2,zA8 (vs:=[.string x.type,vx]) (a:=⟨W.sz,0,none⟩) a56 s56 rfl (by omega) hB.cells,zAB a24 (a:=⟨b3,0,none⟩) (k0.cell ht h3)]; simp only [zAA,zAT u24]; refine zMW (zUE t0 (A.cat.kp ht k0) hok hC (hvx.imp fun _ _ _ hr=>hr.kp ht k0) hv hsz) fun W1 k1 t1=>?_; simp only [zAR,zAA,zPQ]; exact ⟨rfl,k0.trans k1,t1⟩
theorem zQq {c:List Shp} {r1 r2 b2 b3:Nat} {v0:Value} {h:List Thg} {W:CW} (ht:Top W) (A:WrAt W b2 b3 r1 r2 c h) (hok:zA9 c=true) (hC:Cat c) (hh:IsSl 2 (RThg W) v0 h) (hv:∀ x,x ∈ h→x.vals.length<100000) (hsz:h.length<1000000) :
  WCall prog pkL 117 [v0,.func (.func 118) #[] #[.pointer (some ⟨b2,0,none⟩),.pointer (some ⟨b3,0,none⟩)]] W (Ret (.int .i64 (zIp h fun x=>!zAs c x h.length)) W):=by
 refine zV2 ?_; rw [zV3]; obtain ⟨a,cap,rfl,hcell⟩:=hh; simp only [zAT u24,zAA]; refine zCX (fun i e ds W'=>Kp W W'∧Top W'∧ds=[]∧e 0=.slice a h.length cap∧e 1=.func (.func 118) #[] #[.pointer (some ⟨b2,0,none⟩),.pointer (some ⟨b3,0,none⟩)]∧e 7=.int .i64 h.length∧e 8=.int .i64 i∧∀ j x,j<i→h[j]?=some x→(!zAs c x h.length)=false) h.length ⟨.refl _,ht,rfl,rfl,rfl,rfl,rfl,by omega⟩ ?_; rintro i e ds W' hi ⟨k',t',rfl,h0,h1,h7,h8,hpre⟩; rw [zUg,h0,h1,h7,h8]; simp only [zAZ,zAA]
 refine zGZ (fun hlt=>?_) (fun hge=>?_)
 ·have hx:=List.getElem?_eq_getElem hlt; obtain ⟨p,rfl,hr⟩:=hcell i _ hx; obtain ⟨u,hu,vx,rfl,hvx⟩:=(hr.kp ht k').ld; rw [zAb u24 s56 hlt]; simp only [zAA,hu]; obtain ⟨ah,ch,h3⟩:=A.h; refine zDd Tryz.func118 (by kernel_rfl) (zMW (zPn t' ⟨A.k.ext ht k',A.cat.kp ht k',ah,ch,k'.cell ht h3⟩ hok hC hvx (hv _ (List.getElem_mem hlt)) hsz) fun W1 k1 t1=>?_)
  refine zAH (fun hq=>?_) (fun hq=>?_)
  ·simp only [zIW,qKn,qKr,qKx,qKp,bKn,bKr,bKp,bKx,tKn,tKr,tKx,tKp,zKn,zKr,zKx,zKp,zNR,zJj]; refine ⟨?_,k'.trans k1,t1⟩; simp only [eKc,eKn,eKa,Nat.reduceEqDiff,↓reduceIte,gKz,gKs,dKs,and_self,h8]; rw [zEn hlt hq hpre]
  ·simp only [zIW,qKn,qKr,qKx,qKp,bKn,bKr,bKp,bKx,tKn,tKr,tKx,tKp,zKn,zKr,zKx,zKp]; simp only [eKc,eKn,eKa,Nat.reduceEqDiff,↓reduceIte,gKz,gKs,dKs,and_self,h0,h1,h7,h8,zAW,zAA,qKn,qKr,qKx,qKp,bKn,bKr,bKp,bKx,tKn,tKr,tKx,tKp,zKn,zKr,zKx,zKp]; refine ⟨hlt,k'.trans k1,t1,trivial,trivial,trivial,trivial,by rw [zCT (by omega)],fun j x hj hx'=>?_⟩
   rcases Nat.lt_succ_iff_lt_or_eq.1 hj with h2 | rfl
   ·exact hpre j x h2 hx'
   ·rw [hx] at hx'; cases hx'; exact hq
 ·simp only [qKn,qKr,qKx,qKp,bKn,bKr,bKp,bKx,tKn,tKr,tKx,tKp,zKn,zKr,zKx,zKp,if_true,zNR,zJj]; refine ⟨?_,k',t'⟩; simp only [eKc,eKn,eKa,Nat.reduceEqDiff,↓reduceIte,gKz,gKs,dKs,and_self]; rw [zEo fun j x hj hx=>hpre j x (by omega) hx]
theorem zR2 {c:List Shp} {r1 r2:Nat} {v1:Value} {h:List Thg} {W:CW} (ht:Top W) (hcat:CatAt W r1 r2 c) (hok:zA9 c=true) (hC:Cat c) (hh:IsSl 2 (RThg W) v1 h) (hv:∀ x,x ∈ h→x.vals.length<100000) (hsz:h.length<1000000) :
  WCall prog pkL 84 [zI2 r1 r2,v1] W (Ret (.int .i64 (zEV c h)) W):=by
 refine zXA ?_; rw [zXB]; unfold zI2; obtain ⟨a,cap,rfl,_⟩:=id hh; refine zDC s78 ht fun W0 k0 t0 z0 hB0=>?_; refine zDC s24 t0 fun W1 k1 t1 z1 hB1=>?_; have kk:=k0.trans k1; rw [zAB a24 (a:=⟨W0.sz,0,none⟩) (hB1.cell rfl)]; simp only [zAA,zAT u24,zBO]; unfold zEV
 refine zAH (fun hg=>?_) (fun hg=>?_)
 ·rw [zLl,if_pos (by have:=of_decide_eq_true hg; omega)]; exact ⟨rfl,kk,t1⟩
 ·rw [if_neg (by have:=of_decide_eq_false hg; omega)]; refine zMW (zQq t1 ⟨(hB0.ext t0 k1).cells,hcat.kp ht kk,_,_,hB1.cell rfl⟩ hok hC (hh.imp fun _ _ _ hr=>hr.kp ht kk) hv hsz) fun W2 k2 t2=>?_; rw [zLl]; exact ⟨rfl,kk.trans k2,t2⟩
theorem zNJ:Tryz.f49.results.toList=[.cell 6 78,.tmp 7]:=by kernel_rfl
def zEa (c:List Shp) (h:List Thg) (root:Int):Int:=if zA9 c then (if zEV c h≥0 then 211 else if root<0∨root>h.length then 1 else 0) else 210
def zJv (c:List Shp) (h:List Thg) (root:Int) (W:CW):Ending→CW→Prop:=fun e W'=>Kp W W'∧Top W'∧∃ r1 r2,e=.returned (.tuple #[zI2 r1 r2,.int .i64 (zEa c h root)])∧(zA9 c=true→CatAt W' r1 r2 c)
theorem CatAt.upd78 {W W':CW} {r1 r2 b:Nat} {c:List Shp} {u v:Value} (h:CatAt W r1 r2 c) (hu:Upd b W W') (hB:Blk W b 78 [u,v]) (h1:∀ k n,u≠.int k n∧v≠.int k n) (h2:∀ s,u≠.string s∧v≠.string s):CatAt W' r1 r2 c:=by
 have hci:∀ b' k k2 n,W.cell b' k=some (.int k2 n)→W'.cell b' k=some (.int k2 n):=fun b' k k2 n hc=>by
  rw [hu.cell]
  ·exact hc
  ·rintro rfl; have:=hB.cell_inv hc
   match k,this with
   | 0,this=>exact ((h1 k2 n).1 (Option.some.inj this)).elim
   | 1,this=>exact ((h1 k2 n).2 (Option.some.inj this)).elim
 have hcs:∀ b' k s,W.cell b' k=some (.string s)→W'.cell b' k=some (.string s):=fun b' k s hc=>by
  rw [hu.cell]
  ·exact hc
  ·rintro rfl; have:=hB.cell_inv hc
   match k,this with
   | 0,this=>exact ((h2 s).1 (Option.some.inj this)).elim
   | 1,this=>exact ((h2 s).2 (Option.some.inj this)).elim
 constructor
 ·obtain ⟨m,m1,m2⟩:=h.sh; refine ⟨m,m1.congr (hu.obj _ (Ne.symm (zAr hB m1))),fun s=>?_⟩; have:=m2 s
  cases hi:zBQ c s with
  | none=>rw [hi] at this; exact this
  | some i =>
   rw [hi] at this; obtain ⟨w,x,h5,h6,vf,ab,lb,cb,h7,h8⟩:=this; exact ⟨w,x,h5,h6,vf,ab,lb,cb,h7,h8.imp fun _ _ _ hr=>⟨hcs _ _ _ hr.name,hci _ _ _ _ hr.kind,hr.lo,hr.hi⟩⟩
 ·obtain ⟨m,m1,m2⟩:=h.rw; refine ⟨m,m1.congr (hu.obj _ (Ne.symm (zAr hB m1))),fun s=>?_⟩; have:=m2 s
  cases hi:zBQ (c.take c.length) s with
  | none=>rw [hi] at this; exact this
  | some i =>
   rw [hi] at this; obtain ⟨v,h5,h6⟩:=this; exact ⟨v,h5,h6.imp fun _ _ _ hr=>hci _ _ _ _ hr⟩
theorem zQL {v0 v1:Value} {c:List Shp} {h:List Thg} {root:Int} {W:CW} (ht:Top W) (hc:IsSl 5 (RShp W) v0 c) (hC:Cat c) (hh:IsSl 2 (RThg W) v1 h) (hv:∀ x,x ∈ h→x.vals.length<100000) (hsz:h.length<1000000) :
  WCall prog pkL 49 [v0,v1,.int .i64 root] W (zJv c h root W):=by
 refine zXp ?_; rw [zXq]; obtain ⟨a,cap,rfl,_⟩:=id hh; refine zFa z78 s78 ht fun W0 k0 t0 z0 hB6=>?_; have hB6:Blk W0 W.sz 78 [.map none,.map none]:=hB6; refine (zHd t0 (hc.imp fun _ _ _ hr=>hr.kp ht k0) hC).mono fun en W1 ⟨k1,t1,r1,r2,hen,hr1,hr2,hcat⟩=>?_; subst hen; simp only [zAK,zBF,zBE,zAA]; unfold zI2; refine zBx (ws:=[.map (some r1),.map (some r2)]) z78 s78 rfl rfl rfl t1 fun W4 k4 t4 z4 hB8=>?_; have hB64:=hB6.ext t0 (k1.trans k4); have k04:=(k0.trans k1).trans k4; generalize hKK:zAE prog Tryz.f49 (zJv c h root W)=K
 have hfin:∀ W5,Kp W4 W5→Top W5→(zA9 c=true→CatAt W5 r1 r2 c)→∀ {K':Value→CW→Prop},(∀ v W6,(∀ e,e 6=.pointer (some ⟨W.sz,0,none⟩)→e 7=.int .i64 (zEa c h root)→K .ret e [] W6)→K' v W6) →
   wV (ld prog 78 (.pointer (some ⟨W1.sz,0,none⟩)) W5) fun v=>wV (sto prog 78 (.pointer (some ⟨W.sz,0,none⟩)) v W5) (K' v):=by
  intro W5 k5 t5 hcat5 K' hK'; rw [zMz (hB8.ext t4 k5)]; simp only [zAA]; have hB65:=hB64.ext t4 k5; refine zB6 s78 (a:=⟨W.sz,0,none⟩) rfl rfl hB65 (by simp) fun W6 hu hB=>hK' _ W6 fun e h6 h7=>?_; have hu:Upd W.sz W5 W6:=hu; have hB:Blk W6 W.sz 78 [.map (some r1),.map (some r2)]:=hB; rw [←hKK]; refine zDg zNJ h6 (zMz hB) ?_; have hl:=hB65.lt t5; refine ⟨(k04.trans k5).upd (Nat.le_refl _) hu,t5.upd hl hu,r1,r2,by rw [h7]; rfl,fun hc=>?_⟩; exact (hcat5 hc).upd78 hu hB65 (fun k n=>⟨nofun,nofun⟩) (fun s=>⟨nofun,nofun⟩)
 simp only [zAR,zAA]
 cases hok:zA9 c with
 | false =>
  simp only [Bool.not_false,zAn]; refine hfin W4 (.refl _) t4 (fun h=>by rw [hok] at h; cases h) fun v W6 hr=>?_; simp only [zFU,qKn,qKr,qKx,qKp,bKn,bKr,bKp,bKx,tKn,tKr,tKx,tKp,zKn,zKr,zKx,zKp]; exact hr _ rfl (by unfold zEa; rw [hok]; rfl)
 | true =>
  simp only [Bool.not_true,zAP]; have hcat4:=(hcat hok).kp t1 k4; rw [zMz hB8]; simp only [zAA]; refine zMW (zR2 (v1:=.slice a h.length cap) t4 hcat4 hok hC (hh.imp fun _ _ _ hr=>hr.kp ht k04) hv hsz) fun W8 k8 t8=>?_; have hcat8:=hcat4.kp t4 k8; simp only [zEJ,zAA]
  refine zAH (fun hw=>?_) (fun hw=>?_)
  ·have hw:=of_decide_eq_true hw; refine hfin W8 k8 t8 (fun _=>hcat8) fun v W6 hr=>?_; simp only [zFU,qKn,qKr,qKx,qKp,bKn,bKr,bKp,bKx,tKn,tKr,tKx,tKp,zKn,zKr,zKx,zKp]; exact hr _ rfl (by unfold zEa; rw [hok,if_pos rfl,if_pos hw]; rfl)
  ·have hw:=of_decide_eq_false hw; simp only [zAT u24,zAA]; refine zB2 (zQr _ _ _ _) ?_; simp only [zAR,zAA]
   refine zAH (fun hb=>?_) (fun hb=>?_)
   ·refine hfin W8 k8 t8 (fun _=>hcat8) fun v W6 hr=>?_; simp only [zFU,qKn,qKr,qKx,qKp,bKn,bKr,bKp,bKx,tKn,tKr,tKx,tKp,zKn,zKr,zKx,zKp]; refine hr _ rfl ?_
    have:root<0∨root>h.length:=by
     by_cases h1:(0:Int)≤root
     ·right
      by_cases h2:root≤(h.length:Int)
      ·rw [decide_eq_true h1,decide_eq_true h2] at hb; cases hb
      ·omega
     ·left; omega
    unfold zEa; rw [hok,if_pos rfl,if_neg hw,if_pos this]; rfl
   ·have:¬(root<0∨root>h.length):=by
     rw [Bool.not_eq_false',Bool.and_eq_true,decide_eq_true_eq,decide_eq_true_eq] at hb; omega
    simp only [zFU,qKn,qKr,qKx,qKp,bKn,bKr,bKp,bKx,tKn,tKr,tKx,tKp,zKn,zKr,zKx,zKp]; simp only [eKc,eKn,eKa,Nat.reduceEqDiff,↓reduceIte,gKz,gKs,dKs,and_self]; refine hfin W8 k8 t8 (fun _=>hcat8) fun v W6 hr=>?_; exact hr _ rfl (by unfold zEa; rw [hok,if_pos rfl,if_neg hw,if_neg this]; rfl)
end Go.Ce
namespace Go.Ce
open Go Go.Proofs Go.Proofs.Tryz
def zNN (ro:Option Nat) (K:zAI):zAI:=zA5 (fun e ds W=>wV (ld prog 88 (e 15) W) fun v96=>wV (nck v96) fun v97=>wV (fad prog 97 v97 0) fun v98=>WCall prog pkL 55 [v98,(.int .i64 1)] W (zAK (fun v99 W18=>wV (ld prog 88 (e 15) W18) fun v100=>wV (nck v100) fun v101=>wV (fad prog 97 v101 0) fun v102=>wV (ld prog 51 (e 16) W18) fun v103=>wV (ld prog 88 (e 15) W18) fun v104=>wV (nck v104) fun v105=>wV (fad prog 97 v105 0) fun v106=>wV (some (.func (.func 57) #[v106] #[])) fun v107=>WCall prog pkL 56 [v102,v103,v107] W18 (zAK (fun v108 W20=>(((True)∧ld prog 88 (e 15) W18=some v104)∧(((True)∧ld prog 51 (e 16) W18=some v103)∧(((True)∧ld prog 88 (e 15) W18=some v100)∧True)))∧True∧WCall prog pkL 58 [] W20 (zAK (fun v109 W22=>wVW (alc prog 108 W22) fun v22 W24=>wV (sto prog 108 v22 v109 W24) fun W25=>wV (ld prog 88 (e 15) W25) fun v110=>wV (nck v110) fun v111=>wV (fad prog 97 v111 0) fun v112=>wV (ld prog 88 (e 15) W25) fun v113=>wV (nck v113) fun v114=>wV (fad prog 97 v114 1) fun v115=>wV (ld prog 89 v115 W25) fun v116=>wV (nck v116) fun v117=>wV (fad prog 100 v117 0) fun v118=>wV (ld prog 40 v118 W25) fun v119=>wV (some (.func (.func 60) #[] #[(e 12),(e 6),(e 15),(e 16),(e 10),v22])) fun v120=>WCall prog pkL 59 [v112,v119,v120] W25 (zAK (fun v121 W26=>(((True)∧ld prog 40 v118 W25=some v119)∧(((True)∧ld prog 89 v115 W25=some v116)∧(((True)∧ld prog 88 (e 15) W25=some v113)∧(((True)∧ld prog 88 (e 15) W25=some v110)∧True))))∧True∧wV (ld prog 88 (e 15) W26) fun v122=>wV (nck v122) fun v123=>wV (fad prog 97 v123 0) fun v124=>wV (fad prog 95 v124 0) fun v125=>wV (ld prog 29 v125 W26) fun v126=>K .ret (Env.of e [(9,(.int .i64 0)),(8,v126),(126,v126),(125,v125),(124,v124),(123,v123),(122,v122),(121,v121),(120,v120),(119,v119),(118,v118),(117,v117),(116,v116),(115,v115),(114,v114),(113,v113),(112,v112),(111,v111),(110,v110),(22,v22),(109,v109),(108,v108),(107,v107),(106,v106),(105,v105),(104,v104),(103,v103),(102,v102),(101,v101),(100,v100),(99,v99),(98,v98),(97,v97),(96,v96)]) ds W26) (fun ch27 W27=>False))) (fun ch23 W23=>K (.panic ch23) (Env.of e [(108,v108),(107,v107),(106,v106),(105,v105),(104,v104),(103,v103),(102,v102),(101,v101),(100,v100),(99,v99),(98,v98),(97,v97),(96,v96)]) ds W23))) (fun ch21 W21=>False))) (fun ch19 W19=>K (.panic ch19) (Env.of e [(98,v98),(97,v97),(96,v96)]) ds W19))) K
theorem zX0 (v0 v1 v2 v3:Value) (K:zAI) (W:CW):zAJ prog pkL none 17 127 (zAG prog 17) (Env.args [v0,v1,v2,v3]) [] W K=(wVW (bxw prog 24 v2 W) fun v6 W0=>WCall prog pkL 47 [v0] W0 (zAK (fun v25 W1=>wV (ext v25 0) fun v26=>wV (ext v25 1) fun v27=>wVW (alc prog 78 W1) fun v10 W3=>wV (sto prog 78 v10 v26 W3) fun W4=>wV (ngt v27) fun v29=>wI v29 (K .ret (Env.of (Env.args [v0,v1,v2,v3]) [(9,(.int .i64 210)),(8,(.slice none 0 0)),(29,v29),(28,v27),(11,v27),(10,v10),(27,v27),(26,v26),(23,v25),(25,v25),(24,v0),(9,(.int .i64 0)),(8,(.slice none 0 0)),(6,v6)]) [] W4) (wV (ld prog 78 v10 W4) fun v31=>WCall prog pkL 48 [v31,v1] W4 (zAK (fun v33 W5=>wV (ext v33 0) fun v34=>wV (ext v33 1) fun v35=>wVW (alc prog 83 W5) fun v12 W7=>wV (sto prog 83 v12 v34 W7) fun W8=>wV (ngt v35) fun v37=>wI v37 (K .ret (Env.of (Env.args [v0,v1,v2,v3]) [(9,(.int .i64 212)),(8,(.slice none 0 0)),(37,v37),(36,v35),(11,v35),(12,v12),(35,v35),(34,v34),(30,v33),(33,v33),(32,v1),(31,v31),(29,v29),(28,v27),(11,v27),(10,v10),(27,v27),(26,v26),(23,v25),(25,v25),(24,v0),(9,(.int .i64 0)),(8,(.slice none 0 0)),(6,v6)]) [] W8) (wV (ld prog 24 v6 W8) fun v40=>WCall prog pkL 49 [v0,v40,v3] W8 (zAK (fun v42 W9=>wV (ext v42 0) fun v43=>wV (ext v42 1) fun v44=>wVW (alc prog 78 W9) fun v13 W11=>wV (sto prog 78 v13 v43 W11) fun W12=>wV (zAL prog .neq 30 true v44 (.int .i64 0)) fun v46=>wI v46 (K .ret (Env.of (Env.args [v0,v1,v2,v3]) [(9,v44),(8,(.slice none 0 0)),(47,v44),(46,v46),(45,v44),(14,v44),(13,v13),(44,v44),(43,v43),(38,v42),(42,v42),(41,v3),(40,v40),(39,v0),(37,v37),(36,v35),(11,v35),(12,v12),(35,v35),(34,v34),(30,v33),(33,v33),(32,v1),(31,v31),(29,v29),(28,v27),(11,v27),(10,v10),(27,v27),(26,v26),(23,v25),(25,v25),(24,v0),(9,(.int .i64 0)),(8,(.slice none 0 0)),(6,v6)]) [] W12) (wV (some (.func (.func 51) #[] #[v10,v12,v6])) fun v49=>WCall prog pkL 50 [v3,v49] (W12.new (.cells .nil 1 #[.pointer none] 88)) (zAK (fun v50 W13=>wV (ld prog 78 v10 W13) fun v51=>wV (bld prog 97 [(1,v50),(2,v51)]) fun v52=>wVW (bxw prog 97 v52 W13) fun v53 W15=>true=true∧wV (sto prog 88 (.pointer (some ⟨W12.sz,0,none⟩)) v53 W15) fun W16=>(((True)∧((True)∧((ld prog 78 v10 W13=some v51)∧ld prog 78 v10 (W12.new (.cells .nil 1 #[.pointer none] 88))=some v51)))∧True)∧(((True)∧((zM7 (.pointer (some ⟨W12.sz,0,none⟩)) ((W12.new (.cells .nil 1 #[.pointer none] 88)).obj W12.sz) W15=true)∧((zM7 (.pointer (some ⟨W12.sz,0,none⟩)) ((W12.new (.cells .nil 1 #[.pointer none] 88)).obj W12.sz) W13=true)∧zM7 (.pointer (some ⟨W12.sz,0,none⟩)) ((W12.new (.cells .nil 1 #[.pointer none] 88)).obj W12.sz) (W12.new (.cells .nil 1 #[.pointer none] 88))=true)))∧True)∧wVW (alc prog 51 W16) fun v16 W17=>wV (ld prog 88 (.pointer (some ⟨W12.sz,0,none⟩)) W17) fun v54=>wV (nck v54) fun v55=>wV (fad prog 97 v55 1) fun v56=>wV (ld prog 89 v56 W17) fun v57=>wV (nck v57) fun v58=>wV (fad prog 100 v58 0) fun v59=>wV (ld prog 40 v59 W17) fun v60=>wV (zAm prog 40 v60 W17) fun v61=>zCg prog pkL none 17 127 (.loop (zAS prog 17 0)) (Env.of (Env.args [v0,v1,v2,v3]) [(62,(.int .i64 0)),(61,v61),(60,v60),(59,v59),(58,v58),(57,v57),(56,v56),(55,v55),(54,v54),(16,v16),(15,(.pointer (some ⟨W12.sz,0,none⟩))),(53,v53),(52,v52),(51,v51),(50,v50),(49,v49),(48,v3),(46,v46),(45,v44),(14,v44),(13,v13),(44,v44),(43,v43),(38,v42),(42,v42),(41,v3),(40,v40),(39,v0),(37,v37),(36,v35),(11,v35),(12,v12),(35,v35),(34,v34),(30,v33),(33,v33),(32,v1),(31,v31),(29,v29),(28,v27),(11,v27),(10,v10),(27,v27),(26,v26),(23,v25),(25,v25),(24,v0),(9,(.int .i64 0)),(8,(.slice none 0 0)),(6,v6)]) [] W17 (zBm 0 (zNN none K))) (fun ch14 W14=>False)))) (fun ch10 W10=>K (.panic ch10) (Env.of (Env.args [v0,v1,v2,v3]) [(41,v3),(40,v40),(39,v0),(37,v37),(36,v35),(11,v35),(12,v12),(35,v35),(34,v34),(30,v33),(33,v33),(32,v1),(31,v31),(29,v29),(28,v27),(11,v27),(10,v10),(27,v27),(26,v26),(23,v25),(25,v25),(24,v0),(9,(.int .i64 0)),(8,(.slice none 0 0)),(6,v6)]) [] W10)))) (fun ch6 W6=>K (.panic ch6) (Env.of (Env.args [v0,v1,v2,v3]) [(32,v1),(31,v31),(29,v29),(28,v27),(11,v27),(10,v10),(27,v27),(26,v26),(23,v25),(25,v25),(24,v0),(9,(.int .i64 0)),(8,(.slice none 0 0)),(6,v6)]) [] W6)))) (fun ch2 W2=>K (.panic ch2) (Env.of (Env.args [v0,v1,v2,v3]) [(24,v0),(9,(.int .i64 0)),(8,(.slice none 0 0)),(6,v6)]) [] W2))):=by kernel_rfl
def zFn (ro:Option Nat) (K:zAI):zAI:=zA5 (fun e ds W=>wV (zAL prog .add 3 true (e 62) (.int .i64 1)) fun v95=>K .normal (Env.of e [(62,v95),(95,v95)]) ds W) K
theorem zVh (ro:Option Nat) (e:Env) (ds:List Deferred) (K:zAI) (W:CW):zAJ prog pkL ro 17 127 (zAS prog 17 0) e ds W K=(wV (zAL prog .lss 3 false (e 62) (e 61)) fun v63=>wI v63 (wV (iad prog 40 (e 60) (e 62)) fun v64=>wV (ld prog 3 v64 W) fun v65=>wV (fad prog 83 (e 12) 1) fun v67=>wV (ld prog 81 v67 W) fun v68=>wV (ld prog 24 (e 6) W) fun v69=>wV (zAL prog .sub 3 true v65 (.int .i64 1)) fun v71=>wV (iad prog 24 v69 v71) fun v72=>wV (fad prog 56 v72 0) fun v73=>wV (ld prog 9 v73 W) fun v74=>wV (lkp prog 81 v68 v74 true W) fun v75=>wV (ext v75 0) fun v76=>wV (ext v75 1) fun v77=>wVW (alc prog 58 W) fun v19 W30=>wV (sto prog 58 v19 v76 W30) fun W31=>(((True)∧((lkp prog 81 v68 v74 true W30=some v75)∧lkp prog 81 v68 v74 true W=some v75))∧(((True)∧((ld prog 9 v73 W30=some v74)∧ld prog 9 v73 W=some v74))∧(((True)∧((ld prog 24 (e 6) W30=some v69)∧ld prog 24 (e 6) W=some v69))∧(((True)∧((ld prog 81 v67 W30=some v68)∧ld prog 81 v67 W=some v68))∧True))))∧True∧wI v77 ((zFn ro K) .ret (Env.of e [(9,(.int .i64 214)),(8,(.slice none 0 0)),(78,v77),(20,v77),(19,v19),(77,v77),(76,v76),(66,v75),(75,v75),(74,v74),(73,v73),(72,v72),(71,v71),(70,v65),(69,v69),(68,v68),(67,v67),(18,v65),(65,v65),(64,v64),(63,v63)]) ds W31) (wV (ld prog 83 (e 12) W31) fun v79=>wV (ld prog 24 (e 6) W31) fun v80=>wV (zAL prog .sub 3 true v65 (.int .i64 1)) fun v82=>wV (iad prog 24 v80 v82) fun v83=>wV (ld prog 56 v83 W31) fun v84=>WCall prog pkL 53 [v79,v84] W31 (zAK (fun v85 W32=>wV (fld prog 56 v85 0) fun v86=>(((True)∧ld prog 56 v83 W31=some v84)∧(((True)∧ld prog 24 (e 6) W31=some v80)∧(((True)∧ld prog 83 (e 12) W31=some v79)∧True)))∧True∧wV (ld prog 51 (e 16) W32) fun v87=>WCall prog pkL 54 [v87,v86] W32 (zAK (fun v89 W34=>wV (ngt v89) fun v90=>wI v90 (wV (ld prog 51 (e 16) W34) fun v91=>wVW (bsl prog 51 1 [(0,v86)] W34) fun v93 W36=>wVW (app prog [51,51] v91 v93 W36) fun v94 W37=>wV (sto prog 51 (e 16) v94 W37) fun W38=>(zFn ro K) .normal (Env.of e [(94,v94),(93,v93),(92,v86),(91,v91),(90,v90),(89,v89),(88,v86),(87,v87),(21,v86),(86,v86),(85,v85),(84,v84),(83,v83),(82,v82),(81,v65),(80,v80),(79,v79),(78,v77),(20,v77),(19,v19),(77,v77),(76,v76),(66,v75),(75,v75),(74,v74),(73,v73),(72,v72),(71,v71),(70,v65),(69,v69),(68,v68),(67,v67),(18,v65),(65,v65),(64,v64),(63,v63)]) ds W38) ((zFn ro K) .normal (Env.of e [(90,v90),(89,v89),(88,v86),(87,v87),(21,v86),(86,v86),(85,v85),(84,v84),(83,v83),(82,v82),(81,v65),(80,v80),(79,v79),(78,v77),(20,v77),(19,v19),(77,v77),(76,v76),(66,v75),(75,v75),(74,v74),(73,v73),(72,v72),(71,v71),(70,v65),(69,v69),(68,v68),(67,v67),(18,v65),(65,v65),(64,v64),(63,v63)]) ds W34)) (fun ch35 W35=>(zFn ro K) (.panic ch35) (Env.of e [(88,v86),(87,v87),(21,v86),(86,v86),(85,v85),(84,v84),(83,v83),(82,v82),(81,v65),(80,v80),(79,v79),(78,v77),(20,v77),(19,v19),(77,v77),(76,v76),(66,v75),(75,v75),(74,v74),(73,v73),(72,v72),(71,v71),(70,v65),(69,v69),(68,v68),(67,v67),(18,v65),(65,v65),(64,v64),(63,v63)]) ds W35))) (fun ch33 W33=>False)))) (K (.exit 0) (Env.of e [(63,v63)]) ds W)):=by kernel_rfl
theorem zRO (Q:Ending→CW→Prop) (e:Env) (W:CW):zAE prog Tryz.f17 Q .ret e [] W=Q (.returned (.tuple #[e 8,e 9])) W:=by kernel_rfl
theorem zXz {Q:Ending→CW→Prop} {v0 v1 v2 v3:Value} {W:CW} (h:zAJ prog pkL none 17 127 (zAG prog 17) (Env.args [v0,v1,v2,v3]) [] W (zAE prog Tryz.f17 Q)):WCall prog pkL 17 [v0,v1,v2,v3] W Q:=zAM Tryz.func17 (by kernel_rfl) (by kernel_rfl) (by kernel_rfl) (by kernel_rfl) (by kernel_rfl) h
theorem zXm (v0 v1 v2 v3:Value) (K:zAI) (W:CW):zAJ prog pkL none 51 15 (zAG prog 51) (Env.args [v0,v1,v2,v3]) [] W K=(wV (ld prog 78 v1 W) fun v6=>wV (ld prog 83 v2 W) fun v7=>wV (ld prog 24 v3 W) fun v8=>wV (zAL prog .sub 3 true v0 (.int .i64 1)) fun v10=>wV (iad prog 24 v8 v10) fun v11=>wV (ld prog 56 v11 W) fun v12=>WCall prog pkL 53 [v7,v12] W (zAK (fun v13 W0=>WCall prog pkL 52 [v6,v13] W0 (zAK (fun v14 W2=>(((True)∧((True)∧ld prog 56 v11 W=some v12))∧(((True)∧((True)∧ld prog 24 v3 W=some v8))∧(((True)∧((True)∧ld prog 83 v2 W=some v7))∧(((True)∧((ld prog 78 v1 W0=some v6)∧ld prog 78 v1 W=some v6))∧True))))∧True∧K .ret (Env.of (Env.args [v0,v1,v2,v3]) [(5,v14),(14,v14),(13,v13),(12,v12),(11,v11),(10,v10),(9,v0),(8,v8),(7,v7),(6,v6),(5,(.slice none 0 0))]) [] W2) (fun ch3 W3=>False))) (fun ch1 W1=>False))):=by kernel_rfl
theorem zRD (Q:Ending→CW→Prop) (e:Env) (W:CW):zAE prog Tryz.f51 Q .ret e [] W=Q (.returned (e 5)) W:=by kernel_rfl
theorem zXl {Q:Ending→CW→Prop} {v0 v1 v2 v3:Value} {W:CW} (h:zAJ prog pkL none 51 15 (zAG prog 51) (Env.args [v0,v1,v2,v3]) [] W (zAE prog Tryz.f51 Q)):WCall prog pkL 51 [v0,v1,v2,v3] W Q:=zAM Tryz.func51 (by kernel_rfl) (by kernel_rfl) (by kernel_rfl) (by kernel_rfl) (by kernel_rfl) h
def zTi (ro:Option Nat) (K:zAI):zAI:=zA5 (fun e ds W=>wV (ld prog 56 (e 7) W) fun v42=>wV (sto prog 56 (e 4) v42 W) fun W8=>K .ret (Env.of e [(42,v42)]) ds W8) K
theorem zXi (v0 v1:Value) (K:zAI) (W:CW):zAJ prog pkL none 53 43 (zAG prog 53) (Env.args [v0,v1]) [] W K=(wVW (bxw prog 83 v0 W) fun v2 W0=>wVW (bxw prog 56 v1 W0) fun v3 W1=>wVW (alc prog 56 W1) fun v4 W2=>wV (fad prog 83 v2 0) fun v11=>wV (ld prog 81 v11 W2) fun v12=>wV (fad prog 56 v3 0) fun v13=>wV (ld prog 9 v13 W2) fun v14=>wV (lkp prog 81 v12 v14 true W2) fun v15=>wV (ext v15 0) fun v16=>wV (ext v15 1) fun v17=>wVW (alc prog 58 W2) fun v5 W3=>wV (sto prog 58 v5 v16 W3) fun W4=>wV (ngt v17) fun v19=>wI v19 (wV (ld prog 56 v3 W4) fun v20=>wV (sto prog 56 v4 v20 W4) fun W5=>K .ret (Env.of (Env.args [v0,v1]) [(20,v20),(19,v19),(18,v17),(6,v17),(5,v5),(17,v17),(16,v16),(10,v15),(15,v15),(14,v14),(13,v13),(12,v12),(11,v11),(4,v4),(3,v3),(2,v2)]) [] W5) (wV (fad prog 58 v5 1) fun v21=>wV (ld prog 9 v21 W4) fun v22=>wV (bld prog 56 [(0,v22)]) fun v23=>wVW (alc prog 56 W4) fun v7 W6=>wV (sto prog 56 v7 v23 W6) fun W7=>wV (fad prog 58 v5 2) fun v24=>wV (ld prog 40 v24 W7) fun v25=>wV (zAm prog 40 v25 W7) fun v26=>zCg prog pkL none 53 43 (.loop (zAS prog 53 0)) (Env.of (Env.args [v0,v1]) [(27,(.int .i64 0)),(26,v26),(25,v25),(24,v24),(7,v7),(23,v23),(22,v22),(21,v21),(19,v19),(18,v17),(6,v17),(5,v5),(17,v17),(16,v16),(10,v15),(15,v15),(14,v14),(13,v13),(12,v12),(11,v11),(4,v4),(3,v3),(2,v2)]) [] W7 (zBm 0 (zTi none K)))):=by kernel_rfl
def zRA (ro:Option Nat) (K:zAI):zAI:=zA5 (fun e ds W=>wV (zAL prog .add 3 true (e 27) (.int .i64 1)) fun v41=>K .normal (Env.of e [(27,v41),(41,v41)]) ds W) K
theorem zVW (ro:Option Nat) (e:Env) (ds:List Deferred) (K:zAI) (W:CW):zAJ prog pkL ro 53 43 (zAS prog 53 0) e ds W K=(wV (zAL prog .lss 3 false (e 27) (e 26)) fun v28=>wI v28 (wV (iad prog 40 (e 25) (e 27)) fun v29=>wV (ld prog 3 v29 W) fun v30=>wV (fad prog 56 (e 7) 1) fun v31=>wV (ld prog 40 v31 W) fun v32=>wV (fad prog 56 (e 3) 1) fun v33=>wV (ld prog 40 v33 W) fun v34=>wV (iad prog 40 v34 v30) fun v36=>wV (ld prog 3 v36 W) fun v37=>wVW (bsl prog 40 1 [(0,v37)] W) fun v38 W11=>wVW (app prog [40,40] v32 v38 W11) fun v39 W12=>wV (fad prog 56 (e 7) 1) fun v40=>wV (sto prog 40 v40 v39 W12) fun W13=>(((True)∧((True)∧((True)∧ld prog 3 v36 W=some v37)))∧(((True)∧((True)∧((True)∧ld prog 40 v33 W=some v34)))∧(((True)∧((True)∧((ld prog 40 v31 W11=some v32)∧ld prog 40 v31 W=some v32)))∧True)))∧True∧(zRA ro K) .normal (Env.of e [(40,v40),(39,v39),(38,v38),(37,v37),(36,v36),(35,v30),(34,v34),(33,v33),(32,v32),(31,v31),(9,v30),(30,v30),(29,v29),(28,v28)]) ds W13) (K (.exit 0) (Env.of e [(28,v28)]) ds W)):=by kernel_rfl
theorem zXh {Q:Ending→CW→Prop} {v0 v1:Value} {W:CW} (h:zAJ prog pkL none 53 43 (zAG prog 53) (Env.args [v0,v1]) [] W (zAE prog Tryz.f53 Q)):WCall prog pkL 53 [v0,v1] W Q:=zAM Tryz.func53 (by kernel_rfl) (by kernel_rfl) (by kernel_rfl) (by kernel_rfl) (by kernel_rfl) h
theorem zXg (v0 v1:Value) (K:zAI) (W:CW):zAJ prog pkL none 54 9 (zAG prog 54) (Env.args [v0,v1]) [] W K=(WCall prog pkL 61 [v0,v1] W (zAK (fun v7 W0=>wV (zAL prog .geq 3 true v7 (.int .i64 0)) fun v8=>K .ret (Env.of (Env.args [v0,v1]) [(4,v8),(8,v8),(7,v7),(6,v1),(5,v0),(4,(.bool false))]) [] W0) (fun ch1 W1=>K (.panic ch1) (Env.of (Env.args [v0,v1]) [(6,v1),(5,v0),(4,(.bool false))]) [] W1))):=by kernel_rfl
theorem zQ9 (Q:Ending→CW→Prop) (e:Env) (W:CW):zAE prog Tryz.f54 Q .ret e [] W=Q (.returned (e 4)) W:=by kernel_rfl
theorem zXf {Q:Ending→CW→Prop} {v0 v1:Value} {W:CW} (h:zAJ prog pkL none 54 9 (zAG prog 54) (Env.args [v0,v1]) [] W (zAE prog Tryz.f54 Q)):WCall prog pkL 54 [v0,v1] W Q:=zAM Tryz.func54 (by kernel_rfl) (by kernel_rfl) (by kernel_rfl) (by kernel_rfl) (by kernel_rfl) h
def zTh (ro:Option Nat) (K:zAI):zAI:=zA5 (fun e ds W=>wV (nck (e 0)) fun v23=>wV (fad prog 95 v23 0) fun v24=>wV (ld prog 29 v24 W) fun v25=>wV (cvw prog 3 5 (e 1)) fun v27=>wVW (bsl prog 29 1 [(0,v27)] W) fun v28 W0=>wVW (app prog [29,29] v25 v28 W0) fun v29 W1=>wV (nck (e 0)) fun v30=>wV (fad prog 95 v30 0) fun v31=>wV (sto prog 29 v31 v29 W1) fun W2=>K .normal (Env.of e [(31,v31),(30,v30),(29,v29),(28,v28),(27,v27),(26,(e 1)),(25,v25),(24,v24),(23,v23),(22,(e 0)),(21,(e 0))]) ds W2) K
theorem zXe (v0 v1:Value) (K:zAI) (W:CW):zAJ prog pkL none 55 32 (zAG prog 55) (Env.args [v0,v1]) [] W K=(zCg prog pkL none 55 32 (.loop (zAS prog 55 0)) (Env.args [v0,v1]) [] W (zBm 0 (zTh none K))):=by kernel_rfl
def zTg (ro:Option Nat) (K:zAI):zAI:=zA5 (fun e ds W=>wV (zAL prog .shr 3 true (e 1) (.int .u64 7)) fun v7=>K .normal (Env.of e [(1,v7),(7,v7),(6,(e 1))]) ds W) K
theorem zVV (ro:Option Nat) (e:Env) (ds:List Deferred) (K:zAI) (W:CW):zAJ prog pkL ro 55 32 (zAS prog 55 0) e ds W K=(wV (zAL prog .geq 3 true (e 1) (.int .i64 128)) fun v5=>wI v5 (wV (nck (e 0)) fun v10=>wV (fad prog 95 v10 0) fun v11=>wV (ld prog 29 v11 W) fun v12=>wV (zAL prog .rem 3 true (e 1) (.int .i64 128)) fun v14=>wV (zAL prog .add 3 true v14 (.int .i64 128)) fun v15=>wV (cvw prog 3 5 v15) fun v16=>wVW (bsl prog 29 1 [(0,v16)] W) fun v17 W5=>wVW (app prog [29,29] v12 v17 W5) fun v18 W6=>wV (nck (e 0)) fun v19=>wV (fad prog 95 v19 0) fun v20=>wV (sto prog 29 v20 v18 W6) fun W7=>(zTg ro K) .normal (Env.of e [(20,v20),(19,v19),(18,v18),(17,v17),(16,v16),(15,v15),(14,v14),(13,(e 1)),(12,v12),(11,v11),(10,v10),(9,(e 0)),(8,(e 0)),(5,v5),(4,(e 1))]) ds W7) (K (.exit 0) (Env.of e [(5,v5),(4,(e 1))]) ds W)):=by kernel_rfl
theorem zXd {Q:Ending→CW→Prop} {v0 v1:Value} {W:CW} (h:zAJ prog pkL none 55 32 (zAG prog 55) (Env.args [v0,v1]) [] W (zAE prog Tryz.f55 Q)):WCall prog pkL 55 [v0,v1] W Q:=zAM Tryz.func55 (by kernel_rfl) (by kernel_rfl) (by kernel_rfl) (by kernel_rfl) (by kernel_rfl) h
theorem zXc (v0 v1 v2:Value) (K:zAI) (W:CW):zAJ prog pkL none 56 22 (zAG prog 56) (Env.args [v0,v1,v2]) [] W K=(wV (zAm prog 51 v1 W) fun v10=>WCall prog pkL 55 [v0,v10] W (zAK (fun v11 W0=>wV (zAm prog 51 v1 W0) fun v13=>zCg prog pkL none 56 22 (.loop (zAS prog 56 0)) (Env.of (Env.args [v0,v1,v2]) [(14,(.int .i64 0)),(13,v13),(12,v1),(11,v11),(10,v10),(9,v1),(8,v0)]) [] W0 (zBm 0 K)) (fun ch1 W1=>K (.panic ch1) (Env.of (Env.args [v0,v1,v2]) [(10,v10),(9,v1),(8,v0)]) [] W1))):=by kernel_rfl
def zQ8 (ro:Option Nat) (K:zAI):zAI:=zA5 (fun e ds W=>wV (zAL prog .add 3 true (e 14) (.int .i64 1)) fun v21=>K .normal (Env.of e [(14,v21),(21,v21)]) ds W) K
theorem zVU (ro:Option Nat) (e:Env) (ds:List Deferred) (K:zAI) (W:CW):zAJ prog pkL ro 56 22 (zAS prog 56 0) e ds W K=(wV (zAL prog .lss 3 false (e 14) (e 13)) fun v15=>wI v15 (wV (iad prog 51 (e 12) (e 14)) fun v16=>wV (ld prog 9 v16 W) fun v17=>zBq prog pkL (e 2) [v17] W (fun v20 W3=>(zQ8 ro K) .normal (Env.of e [(20,v20),(19,v17),(18,(e 2)),(7,v17),(17,v17),(16,v16),(15,v15)]) ds W3) (fun ch4 W4=>(zQ8 ro K) (.panic ch4) (Env.of e [(19,v17),(18,(e 2)),(7,v17),(17,v17),(16,v16),(15,v15)]) ds W4)) (K (.exit 0) (Env.of e [(15,v15)]) ds W)):=by kernel_rfl
theorem zXb {Q:Ending→CW→Prop} {v0 v1 v2:Value} {W:CW} (h:zAJ prog pkL none 56 22 (zAG prog 56) (Env.args [v0,v1,v2]) [] W (zAE prog Tryz.f56 Q)):WCall prog pkL 56 [v0,v1,v2] W Q:=zAM Tryz.func56 (by kernel_rfl) (by kernel_rfl) (by kernel_rfl) (by kernel_rfl) (by kernel_rfl) h
theorem zXa (v0 v1:Value) (K:zAI) (W:CW):zAJ prog pkL none 57 17 (zAG prog 57) (Env.args [v0,v1]) [] W K=(wV (zAm prog 9 v1 W) fun v6=>WCall prog pkL 55 [v0,v6] W (zAK (fun v7 W0=>wV (nck v0) fun v10=>wV (fad prog 95 v10 0) fun v11=>wV (ld prog 29 v11 W0) fun v12=>wVW (app prog [29,9] v12 v1 W0) fun v14 W2=>wV (nck v0) fun v15=>wV (fad prog 95 v15 0) fun v16=>wV (sto prog 29 v16 v14 W2) fun W3=>K .normal (Env.of (Env.args [v0,v1]) [(16,v16),(15,v15),(14,v14),(13,v1),(12,v12),(11,v11),(10,v10),(9,v0),(8,v0),(7,v7),(6,v6),(5,v1),(4,v0)]) [] W3) (fun ch1 W1=>K (.panic ch1) (Env.of (Env.args [v0,v1]) [(6,v6),(5,v1),(4,v0)]) [] W1))):=by kernel_rfl
theorem zXZ {Q:Ending→CW→Prop} {v0 v1:Value} {W:CW} (h:zAJ prog pkL none 57 17 (zAG prog 57) (Env.args [v0,v1]) [] W (zAE prog Tryz.f57 Q)):WCall prog pkL 57 [v0,v1] W Q:=zAM Tryz.func57 (by kernel_rfl) (by kernel_rfl) (by kernel_rfl) (by kernel_rfl) (by kernel_rfl) h
theorem zXY (K:zAI) (W:CW):zAJ prog pkL none 58 2 (zAG prog 58) (Env.args []) [] W K=(wVW (alc prog 108 W) fun v0 W0=>wV (bld prog 108 [(1,(.func (.func 106) #[] #[])),(2,(.func (.func 107) #[] #[]))]) fun v1=>wV (sto prog 108 v0 v1 W0) fun W1=>K .ret (Env.of (Env.args []) [(1,v1),(0,v0)]) [] W1):=by kernel_rfl
theorem zXX {Q:Ending→CW→Prop} {W:CW} (h:zAJ prog pkL none 58 2 (zAG prog 58) (Env.args []) [] W (zAE prog Tryz.f58 Q)):WCall prog pkL 58 [] W Q:=zAM Tryz.func58 (by kernel_rfl) (by kernel_rfl) (by kernel_rfl) (by kernel_rfl) (by kernel_rfl) h
theorem zXW (v0 v1 v2:Value) (K:zAI) (W:CW):zAJ prog pkL none 59 22 (zAG prog 59) (Env.args [v0,v1,v2]) [] W K=(wV (zAm prog 40 v1 W) fun v10=>WCall prog pkL 55 [v0,v10] W (zAK (fun v11 W0=>wV (zAm prog 40 v1 W0) fun v13=>zCg prog pkL none 59 22 (.loop (zAS prog 59 0)) (Env.of (Env.args [v0,v1,v2]) [(14,(.int .i64 0)),(13,v13),(12,v1),(11,v11),(10,v10),(9,v1),(8,v0)]) [] W0 (zBm 0 K)) (fun ch1 W1=>K (.panic ch1) (Env.of (Env.args [v0,v1,v2]) [(10,v10),(9,v1),(8,v0)]) [] W1))):=by kernel_rfl
def zQ7 (ro:Option Nat) (K:zAI):zAI:=zA5 (fun e ds W=>wV (zAL prog .add 3 true (e 14) (.int .i64 1)) fun v21=>K .normal (Env.of e [(14,v21),(21,v21)]) ds W) K
theorem zVT (ro:Option Nat) (e:Env) (ds:List Deferred) (K:zAI) (W:CW):zAJ prog pkL ro 59 22 (zAS prog 59 0) e ds W K=(wV (zAL prog .lss 3 false (e 14) (e 13)) fun v15=>wI v15 (wV (iad prog 40 (e 12) (e 14)) fun v16=>wV (ld prog 3 v16 W) fun v17=>zBq prog pkL (e 2) [v17] W (fun v20 W3=>(zQ7 ro K) .normal (Env.of e [(20,v20),(19,v17),(18,(e 2)),(7,v17),(17,v17),(16,v16),(15,v15)]) ds W3) (fun ch4 W4=>(zQ7 ro K) (.panic ch4) (Env.of e [(19,v17),(18,(e 2)),(7,v17),(17,v17),(16,v16),(15,v15)]) ds W4)) (K (.exit 0) (Env.of e [(15,v15)]) ds W)):=by kernel_rfl
theorem zXV {Q:Ending→CW→Prop} {v0 v1 v2:Value} {W:CW} (h:zAJ prog pkL none 59 22 (zAG prog 59) (Env.args [v0,v1,v2]) [] W (zAE prog Tryz.f59 Q)):WCall prog pkL 59 [v0,v1,v2] W Q:=zAM Tryz.func59 (by kernel_rfl) (by kernel_rfl) (by kernel_rfl) (by kernel_rfl) (by kernel_rfl) h
def zOJ (ro:Option Nat) (K:zAI):zAI:=zA5 (fun e ds W=>wV (ld prog 78 (e 5) W) fun v40=>wV (ld prog 56 (e 8) W) fun v41=>WCall prog pkL 62 [v40,v41] W (zAK (fun v42 W7=>zCg prog pkL ro 60 55 (.rangeFunc (.tmp 42) #[43,44] (rfA prog 60 0) (rfB prog 60 0)) (Env.of e [(42,v42),(41,v41),(40,v40)]) ds W7 (zBm 0 K)) (fun ch8 W8=>K (.panic ch8) (Env.of e [(41,v41),(40,v40)]) ds W8))) K
theorem zXU (v0 v1 v2 v3 v4 v5 v6:Value) (K:zAI) (W:CW):zAJ prog pkL none 60 55 (zAG prog 60) (Env.args [v0,v1,v2,v3,v4,v5,v6]) [] W K=(wV (ld prog 83 v1 (W.new (.cells .nil 2 #[.string ⟨#[]⟩,.slice none 0 0] 56))) fun v11=>wV (ld prog 24 v2 (W.new (.cells .nil 2 #[.string ⟨#[]⟩,.slice none 0 0] 56))) fun v12=>wV (zAL prog .sub 3 true v0 (.int .i64 1)) fun v14=>wV (iad prog 24 v12 v14) fun v15=>wV (ld prog 56 v15 (W.new (.cells .nil 2 #[.string ⟨#[]⟩,.slice none 0 0] 56))) fun v16=>WCall prog pkL 53 [v11,v16] (W.new (.cells .nil 2 #[.string ⟨#[]⟩,.slice none 0 0] 56)) (zAK (fun v17 W0=>true=true∧wV (sto prog 56 (.pointer (some ⟨W.sz,0,none⟩)) v17 W0) fun W2=>(((True)∧((True)∧ld prog 56 v15 (W.new (.cells .nil 2 #[.string ⟨#[]⟩,.slice none 0 0] 56))=some v16))∧(((True)∧((True)∧ld prog 24 v2 (W.new (.cells .nil 2 #[.string ⟨#[]⟩,.slice none 0 0] 56))=some v12))∧(((True)∧((True)∧ld prog 83 v1 (W.new (.cells .nil 2 #[.string ⟨#[]⟩,.slice none 0 0] 56))=some v11))∧True)))∧(((True)∧((zM7 (.pointer (some ⟨W.sz,0,none⟩)) ((W.new (.cells .nil 2 #[.string ⟨#[]⟩,.slice none 0 0] 56)).obj W.sz) W0=true)∧zM7 (.pointer (some ⟨W.sz,0,none⟩)) ((W.new (.cells .nil 2 #[.string ⟨#[]⟩,.slice none 0 0] 56)).obj W.sz) (W.new (.cells .nil 2 #[.string ⟨#[]⟩,.slice none 0 0] 56))=true))∧True)∧wV (ld prog 88 v3 W2) fun v18=>wV (nck v18) fun v19=>wV (fad prog 97 v19 0) fun v20=>wV (ld prog 51 v4 W2) fun v21=>wV (fad prog 56 (.pointer (some ⟨W.sz,0,none⟩)) 0) fun v22=>wV (ld prog 9 v22 W2) fun v23=>WCall prog pkL 61 [v21,v23] W2 (zAK (fun v24 W3=>WCall prog pkL 55 [v20,v24] W3 (zAK (fun v25 W5=>(((True)∧((True)∧ld prog 9 v22 W2=some v23))∧(((True)∧((True)∧ld prog 51 v4 W2=some v21))∧(((True)∧((ld prog 88 v3 W3=some v18)∧ld prog 88 v3 W2=some v18))∧True)))∧True∧wV (fad prog 78 v5 0) fun v26=>wV (ld prog 75 v26 W5) fun v27=>wV (fad prog 56 (.pointer (some ⟨W.sz,0,none⟩)) 0) fun v28=>wV (ld prog 9 v28 W5) fun v29=>wV (lkp prog 75 v27 v29 false W5) fun v30=>wV (fld prog 48 v30 3) fun v31=>wV (zAL prog .neq 5 true v31 (.int .u8 0)) fun v32=>wI v32 (wV (ld prog 88 v3 W5) fun v33=>wV (nck v33) fun v34=>wV (fad prog 97 v34 0) fun v35=>wV (fad prog 56 (.pointer (some ⟨W.sz,0,none⟩)) 1) fun v36=>wV (ld prog 40 v36 W5) fun v37=>wV (zAm prog 40 v37 W5) fun v38=>WCall prog pkL 55 [v35,v38] W5 (zAK (fun v39 W10=>(((True)∧zAm prog 40 v37 W5=some v38)∧(((True)∧ld prog 40 v36 W5=some v37)∧(((True)∧ld prog 88 v3 W5=some v33)∧True)))∧True∧(zOJ none K) .normal (Env.of (Env.args [v0,v1,v2,v3,v4,v5,v6]) [(39,v39),(38,v38),(37,v37),(36,v36),(35,v35),(34,v34),(33,v33),(32,v32),(31,v31),(30,v30),(29,v29),(28,v28),(27,v27),(26,v26),(25,v25),(24,v24),(23,v23),(22,v22),(21,v21),(20,v20),(19,v19),(18,v18),(8,(.pointer (some ⟨W.sz,0,none⟩))),(17,v17),(16,v16),(15,v15),(14,v14),(13,v0),(12,v12),(11,v11)]) [] W10) (fun ch11 W11=>False))) ((zOJ none K) .normal (Env.of (Env.args [v0,v1,v2,v3,v4,v5,v6]) [(32,v32),(31,v31),(30,v30),(29,v29),(28,v28),(27,v27),(26,v26),(25,v25),(24,v24),(23,v23),(22,v22),(21,v21),(20,v20),(19,v19),(18,v18),(8,(.pointer (some ⟨W.sz,0,none⟩))),(17,v17),(16,v16),(15,v15),(14,v14),(13,v0),(12,v12),(11,v11)]) [] W5)) (fun ch6 W6=>False))) (fun ch4 W4=>False))) (fun ch1 W1=>False))):=by kernel_rfl
theorem zVS (ro:Option Nat) (e:Env) (ds:List Deferred) (K:zAI) (W:CW):zAJ prog pkL ro 60 55 (rfA prog 60 0) e ds W K=(K .normal (Env.of e [(10,(e 44)),(9,(e 43))]) ds W):=by kernel_rfl
theorem zVR (ro:Option Nat) (e:Env) (ds:List Deferred) (K:zAI) (W:CW):zAJ prog pkL ro 60 55 (rfB prog 60 0) e ds W K=(wV (iad prog 108 (e 6) (e 10)) fun v46=>wV (ld prog 107 v46 W) fun v47=>wV (ld prog 88 (e 3) W) fun v48=>wV (fad prog 56 (e 8) 1) fun v49=>wV (ld prog 40 v49 W) fun v50=>wV (iad prog 40 v50 (e 9)) fun v52=>wV (ld prog 3 v52 W) fun v53=>zBq prog pkL v47 [v48,v53] W (fun v54 W12=>(((True)∧ld prog 3 v52 W=some v53)∧(((True)∧ld prog 40 v49 W=some v50)∧(((True)∧ld prog 88 (e 3) W=some v48)∧(((True)∧ld prog 107 v46 W=some v47)∧True))))∧True∧K .normal (Env.of e [(54,v54),(53,v53),(52,v52),(51,(e 9)),(50,v50),(49,v49),(48,v48),(47,v47),(46,v46),(45,(e 10))]) ds W12) (fun ch13 W13=>False)):=by kernel_rfl
theorem zXT {Q:Ending→CW→Prop} {v0 v1 v2 v3 v4 v5 v6:Value} {W:CW} (h:zAJ prog pkL none 60 55 (zAG prog 60) (Env.args [v0,v1,v2,v3,v4,v5,v6]) [] W (zAE prog Tryz.f60 Q)):WCall prog pkL 60 [v0,v1,v2,v3,v4,v5,v6] W Q:=zAM Tryz.func60 (by kernel_rfl) (by kernel_rfl) (by kernel_rfl) (by kernel_rfl) (by kernel_rfl) h
def zQ6 (ro:Option Nat) (K:zAI):zAI:=zA5 (fun e ds W=>K .ret (Env.of e [(4,(.int .i64 (-1)))]) ds W) K
theorem zXS (v0 v1:Value) (K:zAI) (W:CW):zAJ prog pkL none 61 19 (zAG prog 61) (Env.args [v0,v1]) [] W K=(wV (zAm prog 51 v0 W) fun v7=>zCg prog pkL none 61 19 (.loop (zAS prog 61 0)) (Env.of (Env.args [v0,v1]) [(8,(.int .i64 0)),(7,v7),(6,v0),(4,(.int .i64 0))]) [] W (zBm 0 (zQ6 none K))):=by kernel_rfl
def zOI (ro:Option Nat) (K:zAI):zAI:=zA5 (fun e ds W=>wV (zAL prog .add 3 true (e 8) (.int .i64 1)) fun v18=>K .normal (Env.of e [(8,v18),(18,v18)]) ds W) K
theorem zVQ (ro:Option Nat) (e:Env) (ds:List Deferred) (K:zAI) (W:CW):zAJ prog pkL ro 61 19 (zAS prog 61 0) e ds W K=(wV (zAL prog .lss 3 false (e 8) (e 7)) fun v9=>wI v9 (wV (iad prog 51 (e 0) (e 8)) fun v14=>wV (ld prog 9 v14 W) fun v15=>wV (zAL prog .eql 9 false (e 1) v15) fun v16=>wI v16 ((zOI ro K) .ret (Env.of e [(4,(e 8)),(17,(e 8)),(16,v16),(15,v15),(14,v14),(13,(e 8)),(12,(e 0)),(11,(e 1)),(5,(e 8)),(10,(e 8)),(9,v9)]) ds W) ((zOI ro K) .normal (Env.of e [(16,v16),(15,v15),(14,v14),(13,(e 8)),(12,(e 0)),(11,(e 1)),(5,(e 8)),(10,(e 8)),(9,v9)]) ds W)) (K (.exit 0) (Env.of e [(9,v9)]) ds W)):=by kernel_rfl
theorem zLn (Q:Ending→CW→Prop) (e:Env) (W:CW):zAE prog Tryz.f61 Q .ret e [] W=Q (.returned (e 4)) W:=by kernel_rfl
theorem zXR {Q:Ending→CW→Prop} {v0 v1:Value} {W:CW} (h:zAJ prog pkL none 61 19 (zAG prog 61) (Env.args [v0,v1]) [] W (zAE prog Tryz.f61 Q)):WCall prog pkL 61 [v0,v1] W Q:=zAM Tryz.func61 (by kernel_rfl) (by kernel_rfl) (by kernel_rfl) (by kernel_rfl) (by kernel_rfl) h
theorem zV9 (v0 v1:Value) (K:zAI) (W:CW):zAJ prog pkL none 106 19 (zAG prog 106) (Env.args [v0,v1]) [] W K=(wV (zAL prog .lss 3 true v1 (.int .i64 0)) fun v5=>wI v5 (wV (nck v0) fun v7=>wV (fad prog 97 v7 0) fun v8=>wV (zAL prog .mul 3 true (.int .i64 (-2)) v1) fun v10=>wV (zAL prog .sub 3 true v10 (.int .i64 1)) fun v11=>WCall prog pkL 55 [v8,v11] W (zAK (fun v12 W0=>K .normal (Env.of (Env.args [v0,v1]) [(12,v12),(11,v11),(10,v10),(9,v1),(8,v8),(7,v7),(6,v0),(5,v5),(4,v1)]) [] W0) (fun ch1 W1=>K (.panic ch1) (Env.of (Env.args [v0,v1]) [(11,v11),(10,v10),(9,v1),(8,v8),(7,v7),(6,v0),(5,v5),(4,v1)]) [] W1))) (wV (nck v0) fun v14=>wV (fad prog 97 v14 0) fun v15=>wV (zAL prog .mul 3 true (.int .i64 2) v1) fun v17=>WCall prog pkL 55 [v15,v17] W (zAK (fun v18 W2=>K .normal (Env.of (Env.args [v0,v1]) [(18,v18),(17,v17),(16,v1),(15,v15),(14,v14),(13,v0),(5,v5),(4,v1)]) [] W2) (fun ch3 W3=>K (.panic ch3) (Env.of (Env.args [v0,v1]) [(17,v17),(16,v1),(15,v15),(14,v14),(13,v0),(5,v5),(4,v1)]) [] W3)))):=by kernel_rfl
theorem zV8 {Q:Ending→CW→Prop} {v0 v1:Value} {W:CW} (h:zAJ prog pkL none 106 19 (zAG prog 106) (Env.args [v0,v1]) [] W (zAE prog Tryz.f106 Q)):WCall prog pkL 106 [v0,v1] W Q:=zAM Tryz.func106 (by kernel_rfl) (by kernel_rfl) (by kernel_rfl) (by kernel_rfl) (by kernel_rfl) h
theorem zV7 (v0 v1:Value) (K:zAI) (W:CW):zAJ prog pkL none 107 17 (zAG prog 107) (Env.args [v0,v1]) [] W K=(wV (nck v0) fun v5=>wV (fad prog 97 v5 0) fun v6=>wV (nck v0) fun v8=>wV (fad prog 97 v8 1) fun v9=>wV (ld prog 89 v9 W) fun v10=>wV (nck v10) fun v11=>wV (fad prog 100 v11 1) fun v12=>wV (ld prog 98 v12 W) fun v13=>wV (lkp prog 98 v13 v1 false W) fun v15=>WCall prog pkL 55 [v6,v15] W (zAK (fun v16 W0=>(((True)∧lkp prog 98 v13 v1 false W=some v15)∧(((True)∧ld prog 98 v12 W=some v13)∧(((True)∧ld prog 89 v9 W=some v10)∧True)))∧True∧K .normal (Env.of (Env.args [v0,v1]) [(16,v16),(15,v15),(14,v1),(13,v13),(12,v12),(11,v11),(10,v10),(9,v9),(8,v8),(7,v0),(6,v6),(5,v5),(4,v0)]) [] W0) (fun ch1 W1=>False))):=by kernel_rfl
theorem zV6 {Q:Ending→CW→Prop} {v0 v1:Value} {W:CW} (h:zAJ prog pkL none 107 17 (zAG prog 107) (Env.args [v0,v1]) [] W (zAE prog Tryz.f107 Q)):WCall prog pkL 107 [v0,v1] W Q:=zAM Tryz.func107 (by kernel_rfl) (by kernel_rfl) (by kernel_rfl) (by kernel_rfl) (by kernel_rfl) h
end Go.Ce
namespace Go.Ce
open Go Go.Proofs Go.Proofs.Tryz
def zWR (n:Int):Value:=.int .i64 n
theorem zQm (a b:Int):zIw (.int .i64) (zWR a) (zWR b)=some (decide (a=b)):=by
 show (if IntKind.i64=IntKind.i64 then some (a == b) else none)=_; rw [if_pos rfl]; rfl
theorem u98:prog.underlying 98=some (.map 3 3):=by kernel_rfl
theorem u3:prog.underlying 3=some (.int .i64):=by kernel_rfl
theorem a98:agg? prog 98=some false:=by kernel_rfl
theorem zHf (a:Addr):fad prog 100 (.pointer (some a)) 0=some (.pointer (some ⟨a.block,a.off,none⟩)):=by kernel_rfl
theorem zKR (a:Addr):fad prog 100 (.pointer (some a)) 1=some (.pointer (some ⟨a.block,a.off+1,none⟩)):=by kernel_rfl
theorem zBX (a:Addr):nck (.pointer (some a))=some (.pointer (some a)):=rfl
def PlM (W:CW) (r:Nat) (o:List Int):Prop:=∃ m:List (Int × Value),MapAt zWR W r m∧∀ n,zKD m n=if n ∈ o then some (.int .i64 (zAo o n)) else none
theorem PlM.lt {W:CW} (ht:Top W) {r:Nat} {o:List Int} (h:PlM W r o):r<W.sz:=by
 obtain ⟨m,h1,_⟩:=h; exact h1.lt ht
theorem PlM.congr {W W':CW} {r:Nat} {o:List Int} (h:PlM W r o) (ho:W'.obj r=W.obj r):PlM W' r o:=by
 obtain ⟨m,h1,h2⟩:=h; exact ⟨m,h1.congr ho,h2⟩
theorem PlM.look {W:CW} {r:Nat} {o:List Int} (h:PlM W r o) (n:Int):lkp prog 98 (.map (some r)) (.int .i64 n) false W=some (.int .i64 (zAo o n)):=by
 obtain ⟨m,h1,h2⟩:=h; have:=zF6 u98 u3 rfl z3 zQm h1 n false; rw [h2] at this
 by_cases hm:n ∈ o
 ·rw [if_pos hm] at this; exact this
 ·rw [if_neg hm] at this; rw [zCq hm]; exact this
theorem PlM.put {W:CW} {r:Nat} {o:List Int} {n:Int} (h:PlM W r o) (hn:n ∉ o) {K:CW→Prop} (hK:∀ W1,Upd r W W1→PlM W1 r (o++[n])→K W1):wV (mup prog 98 (.map (some r)) (.int .i64 n) (.int .i64 ((o.length+1:Nat):Int)) W) K:=by
 obtain ⟨m,h1,h2⟩:=h; refine zPs (enc:=zWR) (s:=n) u98 u3 rfl zQm h1 fun W1 hu hm=>hK W1 hu ⟨_,hm,fun u=>?_⟩; rw [zDr,h2,zH5 hn]
 by_cases e:u=n
 ·rw [if_pos e,if_pos e,if_pos (by rw [e]; simp)]; rfl
 ·rw [if_neg e,if_neg e]
  by_cases hu:u ∈ o
  ·rw [if_pos hu,if_pos (List.mem_append_left _ hu)]
  ·rw [if_neg hu,if_neg (by simp [hu,e])]
theorem PlM.ne {W:CW} {r b:Nat} {el:TypeId} {vs:List Value} {o:List Int} (h:PlM W r o) (hB:Blk W b el vs):b≠r:=by
 rintro rfl; obtain ⟨m,⟨es,clk,h1,_⟩,_⟩:=h; obtain ⟨c,n,z,h2,_⟩:=hB; rw [h1] at h2; cases h2
structure WkAt (W:CW) (bw rp:Nat) (vo:Value) (o:List Int):Prop where
 w:Blk W bw 100 [vo,.map (some rp)]
 own:Own W 3 1 vo (zCt o)
 p:PlM W rp o
def WkS (bw rp:Nat) (vo:Value) (j:Nat):Prop:=j=bw∨j=rp∨zA7 vo j
def zOg (bw rp:Nat) (vo:Value) (o:List Int) (W:CW):Ending→CW→Prop:=fun e W'=>(∃ v,e=.returned v)∧Chg (WkS bw rp vo) W W'∧Top W'∧∃ vo',WkAt W' bw rp vo' o∧∀ j,zA7 vo' j→zA7 vo j∨W.sz≤j
theorem zNi {bw rp:Nat} {vo:Value} {o:List Int} {n:Int} {W:CW} (ht:Top W) (hw:WkAt W bw rp vo o) (hn:0≤n) (hol:o.length<100000) :
  WCall prog pkL 105 [.pointer (some ⟨bw,0,none⟩),.int .i64 n] W (zOg bw rp vo (visit o n) W):=by
 refine zWA ?_; rw [zWB]; have q0:ld prog 40 (.pointer (some ⟨bw,0,none⟩)) W=some vo:=zAB a40 (a:=⟨bw,0,none⟩) (hw.w.cell rfl); have q1:ld prog 98 (.pointer (some ⟨bw,0+1,none⟩)) W=some (.map (some rp)):=zAB a98 (a:=⟨bw,0+1,none⟩) (hw.w.cell rfl)
 have leaf:∀ (b:Bool) (e:Env),e 14=.bool b→e 0=.pointer (some ⟨bw,0,none⟩)→e 1=.int .i64 n→(b=true→visit o n=o)→(b=false→0<n∧n ∉ o)→(zKb none (zAE prog Tryz.f105 (zOg bw rp vo (visit o n) W))) .normal e [] W:=by
  intro b e h14 h0 h1 hbt hbf; simp only [zKb,qKn,qKr,qKx,qKp,bKn,bKr,bKp,bKx,tKn,tKr,tKx,tKp,zKn,zKr,zKx,zKp,h14]
  refine zAH (fun hb=>?_) (fun hb=>?_)
  ·simp only [zIX,qKn,qKr,qKx,qKp,bKn,bKr,bKp,bKx,tKn,tKr,tKx,tKp,zKn,zKr,zKx,zKp]; rw [hbt hb,zPS]; exact ⟨⟨_,rfl⟩,.refl _ _,ht,vo,hw,fun j hj=>.inl hj⟩
  ·obtain ⟨hpos,hnew⟩:=hbf hb; have hv:visit o n=o++[n]:=by unfold visit; rw [if_pos ⟨hpos,hnew⟩]
   rw [hv]; simp only [zIX,qKn,qKr,qKx,qKp,bKn,bKr,bKp,bKx,tKn,tKr,tKx,tKp,zKn,zKr,zKx,zKp,h0,h1,zBX,zHf,zKR,zAA,q0]; refine zTZ u40 s3 z3 rfl (by omega) by3 (by omega) (zUn _) rfl rfl ht hw.own (by rw [zFC]; omega) fun u v1 W1 hpu t1 o1 n1=>?_; rw [←zN5] at o1; have hne:=zO4 hw.own hw.w (by decide); have hw1:=hpu.blk ht hw.w hne; refine zAX (vs:=[vo,.map (some rp)]) s40 (a:=⟨bw,0,none⟩) (zH6 o1) hw1 (by simp) fun W2 hu hw2=>?_; have hu:Upd bw W1 W2:=hu; have hw2:Blk W2 bw 100 [v1,.map (some rp)]:=hw2; have hbwl:=hw1.lt t1; have t2:Top W2:=t1.upd hbwl hu; have hn1:Newer W.sz v1:=n1 _ (Nat.le_refl _); have hbw:=hw.w.lt ht; have o2:Own W2 3 1 v1 (zCt (o++[n])):=zF1 o1 hu fun b l c e=>by have:=hn1 b l c e; omega
   have hrp:=hw.p.lt ht; have hrpn:rp≠bw:=fun e=>hw.p.ne hw.w e.symm
   have hrpv:∀ b l c,vo=.slice (some b) l c→rp≠b.block:=fun b l c e hb=>by
    have ho:=hw.own; rw [e] at ho
    cases ho with
    | some hB hl=>exact hw.p.ne hB hb.symm
   have hp1:PlM W1 rp o:=hw.p.congr (hpu.obj rp hrp hrpv); have hp2:PlM W2 rp o:=hp1.congr (hu.obj rp hrpn); have hl2:(zCt (o++[n])).length=(o.length+1)*1:=by rw [zFC]; simp
   have c1:ld prog 98 (.pointer (some ⟨bw,0+1,none⟩)) W2=some (.map (some rp)):=zAB a98 (a:=⟨bw,0+1,none⟩) (hw2.cell rfl); have c2:ld prog 40 (.pointer (some ⟨bw,0,none⟩)) W2=some v1:=zAB a40 (a:=⟨bw,0,none⟩) (hw2.cell rfl); have c3:zAm prog 40 v1 W2=some (.int .i64 ((o.length+1:Nat):Int)):=zEK u40 o2 (by omega) hl2; simp only [c1,c2,c3,zAA]; refine hp2.put hnew fun W3 hu3 hp3=>?_; have hrp2:=hp2.lt t2; have t3:=t2.upd hrp2 hu3; refine ⟨by simp only [and_self],trivial,?_⟩
   have hlv:∀ (e:Env) (W:CW) (Q:Ending→CW→Prop),Q (.returned (.tuple #[])) W→zAE prog Tryz.f105 Q .normal e [] W:=fun e W Q h=>by
    have hr:Tryz.f105.results.toList=[]:=by kernel_rfl
    simp only [zAE,zBB,hr,zFu]; exact h
   refine hlv _ _ _ ⟨⟨_,rfl⟩,?_,t3,v1,⟨hw2.congr (hu3.obj _ (hp2.ne hw2)),zF1 o2 hu3 fun b l c e hb=>?_,hp3⟩,fun j hj=>.inr (hn1.in hj)⟩
   ·exact ⟨by rw [hu3.sz,hu.sz]; exact hpu.sz,fun j hj hS=>by
     rw [hu3.obj j fun e=>hS (.inr (.inl e)),hu.obj j fun e=>hS (.inl e)]
     exact hpu.chg.obj j hj fun h=>hS (.inr (.inr h))⟩
   ·have:=hn1 b l c e; omega
 simp only [zAz,zAA]
 refine zAH (fun h0=>?_) (fun h0=>?_)
 ·have h0:n=0:=by simpa using h0
  exact leaf true _ rfl rfl rfl (fun _=>by unfold visit; rw [if_neg (by omega)]) (fun h=>by cases h)
 ·have h0:n≠0:=by simpa using h0
  simp only [zBX,zKR,zAA,q1,hw.p.look,zBO]
  refine leaf _ _ rfl rfl rfl (fun h=>?_) (fun h=>?_)
  ·have h:=of_decide_eq_true h; unfold visit; rw [if_neg (fun hh=>by rw [zCq hh.2] at h; omega)]
  ·have h:=of_decide_eq_false h; exact ⟨by omega,fun hm=>h (zH4 hm)⟩
end Go.Ce
namespace Go.Ce
open Go Go.Proofs Go.Proofs.Tryz
theorem z40:zer prog 40=some (.slice none 0 0):=by kernel_rfl
def zKy (l:List Int) (W:CW):Ending→CW→Prop:=fun e W'=>Kp W W'∧Top W'∧∃ vr,e=.returned vr∧Own W' 3 1 vr (zCt l)∧Newer W.sz vr
theorem zGm (c:List Shp) (i:Nat) (vs:List Int):∀ k,(zCo c i vs k).length≤k
 | 0=>by simp [zCo]
 | k+1=>by
  have h:=zGm c i vs k
  have h2:(if zA3 c i k=2 then (vs[k]?).toList else []).length≤1:=by
   split
   ·cases vs[k]? <;> simp
   ·simp
  rw [zCo,List.length_append]; omega
theorem zUH {c:List Shp} {r1 r2 i:Nat} {y:Thg} {vx:Value} {W:CW} (ht:Top W) (hcat:CatAt W r1 r2 c) (hi:zBQ c y.type=some i) (hrow:zAN c i=0→y.vals.length≤(zAj c i).length) (hvx:IsSl 1 (RInt W) vx y.vals) (hv:y.vals.length<100000) :
  WCall prog pkL 52 [zI2 r1 r2,.agg #[.string y.type,vx]] W (zKy (zEc c y) W):=by
 refine zXj ?_; rw [zXk]; unfold zI2; obtain ⟨ax,cx,rfl,_⟩:=id hvx; refine zDC s78 ht fun W0 k0 t0 z0 hB2=>?_; have hB2:Blk W0 W.sz 78 [.map (some r1),.map (some r2)]:=hB2; refine zDC s56 t0 fun W1 k1 t1 z1 hB3=>?_; have hB3:Blk W1 W0.sz 56 [.string y.type,.slice ax y.vals.length cx]:=hB3; refine zFa z40 s40 t1 fun W2 k2 t2 z2 hB5=>?_; have hB5:Blk W2 W1.sz 40 [.slice none 0 0]:=hB5; have hB22:=hB2.ext t0 (k1.trans k2); have hB32:=hB3.ext t1 k2; have k02:=(k0.trans k1).trans k2; have hb5W:W.sz≤W1.sz:=(k0.trans k1).sz; have hb35:W0.sz≠W1.sz:=by omega
 rw [zA8 (vs:=[.map (some r1),.map (some r2)]) a78 s78 rfl (by omega) hB22.cells,zA8 (vs:=[.string y.type,.slice ax y.vals.length cx]) a56 s56 rfl (by omega) hB32.cells]; simp only [zAA]; generalize hb3:W0.sz=b3 at hB32 hB3 hb35; generalize hb5:W1.sz=b5 at hB5 hb5W hb35; refine (zHe (r1:=r1) (r2:=r2) (ty:=y.type) t2).mono fun en W4 ⟨k4,t4,bk,bx,hen,hbk,hbx,hBk,hBx⟩=>?_; subst hen; simp only [zAK]; have k04:=k02.trans k4; have hcat4:=hcat.kp ht k04; have hv4:IsSl 1 (RInt W4) (.slice ax y.vals.length cx) y.vals:=hvx.imp fun _ _ _ hr=>hr.kp ht k04; have hB54:=hB5.ext t2 k4; have hB34:=hB32.ext t2 k4; have hb52:=hB5.lt t2; have hb32:=hB32.lt t2; have hsz4:=k4.sz; have hKs:∀ W',Chg (·=b5) W4 W'→∀ b k v,b≠b5→W4.cell b k=some v→W'.cell b k=some v:=fun W' h b k v hb hc=>h.cell t4 hb hc
 have hKd:∀ W',Chg (·=b5) W4 W'→KdAt W' bk bx r1 r2 c y.type y.vals.length:=fun W' h=>by
  have h78:bk≠b5:=by omega
  have h56:bx≠b5:=by omega
  refine ⟨hKs W' h _ _ _ h78 (hBk.cell rfl),hKs W' h _ _ _ h78 (hBk.cell rfl),?_,hKs W' h _ _ _ h56 (hBx.cell rfl),_,_,hKs W' h _ _ _ h56 (hBx.cell rfl)⟩; have hcW:=hcat; exact hcat.kp ht (Chg.kp k04 h fun j hj=>by omega)
 have hres:∀ (W':CW) (vo:Value) (e:Env),Chg (·=b5) W4 W'→Top W'→W'.obj W4.sz=some .deferred→W4.sz<W'.sz→Blk W' b5 40 [vo]→Own W' 3 1 vo (zCt (zEc c y))→(∀ j,zA7 vo j→W4.sz+2≤j)→e 4=vo →
   zAE prog Tryz.f52 (zKy (zEc c y) W) .ret e [zFA W4.sz] W':=by
  intro W' vo e hch t' hd hl hB ho hn h4; refine zDs hd ?_; have hu:Upd W4.sz W' (W'.upd W4.sz .dead):=Upd.of _ _ _; rw [zRB,h4]; have hW4:=k04.sz; exact ⟨(Chg.kp k04 hch fun j hj=>by omega).upd hW4 hu,t'.upd hl hu,vo,rfl,zF1 ho hu fun b l c e he=>by have:=hn b.block ⟨b,l,c,e,rfl⟩; omega,fun b l c e=>by have:=hn b.block ⟨b,l,c,e,rfl⟩; omega⟩
 refine zMY (bk:=bk) (bx:=bx) (r1:=r1) (r2:=r2) (n:=y.vals.length) (ix:=i) (c:=c) (ty:=y.type) (a1:=6) (a2:=7) t4 rfl hi hv hrow (fun ro e0 ds K W=>by rw [zVY]) (by decide)
  (fun j W'=>Chg (·=b5) W4 W'∧Top W'∧W'.obj W4.sz=some .deferred∧W4.sz+1<W'.sz∧∃ vo,Blk W' b5 40 [vo]∧Own W' 3 1 vo (zCt (zCo c i y.vals j))∧∀ m,zA7 vo m→W4.sz+2≤m)
  (fun _ _=>False) (fun j W' h=>hKd W' h.1) (fun j W1 W2 ⟨h1,h2,h3,h4,vo,h5,h6,h7⟩ hu hc=>?_) (fun _ _ _ h _ _=>h.elim) (fun W3 k3 t3 z3 hd=>⟨Chg.of_kp k3,t3,hd,by omega,_,hB54.ext t4 k3,Own.nil,fun m hm=>by obtain ⟨b,l,c,e,_⟩:=hm; cases e⟩)
  (fun j W1 Kb E hE hE1 hE2 hj ⟨hch,t1',hd,hl,vo,hBv,hov,hnv⟩ hlo hn _ _=>?_) (fun W' ⟨h1,h2,h3,h4,vo,h5,h6,h7⟩=>?_) (fun _ _ h=>h.elim)
 ·exact ⟨h1.then hu.chg fun i hi he=>by omega,h2.upd h4 hu,by rw [hu.obj _ (by omega)]; exact h3,by rw [hu.sz]; exact h4,vo,h5.congr (hu.obj _ (by omega)),zF1 h6 hu fun b l c e he=>by have:=h7 b.block ⟨b,l,c,e,rfl⟩; omega,h7⟩
 ·have hxj:=List.getElem?_eq_getElem hj; have g3:E 3=.pointer (some ⟨b3,0,none⟩):=(hE 3 (by decide) (by decide) (by decide) (by decide)).trans rfl; have g5:E 5=.pointer (some ⟨b5,0,none⟩):=(hE 5 (by decide) (by decide) (by decide) (by decide)).trans rfl; have hrs:zCo c i y.vals (j+1)=zCo c i y.vals j++(if zA3 c i j=2 then [y.vals[j]] else []):=zMo hxj; rw [zVX,g3,g5,hE1,hE2]; simp only [zAz,zAA]
  refine zAH (fun hk=>?_) (fun hk=>?_)
  ·have hk:zA3 c i j=2:=by simpa using hk
   have hv1:IsSl 1 (RInt W1) (.slice ax y.vals.length cx) y.vals:=by
    have:=hvx.imp (S:=fun b o x=>RInt W1 b o x) fun _ _ _ hr=>hr.kp ht (Chg.kp k04 hch fun j hj=>by omega); exact this
   obtain ⟨_,_,e3,hvc⟩:=hv1
   cases e3
   obtain ⟨q,rfl,hq⟩:=hvc j _ hxj; have l5:∀ W7,Kp W1 W7→ld prog 40 (.pointer (some ⟨b5,0,none⟩)) W7=some vo:=fun W7 k7=>zAB a40 (a:=⟨b5,0,none⟩) (k7.cell t1' (hBv.cell rfl)); have l3:ld prog 40 (.pointer (some ⟨b3,0+1,none⟩)) W1=some (.slice (some q) y.vals.length cx):=zAB a40 (a:=⟨b3,0+1,none⟩) (hKs W1 hch _ _ _ hb35 (hB34.cell rfl)); simp only [l5 W1 (.refl _),zCH,zAA,l3]; rw [zAb u40 s3 hj]; simp only [zAA]; rw [zAB a3 (a:=⟨q.block,q.off+j*1,none⟩) hq.1]; simp only [zAA]; have hrl:=zGm c i y.vals j; refine zGb u40 s3 z3 rfl (by omega) by3 (by omega) (zUn _) rfl rfl t1' hov (by rw [zFC]; omega) fun u Wa v1 W7 ka ta hpu t7 o7 n7=>?_; rw [←zN5] at o7; have hne:=zO4 hov hBv (by decide); have hB7:=hpu.blk t1' hBv hne; refine zAX (vs:=[vo]) s40 (a:=⟨b5,0,none⟩) (zH6 o7) hB7 (by simp) fun W8 hu hB8=>?_; have hu:Upd b5 W7 W8:=hu; have hps:=hpu.sz; have hn7:Newer W1.sz v1:=n7 _ (Nat.le_refl _); refine ⟨by simp only [l5 Wa ka,and_self],trivial,?_⟩
   refine hn _ _ W8 ?_ ⟨(hch.then hpu.chg fun m hm hi=>by have:=hnv m hi; omega).then hu.chg fun m hm hi=>hi,t7.upd (by omega) hu,?_,by rw [hu.sz]; omega,v1,hB8,?_,fun m hm=>by have:=hn7.in hm; omega⟩
   ·rw [hu.obj _ (by omega)]; exact hpu.obj _ (by omega) fun b l c e hb=>by have:=hnv b.block ⟨b,l,c,e,rfl⟩; omega
   ·rw [hu.obj _ (by omega)]; rw [hpu.obj _ (by omega) fun b l c e hb=>by have:=hnv b.block ⟨b,l,c,e,rfl⟩; omega]; exact hd
   ·rw [hrs,if_pos hk]; exact zF1 o7 hu fun b l c e=>by have:=hn7 b l c e; omega
  ·have hk:¬zA3 c i j=2:=by simpa using hk
   refine hn _ _ W1 rfl ⟨hch,t1',hd,hl,vo,hBv,?_,hnv⟩; rw [hrs,if_neg hk,List.append_nil]; exact hov
 ·simp only [qKn,qKr,qKx,qKp,bKn,bKr,bKp,bKx,tKn,tKr,tKx,tKp,zKn,zKr,zKx,zKp,zRC]; simp only [eKc,eKn,eKa,Nat.reduceEqDiff,↓reduceIte,gKz,gKs,dKs,and_self]; rw [zAB a40 (a:=⟨b5,0,none⟩) (h5.cell rfl)]; simp only [zAA]; have hro:zEc c y=zCo c i y.vals y.vals.length:=by unfold zEc; rw [hi]
  exact hres W' vo _ h1 h2 h3 (by omega) h5 (by rw [hro]; exact h6) h7 rfl
theorem zNI:Tryz.f53.results.toList=[.cell 4 56]:=by kernel_rfl
theorem zTA {e e1:Env} {A W:CW} {K:zAI} {vm vx:Value} {b3 b7:Nat} {s:Spc} {x:Thg} (hA:Top A) (ht:Top W) (hk:Kp A W) (hvm:IsSl 1 (RInt A) vm s.map) (he:Agree [3,4,7,25,26] e e1) (h27:e1 27=.int .i64 0) (h25:e 25=vm) (h26:e 26=.int .i64 s.map.length) (h3:e 3=.pointer (some ⟨b3,0,none⟩)) (h7:e 7=.pointer (some ⟨b7,0,none⟩)) (hb3:A.cell b3 1=some vx) (hvx:IsSl 1 (RInt A) vx x.vals) (hb7:A.sz≤b7) (hB:Blk W b7 56 [.string s.to,.slice none 0 0])
  (hm:∀ m,m ∈ s.map→0≤m∧m.toNat<x.vals.length) (hlen:s.map.length<100000)
  (hex:∀ e' W' vo,Kp A W'→Top W'→Newer A.sz vo→Blk W' b7 56 [.string s.to,vo]→Own W' 3 1 vo (zCt (s.map.map (zEO x)))→Agree [3,4,7] e e'→K (.exit 0) e' [] W') :
  zCg prog pkL none 53 43 (.loop (zAS prog 53 0)) e1 [] W K:=by
 refine zCX (fun m e' ds' W'=>ds'=[]∧Kp A W'∧Top W'∧Agree [3,4,7,25,26] e e'∧e' 27=.int .i64 m∧∃ vo,Blk W' b7 56 [.string s.to,vo]∧Own W' 3 1 vo (zCt ((s.map.take m).map (zEO x)))∧Newer A.sz vo) s.map.length ⟨rfl,hk,ht,he,h27,_,hB,Own.nil,Newer.nil _ _ _⟩ ?_; rintro m e' ds' W' hm' ⟨rfl,k',t',hAg,g27,vo,hB',ho,hnw⟩; have hvm':IsSl 1 (RInt W') vm s.map:=hvm.imp fun _ _ _ hr=>hr.kp hA k'; have hvx':IsSl 1 (RInt W') vx x.vals:=hvx.imp fun _ _ _ hr=>hr.kp hA k'; obtain ⟨am,capm,rfl,hmc⟩:=hvm'; obtain ⟨ax,capx,rfl,hxc⟩:=hvx'; have g3:=(hAg 3 (by decide)).trans h3; have g7:=(hAg 7 (by decide)).trans h7; rw [zVW,g27,g3,g7,(hAg 25 (by decide)).trans h25,(hAg 26 (by decide)).trans h26]; simp only [zAZ,zAA]
 refine zGZ (fun hlt=>?_) (fun hge=>?_)
 ·have hx:=List.getElem?_eq_getElem hlt; obtain ⟨q,rfl,hq⟩:=hmc m _ hx; obtain ⟨hm0,hm1⟩:=hm _ (List.getElem_mem hlt); have hxx:=List.getElem?_eq_getElem hm1; obtain ⟨qx,rfl,hqx⟩:=hxc _ _ hxx; have q6:∀ W7,Kp W' W7→ld prog 40 (.pointer (some ⟨b7,0+1,none⟩)) W7=some vo:=fun W7 k7=>zAB a40 (a:=⟨b7,0+1,none⟩) (k7.cell t' (hB'.cell rfl)); have q3:ld prog 40 (.pointer (some ⟨b3,0+1,none⟩)) W'=some (.slice (some qx) x.vals.length capx):=zAB a40 (a:=⟨b3,0+1,none⟩) (k'.cell hA hb3)
  have ex:iad prog 40 (.slice (some qx) x.vals.length capx) (.int .i64 s.map[m])=some (.pointer (some ⟨qx.block,qx.off+s.map[m].toNat*1,none⟩)):=by
   have e1:(Value.int IntKind.i64 s.map[m])=.int .i64 ((s.map[m].toNat:Nat):Int):=by rw [Int.toNat_of_nonneg hm0]
   rw [e1]; exact zAb u40 s3 hm1
  have q1:ld prog 3 (.pointer (some ⟨q.block,q.off+m*1,none⟩)) W'=some (.int .i64 s.map[m]):=zAB a3 (a:=⟨q.block,q.off+m*1,none⟩) hq.1; have q2:ld prog 3 (.pointer (some ⟨qx.block,qx.off+s.map[m].toNat*1,none⟩)) W'=some (.int .i64 x.vals[s.map[m].toNat]):=zAB a3 (a:=⟨qx.block,qx.off+s.map[m].toNat*1,none⟩) hqx.1; rw [zAb u40 s3 hlt]; simp only [zCH,zAA,q6 W' (.refl _),q3,q1,ex,q2]; have hln:(zCt ((s.map.take m).map (zEO x))).length<900000:=by rw [zFC,List.length_map,List.length_take]; omega
  refine zGb u40 s3 z3 rfl (by omega) by3 (by omega) (zUn _) rfl rfl t' ho hln fun u Wa v1 W1 ka ta hpu t1 o1 n1=>?_; have hne:=zO4 ho hB' (by decide); have hB1:=hpu.blk t' hB' hne; have hn1:Newer W'.sz v1:=n1 _ (Nat.le_refl _); refine zAX (vs:=[.string s.to,vo]) s40 (a:=⟨b7,0+1,none⟩) (zH6 o1) hB1 (by simp) fun W2 hu hB2=>?_; have hb7l:b7<W'.sz:=hB'.lt t'; have hu:Upd b7 W1 W2:=hu; have k1:Kp A W1:=hpu.kp k' hnw; have k2:Kp A W2:=k1.upd hb7 hu; have t2:Top W2:=t1.upd (by have:=hpu.sz; omega) hu; refine ⟨by simp only [q6 Wa ka,and_self],trivial,?_⟩; simp only [zRA,qKn,qKr,qKx,qKp,bKn,bKr,bKp,bKx,tKn,tKr,tKx,tKp,zKn,zKr,zKx,zKp]; simp only [eKc,eKn,eKa,Nat.reduceEqDiff,↓reduceIte,gKz,gKs,dKs,and_self,g27,zAW,zAA,qKn,qKr,qKx,qKp,bKn,bKr,bKp,bKx,tKn,tKr,tKx,tKp,zKn,zKr,zKx,zKp]
  refine ⟨hlt,trivial,k2,t2,(hAg.trans (.put rfl)).trans (.put rfl),by rw [zCT (by omega)],v1,hB2,?_,fun b l c e=>?_⟩
  ·have:zCt ((s.map.take (m+1)).map (zEO x))=zCt ((s.map.take m).map (zEO x))++[.int .i64 x.vals[s.map[m].toNat]]:=by
    rw [List.take_add_one,hx]; simp only [Option.toList_some,List.map_append,List.map_cons,List.map_nil,zCt,zEO,hxx,Option.getD_some]
   rw [this]; exact zF1 o1 hu fun b l c e=>by have:=hn1 b l c e; omega
  ·have:=hn1 b l c e; have:=k'.sz; omega
 ·simp only [qKn,qKr,qKx,qKp,bKn,bKr,bKp,bKx,tKn,tKr,tKx,tKp,zKn,zKr,zKx,zKp]; have:s.map.take m=s.map:=List.take_of_length_le (by omega); rw [this] at ho; exact hex _ W' vo k' t' hnw hB' ho (fun t ht=>(Agree.put rfl t (by exact ht)).trans (hAg t (by revert t; decide)))
theorem zUo {w r:Nat} {vx:Value} {l:List Spc} {x:Thg} {W:CW} (ht:Top W) (hw:SpM Spc.type W w l) (hvx:IsSl 1 (RInt W) vx x.vals) (hm:∀ s,zFL l x.type=some s→∀ m,m ∈ s.map→0≤m∧m.toNat<x.vals.length) (hml:∀ s,s ∈ l→s.map.length<100000) :
  WCall prog pkL 53 [.agg #[.map (some w),.map (some r)],.agg #[.string x.type,vx]] W (zTt vx (zAD l x) W):=by
 refine zXh ?_; rw [zXi]; obtain ⟨ax,cx,rfl,_⟩:=id hvx; refine zDC s83 ht fun W0 k0 t0 z0 hB2=>?_; have hB2:Blk W0 W.sz 83 [.map (some w),.map (some r)]:=hB2; refine zDC s56 t0 fun W1 k1 t1 z1 hB3=>?_; have hB3:Blk W1 W0.sz 56 [.string x.type,.slice ax x.vals.length cx]:=hB3; refine zFa z56 s56 t1 fun A kA tA zA hB4=>?_; have hB4:Blk A W1.sz 56 [.string ⟨#[]⟩,.slice none 0 0]:=hB4; have k:=(k0.trans k1).trans kA; have hB3:=hB3.ext t1 kA; have hb4W:W.sz≤W1.sz:=(k0.trans k1).sz; have hwA:=hw.kp ht k; have hvA:IsSl 1 (RInt A) (.slice ax x.vals.length cx) x.vals:=hvx.imp fun _ _ _ hr=>hr.kp ht k; have q3:∀ W7,Kp A W7→ld prog 9 (.pointer (some ⟨W0.sz,0,none⟩)) W7=some (.string x.type):=fun W7 k7=>zAB a9 (a:=⟨W0.sz,0,none⟩) (k7.cell tA (hB3.cell rfl)); simp only [zKQ,zCU,zAA]; rw [zAB a81 (a:=⟨W.sz,0,none⟩) ((hB2.ext t0 (k1.trans kA)).cell rfl)]; simp only [zAA,q3 A (.refl _)]; generalize hKK:zAE prog Tryz.f53 (zTt (.slice ax x.vals.length cx) (zAD l x) W)=K
 have hfin:∀ W1' vv,Kp A W1'→Top W1'→zAg vv=true→(vv=.slice ax x.vals.length cx∨Newer W.sz vv)→(∀ W2,Upd W1.sz W1' W2→IsSl 1 (RInt W2) vv (zAD l x).vals)→∀ {K':CW→Prop},(∀ W2,(∀ e',e' 4=.pointer (some ⟨W1.sz,0,none⟩)→K .ret e' [] W2)→K' W2) →
   wV (sto prog 56 (.pointer (some ⟨W1.sz,0,none⟩)) (.agg [.string (zAD l x).type,vv].toArray) W1') K':=by
  intro W1' vv k1' t1' hone hor hvv K' hK'; have hB:=hB4.ext tA k1'; refine zB6 s56 (a:=⟨W1.sz,0,none⟩) (by simp only [List.all_cons,List.all_nil,hone,Bool.and_true]; rfl) rfl hB (by simp) fun W2 hu hB2=>hK' W2 fun e' h4'=>?_; have hu:Upd W1.sz W1' W2:=hu; rw [←hKK]; have hB2:Blk W2 W1.sz 56 [.string (zAD l x).type,vv]:=hB2; refine zFB zNI (p:=⟨W1.sz,0,none⟩) h4' (zA8 (vs:=[.string (zAD l x).type,vv]) a56 s56 rfl (by omega) hB2.cells) ?_; have hbl:=hB.lt t1'; exact ⟨(k.trans k1').upd hb4W hu,t1'.upd hbl hu,vv,rfl,hvv W2 hu,hor⟩
 cases hsp:zFL l x.type with
 | none =>
  have hwr:zAD l x=x:=by unfold zAD; rw [hsp]
  rw [hwA.none hsp]; simp only [zAA,zBF,zBE]; unfold zWj; refine zBx (ws:=[.string ⟨#[]⟩,.string ⟨#[]⟩,.slice none 0 0]) z58 s58 rfl rfl rfl tA fun W4 k4 t4 z4 hB5=>?_; simp only [zAR,zAA,Bool.not_false,zAn]; rw [zA8 (vs:=[.string x.type,.slice ax x.vals.length cx]) a56 s56 rfl (by omega) (hB3.ext tA k4).cells]; simp only [zAA]; have hty:x.type=(zAD l x).type:=by rw [hwr]
  rw [hty]; refine hfin W4 _ k4 t4 rfl (.inl rfl) (fun W3 hu=>?_) fun W3 hr=>hr _ rfl; rw [hwr]; exact hvx.imp fun _ _ _ hr=>hr.kp ht ((k.trans k4).upd hb4W hu)
 | some s =>
  have hwr:zAD l x=⟨s.to,s.map.map (zEO x)⟩:=by unfold zAD; rw [hsp]
  obtain ⟨i,hi,hty0⟩:=zDm hsp; obtain ⟨u,hu,L⟩:=hwA.some hsp; obtain ⟨am,cm,rfl,hum⟩:=hu; rw [L]; simp only [zAA,zBF,zBE]; refine zBx (ws:=[.string s.type,.string s.to,.slice am s.map.length cm]) z58 s58 rfl rfl rfl tA fun W4 k4 t4 z4 hB5=>?_; simp only [zAR,zAA,Bool.not_true,zAP,zEr,zFk]; rw [zAB a9 (a:=⟨A.sz,0+1,none⟩) (hB5.cell rfl)]; simp only [zAA]; rw [zYF]; simp only [zAA]; refine zBx z56 s56 rfl rfl rfl t4 fun W7 k7 t7 z7 hB7=>?_; rw [zAB a40 (a:=⟨A.sz,0+2,none⟩) ((hB5.ext t4 k7).cell rfl)]; simp only [zAA,zAT u40]
  refine zTA (e:=Env.of (Env.args []) [(3,.pointer (some ⟨W0.sz,0,none⟩)),(4,.pointer (some ⟨W1.sz,0,none⟩)),(7,.pointer (some ⟨W4.sz,0,none⟩)),(25,.slice am s.map.length cm),(26,.int .i64 s.map.length)]) tA t7 (k4.trans k7) hum (fun t ht=>by
   simp only [List.mem_cons,List.not_mem_nil,or_false] at ht
   rcases ht with rfl | rfl | rfl | rfl | rfl <;> rfl) rfl rfl rfl rfl rfl (hB3.cell rfl) hvA (k4.sz) hB7 (hm s hsp) (hml s (List.mem_of_getElem? hi)) fun e' W2 vo k2 t2 hnw hBo ho hAg=>?_
  have g4:e' 4=.pointer (some ⟨W1.sz,0,none⟩):=(hAg 4 (by decide)).trans rfl; have g7:e' 7=.pointer (some ⟨W4.sz,0,none⟩):=(hAg 7 (by decide)).trans rfl; simp only [qKn,qKr,qKx,qKp,bKn,bKr,bKp,bKx,tKn,tKr,tKx,tKp,zKn,zKr,zKx,zKp,if_true,zTi,g4,g7]; rw [zA8 (vs:=[.string s.to,vo]) a56 s56 rfl (by omega) hBo.cells]; simp only [zAA]; have hty:s.to=(zAD l x).type:=by rw [hwr]
  rw [hty]
  have hbd:∀ y,y ∈ (zAD l x).vals→-9223372036854775808≤y∧y≤9223372036854775807:=by
   rw [hwr]; intro y hy; obtain ⟨m,hm1,rfl⟩:=List.mem_map.1 hy; have hlt2:=(hm _ hsp m hm1).2; obtain ⟨ax',cx',_,hxc⟩:=hvx; obtain ⟨_,_,hxr⟩:=hxc _ _ (List.getElem?_eq_getElem hlt2); unfold zEO; rw [List.getElem?_eq_getElem hlt2]; exact hxr.2
  refine hfin W2 vo k2 t2 (zH6 ho) (.inr fun b l' c e=>Nat.le_trans k.sz (hnw b l' c e)) (fun W3 hu=>RInt.of ?_ hbd) fun W3 hr=>?_
  ·have hwv:(zAD l x).vals=s.map.map (zEO x):=by rw [hwr]
   rw [hwv]; have hb4:=hB4.ext tA k2; exact zEe (zF1 ho hu (zO4 ho hb4 (by decide)))
  ·exact hr _ g4
end Go.Ce
namespace Go.Ce
open Go Go.Proofs Go.Proofs.Tryz
theorem zWf (r:Nat):bld prog 100 [(1,.map (some r))]=some (.agg #[.slice none 0 0,.map (some r)]):=by kernel_rfl
theorem zYl:siz prog 100=some 2:=by kernel_rfl
theorem zMg (root:Int):visit [] root=start root:=by
 unfold visit start
 by_cases h:root>0
 ·rw [if_pos h,if_pos ⟨h,by simp⟩]; rfl
 ·rw [if_neg h,if_neg (fun hh=>h hh.1)]
theorem WkAt.lt {W:CW} {bw rp:Nat} {vo:Value} {o:List Int} (h:WkAt W bw rp vo o) (ht:Top W):bw<W.sz∧rp<W.sz∧∀ j,zA7 vo j→j<W.sz:=⟨h.w.lt ht,h.p.lt ht,fun j hj=>zH7 ht h.own hj⟩
theorem WkAt.kp {W W':CW} {bw rp:Nat} {vo:Value} {o:List Int} (h:WkAt W bw rp vo o) (ht:Top W) (k:Kp W W'):WkAt W' bw rp vo o:=⟨h.w.ext ht k,h.own.kp ht k,h.p.congr (k.obj _ (h.p.lt ht))⟩
def zTV (o:List Int) (N:Nat) (W:CW):Ending→CW→Prop:=fun e W'=>Kp W W'∧Top W'∧∃ bw rp vo,e=.returned (.pointer (some ⟨bw,0,none⟩))∧WkAt W' bw rp vo o∧W.sz≤bw∧W.sz≤rp∧Newer W.sz vo∧Found o N
theorem zPq {v1:Value} {root:Int} {N:Nat} {refs:Int→List Int} {W:CW} (ht:Top W) (hr0:0≤root) (hr1:root≤N) (hN:N<100000) (hin:∀ n:Int,0<n→n≤N→∀ r,r ∈ refs n→0≤r∧r≤N) (hrl:∀ n:Int,(refs n).length<100000)
  (hrefs:∀ (n:Int) (W':CW),Kp W W'→Top W'→0<n→n≤N→∀ (K:Value→CW→Prop) KP,(∀ vr W'',Kp W' W''→Top W''→Own W'' 3 1 vr (zCt (refs n))→Newer W'.sz vr→K vr W'')→zBq prog pkL v1 [.int .i64 n] W' K KP) :
  WCall prog pkL 50 [.int .i64 root,v1] W (zTV (zBH refs N (start root) 0) N W):=by
 refine zXn ?_; rw [zXo]; refine zMX (enc:=zWR) ht fun W0 k0 t0 z0 hm=>?_; rw [zWf]; simp only [zAA]; refine zDC zYl t0 fun W1 k1 t1 z1 hB=>?_; have hB:Blk W1 W0.sz 100 [.slice none 0 0,.map (some W.sz)]:=hB; have hw0:WkAt W1 W0.sz W.sz (.slice none 0 0) []:=⟨hB,Own.nil,⟨[],hm.kp t0 k1,fun n=>by simp [zKD]⟩⟩
 have k01:=k0.trans k1; have hbwW:W.sz≤W0.sz:=k0.sz; have hbwr:W0.sz≠W.sz:=by omega
 generalize hbw:W0.sz=bw at hw0 hbwW hbwr; refine (zNi t1 hw0 hr0 (by simp)).mono fun en W2 ⟨⟨v,he⟩,c2,t2,vo,hw2,hv2⟩=>?_; subst he; simp only [zAK]; rw [zMg] at hw2; have hnil:∀ j,¬zA7 (.slice none 0 0) j:=fun j ⟨b,l,c,e,_⟩=>by cases e
 have kS:∀ {A:CW} {vo:Value},(∀ j,zA7 vo j→W.sz≤j)→∀ j,WkS bw W.sz vo j→W.sz≤j:=fun hv j hj=>by
  rcases hj with rfl | rfl | hj
  ·exact hbwW
  ·exact Nat.le_refl _
  ·exact hv j hj
 have k2:Kp W W2:=Chg.kp k01 c2 fun j hj=>by
  rcases hj with rfl | rfl | hj
  ·exact hbwW
  ·exact Nat.le_refl _
  ·exact (hnil j hj).elim
 have hn2:Newer W.sz vo:=fun b l c e=>by
  rcases hv2 _ ⟨b,l,c,e,rfl⟩ with h | h
  ·exact (hnil _ h).elim
  ·have:=k01.sz; omega
 refine zCX (fun i e ds W'=>ds=[]∧∃ o vo,Kp W W'∧Top W'∧e 1=v1∧e 5=.pointer (some ⟨bw,0,none⟩)∧e 6=.int .i64 i∧WkAt W' bw W.sz vo o∧Newer W.sz vo∧Found o N∧zBH refs (N-i) o i=zBH refs N (start root) 0) N
  ⟨rfl,_,vo,k2,t2,rfl,rfl,rfl,hw2,hn2,.start hr1,rfl⟩ ?_
 rintro i e ds W' hi ⟨rfl,o,vo,k',t',h1,h5,h6,hw,hnv,hF,hR⟩; have hol:=hF.len; obtain ⟨hbwl,hrpl,hvol⟩:=hw.lt t'; have q0:ld prog 40 (.pointer (some ⟨bw,0,none⟩)) W'=some vo:=zAB a40 (a:=⟨bw,0,none⟩) (hw.w.cell rfl); have hol1:(zCt o).length=o.length*1:=by rw [zFC]; omega
 rw [zVa,h1,h5,h6]; simp only [zBX,zHf,zAA,q0,zEK u40 hw.own (by omega) hol1,zAZ]
 refine zGZ (fun hlt=>?_) (fun hge=>?_)
 ·have hx:=List.getElem?_eq_getElem hlt; obtain ⟨ao,co,rfl,hoc⟩:=zEe (f:=fun k=>Value.int .i64 k) hw.own; obtain ⟨po,rfl,hpo⟩:=hoc i _ hx; have hlow:=hF.low _ (List.getElem_mem hlt); have hhigh:=hF.high _ (List.getElem_mem hlt); rw [zAb u40 s3 hlt]; simp only [zAA]; rw [zAB a3 (a:=⟨po.block,po.off+i*1,none⟩) hpo]; simp only [zAA]; refine hrefs o[i] W' k' t' hlow hhigh _ _ fun vr W6 k6 t6 hvr hnr=>?_; have hrs:=hin o[i] hlow hhigh; have hrl:=hrl o[i]
  have hstep:zBH refs (N-(i+1)) ((refs o[i]).foldl visit o) (i+1)=zBH refs N (start root) 0:=by
   rw [←hR,show N-i=(N-(i+1))+1 by omega,zMi hx]
  generalize refs o[i]=rs at hvr hrs hrl hstep; have hrs1:(zCt rs).length=rs.length*1:=by rw [zFC]; omega
  rw [zEK u40 hvr (by omega) hrs1]; simp only [zAA]; have hw6:=hw.kp t' k6; have hsz6:=k6.sz
  have hvrS:∀ j,zA7 vr j→¬WkS bw W.sz (.slice (some po) o.length co) j:=fun j hj hS=>by
   have:=hnr.in hj
   rcases hS with rfl | rfl | hS
   ·omega
   ·omega
   ·have:=hvol j hS; omega
  refine zCX (fun k e' ds' W7=>ds'=[]∧∃ o' vo',Chg (WkS bw W.sz (.slice (some po) o.length co)) W6 W7∧Top W7∧e' 1=v1∧e' 5=.pointer (some ⟨bw,0,none⟩)∧e' 6=.int .i64 i∧e' 32=vr∧e' 33=.int .i64 rs.length∧e' 34=.int .i64 k∧WkAt W7 bw W.sz vo' o'∧(∀ j,zA7 vo' j→zA7 (.slice (some po) o.length co) j∨W6.sz≤j)∧Found o' N∧o'=(rs.take k).foldl visit o) rs.length
   ⟨rfl,o,_,.refl _ _,t6,h1,h5,h6,rfl,rfl,rfl,hw6,fun j hj=>.inl hj,hF,rfl⟩ ?_
  rintro k e' ds' W7 hk ⟨rfl,o',vo',c7,t7,g1,g5,g6,g32,g33,g34,hw7,hv7,hF7,ho7⟩; rw [zVZ,g5,g32,g33,g34]; simp only [zAZ,zAA]
  refine zGZ (fun hlt2=>?_) (fun hge2=>?_)
  ·have hxr:=List.getElem?_eq_getElem hlt2; have hvr7:=c7.own t6 hvr hvrS; obtain ⟨ar,cr,rfl,hrc⟩:=zEe (f:=fun k=>Value.int .i64 k) hvr7; obtain ⟨pr,rfl,hpr⟩:=hrc k _ hxr; rw [zAb u40 s3 hlt2]; simp only [zAA]; rw [zAB a3 (a:=⟨pr.block,pr.off+k*1,none⟩) hpr]; simp only [zAA]; obtain ⟨hb0,hb1⟩:=hrs _ (List.getElem_mem hlt2); have:=hF7.len; refine (zNi t7 hw7 hb0 (by omega)).mono fun en W9 ⟨⟨v,he⟩,c9,t9,vo9,hw9,hv9⟩=>?_; subst he; simp only [zAK,zRF,qKn,qKr,qKx,qKp,bKn,bKr,bKp,bKx,tKn,tKr,tKx,tKp,zKn,zKr,zKx,zKp]; simp only [eKc,eKn,eKa,Nat.reduceEqDiff,↓reduceIte,gKz,gKs,dKs,and_self,g34,zAW,zAA,qKn,qKr,qKx,qKp,bKn,bKr,bKp,bKx,tKn,tKr,tKx,tKp,zKn,zKr,zKx,zKp]; have hsz7:=c7.sz
   refine ⟨hlt2,trivial,_,vo9,c7.then c9 fun j hj hS=>?_,t9,g1,g5,g6,g32,g33,by rw [zCT (by omega)],hw9,fun j hj=>?_,hF7.visit hb1,?_⟩
   ·rcases hS with h | h | h
    ·exact .inl h
    ·exact .inr (.inl h)
    ·rcases hv7 j h with h | h
     ·exact .inr (.inr h)
     ·omega
   ·rcases hv9 j hj with h | h
    ·exact hv7 j h
    ·exact .inr (by omega)
   ·rw [List.take_add_one,hxr,List.foldl_append,←ho7]; rfl
  ·have hkr:rs.take k=rs:=List.take_of_length_le (by omega); rw [hkr] at ho7; simp only [qKn,qKr,qKx,qKp,bKn,bKr,bKp,bKx,tKn,tKr,tKx,tKp,zKn,zKr,zKx,zKp,if_true,zRG]; simp only [eKc,eKn,eKa,Nat.reduceEqDiff,↓reduceIte,gKz,gKs,dKs,and_self,g6,zAW,zAA,qKn,qKr,qKx,qKp,bKn,bKr,bKp,bKx,tKn,tKr,tKx,tKp,zKn,zKr,zKx,zKp]
   refine ⟨by omega,trivial,o',vo',Chg.kp (k'.trans k6) c7 fun j hj=>?_,t7,g1,g5,by rw [zCT (by omega)],hw7,fun b l c e=>?_,hF7,by rw [ho7]; exact hstep⟩
   ·rcases hj with rfl | rfl | hj
    ·exact hbwW
    ·exact Nat.le_refl _
    ·exact hnv.in hj
   ·rcases hv7 _ ⟨b,l,c,e,rfl⟩ with h | h
    ·exact hnv.in h
    ·have:=(k'.trans k6).sz; omega
 ·have hfo:o=zBH refs N (start root) 0:=by rw [←hR,zOz hge]
  simp only [qKn,qKr,qKx,qKp,bKn,bKr,bKp,bKx,tKn,tKr,tKx,tKp,zKn,zKr,zKx,zKp,if_true,zTj,zRE]; refine ⟨k',t',bw,W.sz,vo,?_,hfo ▸ hw,hbwW,Nat.le_refl _,hnv,hfo ▸ hF⟩; simp only [eKc,eKn,eKa,Nat.reduceEqDiff,↓reduceIte,gKz,gKs,dKs,and_self,h5]
theorem zMn {c:List Shp} {l:List Spc} {h:List Thg} (hok:zA9 c=true) (hs:zAq c l=true) (hth:∀ x,x ∈ h→zAs c x h.length=true) {n:Int}:∀ r,r ∈ zDp c l h n→0≤r∧r≤h.length:=by
 intro r hr; unfold zDp at hr
 cases hx:h[(n-1).toNat]? with
 | none=>rw [hx] at hr; cases hr
 | some x =>
  rw [hx] at hr; simp only at hr; obtain ⟨i,s,Y⟩:=zCA (zA2 hs (hth x (List.mem_of_getElem? hx))); generalize zAD l x=y at hr Y; unfold zEc at hr; rw [Y.ti] at hr; simp only at hr
  have:∀ k,r ∈ zCo c i y.vals k→0≤r∧r≤h.length:=by
   intro k
   induction k with
   | zero=>intro h; cases h
   | succ k ih =>
    intro h; rw [zCo] at h
    rcases List.mem_append.1 h with h | h
    ·exact ih h
    ·split at h
     ·rename_i hk
      cases hv:y.vals[k]? with
      | none=>rw [hv] at h; cases h
      | some v =>
       rw [hv] at h; have hrv:=List.mem_singleton.1 h; subst hrv
       rcases zDx hok Y hv with h | h
       ·exact ⟨h.2.1,h.2.2⟩
       ·omega
     ·cases h
  exact this _ hr
theorem zSS {c:List Shp} {l:List Spc} {h:List Thg} (hC:Cat c) (hs:zAq c l=true) (hth:∀ x,x ∈ h→zAs c x h.length=true) (n:Int):(zDp c l h n).length<100000:=by
 unfold zDp
 cases hx:h[(n-1).toNat]? with
 | none=>simp
 | some x =>
  simp only; obtain ⟨i,s,Y⟩:=zCA (zA2 hs (hth x (List.mem_of_getElem? hx))); have:=zGm c i (zAD l x).vals (zAD l x).vals.length; have:=zQg hC Y.many; unfold zEc; rw [Y.ti]; simp only; omega
structure Wr1At (W:CW) (bk br bh r1 r2 w r:Nat) (c:List Shp) (l:List Spc) (h:List Thg):Prop where
 k:Cells W bk 0 [.map (some r1),.map (some r2)]
 rl:Cells W br 0 [.map (some w),.map (some r)]
 cat:CatAt W r1 r2 c
 sp:SpM Spc.type W w l
 hs:∃ vh,W.cell bh 0=some vh∧IsSl 2 (RThg W) vh h
theorem Wr1At.kp {W W':CW} {bk br bh r1 r2 w r:Nat} {c:List Shp} {l:List Spc} {h:List Thg} (A:Wr1At W bk br bh r1 r2 w r c l h) (ht:Top W) (k:Kp W W'):Wr1At W' bk br bh r1 r2 w r c l h:=by
 obtain ⟨vh,h1,h2⟩:=A.hs; exact ⟨A.k.ext ht k,A.rl.ext ht k,A.cat.kp ht k,A.sp.kp ht k,vh,k.cell ht h1,h2.imp fun _ _ _ hr=>hr.kp ht k⟩
theorem zPp {bk br bh r1 r2 w r:Nat} {c:List Shp} {l:List Spc} {h:List Thg} {n:Int} {W:CW} (ht:Top W) (A:Wr1At W bk br bh r1 r2 w r c l h) (hC:Cat c) (hs:zAq c l=true) (hth:∀ x,x ∈ h→zAs c x h.length=true) (hml:∀ s,s ∈ l→s.map.length<100000) (hn0:0<n) (hn1:n≤h.length) (hhl:h.length<100000) :
  WCall prog pkL 51 [.int .i64 n,.pointer (some ⟨bk,0,none⟩),.pointer (some ⟨br,0,none⟩),.pointer (some ⟨bh,0,none⟩)] W (zKy (zDp c l h n) W):=by
 refine zXl ?_; rw [zXm]; obtain ⟨vh,hbh,hh⟩:=A.hs; obtain ⟨i,hi⟩:∃ i:Nat,n=((i+1:Nat):Int):=⟨(n-1).toNat,by omega⟩
 subst hi; have hil:i<h.length:=by omega
 have hx:=List.getElem?_eq_getElem hil; obtain ⟨ah,ch,rfl,hhc⟩:=id hh; obtain ⟨p,rfl,hp⟩:=hhc i _ hx; have l78:∀ W1,Kp W W1→ld prog 78 (.pointer (some ⟨bk,0,none⟩)) W1=some (.agg [.map (some r1),.map (some r2)].toArray):=fun W1 k1=>zA8 (vs:=[.map (some r1),.map (some r2)]) (a:=⟨bk,0,none⟩) a78 s78 rfl (by omega) (A.k.ext ht k1); have l83:ld prog 83 (.pointer (some ⟨br,0,none⟩)) W=some (.agg [.map (some w),.map (some r)].toArray):=zA8 (vs:=[.map (some w),.map (some r)]) (a:=⟨br,0,none⟩) a83 s83 rfl (by omega) A.rl; have l24:ld prog 24 (.pointer (some ⟨bh,0,none⟩)) W=some (.slice (some p) h.length ch):=zAB a24 (a:=⟨bh,0,none⟩) hbh; obtain ⟨vx,hu,hvx,hvxl⟩:=zP3 ht (.refl _) hp; rw [l78 W (.refl _),l83,l24]; simp only [zAA,zCD]; rw [show ((i+1:Nat):Int)-1=(i:Nat) by omega,zBU (by omega) (by omega),zAb u24 s56 hil]; simp only [zAA,hu]; have hty:=hth _ (List.getElem_mem hil); refine (zUo (r:=r) ht A.sp hvx (zFZ hs hty) hml).mono fun en W0 ⟨k0,t0,vv,hen,hvv,hor⟩=>?_; subst hen; simp only [zAK]; have hyt:=zA2 hs hty; obtain ⟨iy,sy,Y⟩:=zCA hyt
 have hrp:zDp c l h ((i+1:Nat):Int)=zEc c (zAD l h[i]):=by
  unfold zDp; rw [show (((i+1:Nat):Int)-1).toNat=i by omega,hx]
 have hml2:=zQg hC Y.many; refine (zUH t0 (A.cat.kp ht k0) Y.ti (fun he=>by rw [zD2 Y.si he Y.many]; exact Nat.le_refl _) hvv (by omega)).mono fun en W2 ⟨k2,t2,vr,hen,hvr,hnr⟩=>?_; subst hen; simp only [zAK]; refine ⟨by simp only [l78 W0 k0,and_self],trivial,?_⟩; rw [zRD]; refine ⟨k0.trans k2,t2,vr,rfl,by rw [hrp]; exact hvr,fun b l c e=>Nat.le_trans k0.sz (hnr b l c e)⟩
end Go.Ce
namespace Go.Ce
open Go Go.Proofs Go.Proofs.Tryz
theorem zKO (a:Addr):fad prog 95 (.pointer (some a)) 0=some (.pointer (some ⟨a.block,a.off,none⟩)):=by kernel_rfl
theorem zD5 (a:Addr):fad prog 97 (.pointer (some a)) 0=some (.pointer (some ⟨a.block,a.off,none⟩)):=by kernel_rfl
theorem zM9 (a:Addr):fad prog 97 (.pointer (some a)) 1=some (.pointer (some ⟨a.block,a.off+1,none⟩)):=by kernel_rfl
theorem zRj (n:Nat) (h:n<1000000000000000000):zAL prog .shr 3 true (.int .i64 n) (.int .u64 7)=some (.int .i64 ((n / 128:Nat):Int)):=by
 have h1:zAL prog .shr 3 true (.int .i64 n) (.int .u64 7)=some (.int .i64 ((n:Int).fdiv (2 ^ (min (7:Int).toNat 64)))):=by kernel_rfl
 rw [h1]; congr 2; have:((2:Int) ^ (min (7:Int).toNat 64))=((128:Nat):Int):=by decide
 rw [this,Int.fdiv_eq_ediv_of_nonneg _ (by omega)]; omega
structure BufAt (W:CW) (wb:Nat) (rest:List Value) (vb:Value) (bs:List Int):Prop where
 b:Blk W wb 97 (vb::rest)
 own:Own W 5 1 vb (zAc bs)
def WrS (wb:Nat) (vb:Value) (j:Nat):Prop:=j=wb∨zA7 vb j
def zGY (wb:Nat) (rest:List Value) (vb:Value) (bs:List Int) (W:CW):Ending→CW→Prop:=fun e W'=>(∃ v,e=.returned v)∧Chg (WrS wb vb) W W'∧Top W'∧∃ vb',BufAt W' wb rest vb' bs∧∀ j,zA7 vb' j→zA7 vb j∨W.sz≤j
theorem BufAt.ld {W:CW} {wb:Nat} {rest:List Value} {vb:Value} {bs:List Int} (h:BufAt W wb rest vb bs):Go.Ce.ld prog 29 (.pointer (some ⟨wb,0,none⟩)) W=some vb:=zAB a29 (a:=⟨wb,0,none⟩) (h.b.cell rfl)
theorem zG0 {wb:Nat} {rest:List Value} {vb vb1 vb2:Value} {bs:List Int} {W W1 W2:CW} (c1:Chg (WrS wb vb) W W1) (n1:∀ j,zA7 vb1 j→zA7 vb j∨W.sz≤j) (c2:Chg (WrS wb vb1) W1 W2) (n2:∀ j,zA7 vb2 j→zA7 vb1 j∨W1.sz≤j):Chg (WrS wb vb) W W2∧∀ j,zA7 vb2 j→zA7 vb j∨W.sz≤j:=by
 have h1:=c1.sz
 refine ⟨c1.then c2 fun j hj hS=>?_,fun j hj=>?_⟩
 ·rcases hS with h | h
  ·exact .inl h
  ·rcases n1 j h with h | h
   ·exact .inr h
   ·omega
 ·rcases n2 j hj with h | h
  ·exact n1 j h
  ·exact .inr (by omega)
theorem zPu {W:CW} (ht:Top W) {wb:Nat} {rest:List Value} {vb:Value} {bs:List Int} (hb:BufAt W wb rest vb bs) {n:Int} (hl:bs.length<900000) {K:Value→CW→Value→CW→CW→Prop}
  (hk:∀ u Wa v1 W1 W2,Chg (WrS wb vb) W W2→Top W2→BufAt W2 wb rest v1 (bs++[n])→(∀ j,zA7 v1 j→zA7 vb j∨W.sz≤j)→K u Wa v1 W1 W2) :
  wVW (bsl prog 29 1 [(0,.int .u8 n)] W) fun u Wa=>wVW (app prog [29,29] vb u Wa) fun v1 W1=>wV (sto prog 29 (.pointer (some ⟨wb,0,none⟩)) v1 W1) fun W2=>K u Wa v1 W1 W2:=by
 refine zGb u29 s5 z5 rfl (by omega) by5 (by omega) (zWZ _) rfl rfl ht hb.own (by rw [zBz]; omega) fun u Wa v1 W1 ka ta hpu t1 o1 n1=>?_; have hne:=zO4 hb.own hb.b (by decide); have hb1:=hpu.blk ht hb.b hne; refine zAX (vs:=vb::rest) s29 (a:=⟨wb,0,none⟩) (zH6 o1) hb1 (by simp) fun W2 hu hb2=>?_; have hu:Upd wb W1 W2:=hu; have hb2:Blk W2 wb 97 (v1::rest):=by simpa [zDz] using hb2
 have hn1:Newer W.sz v1:=n1 _ (Nat.le_refl _); have hwl:=hb.b.lt ht; have hps:=hpu.sz
 refine hk _ _ _ _ W2 ⟨by rw [hu.sz]; omega,fun j hj hS=>?_⟩ (t1.upd (by omega) hu) ⟨hb2,?_⟩ fun j hj=>.inr (hn1.in hj)
 ·rw [hu.obj j fun e=>hS (.inl e)]; exact hpu.chg.obj j hj fun h=>hS (.inr h)
 ·rw [zJO]; exact zF1 o1 hu fun b l c e=>by have:=hn1 b l c e; omega
theorem zEm {fn:Func} (hr:fn.results.toList=[]) (Q:Ending→CW→Prop) (x:Exit) (hx:x=.normal∨x=.ret) (e:Env) (W:CW) (h:Q (.returned (.tuple #[])) W):zAE prog fn Q x e [] W:=by
 rcases hx with rfl | rfl <;> simp only [zAE,zBB,hr,zFu] <;> exact h
theorem zJ8 {wb:Nat} {rest:List Value} {vb:Value} {bs:List Int} {n:Nat} {W:CW} (ht:Top W) (hb:BufAt W wb rest vb bs) (hn:n<100000000000000) (hl:bs.length<800000) :
  WCall prog pkL 55 [.pointer (some ⟨wb,0,none⟩),.int .i64 n] W (zGY wb rest vb (bs++zCB n) W):=by
 refine zXd ?_; rw [zXe]
 refine zPt (fun k e ds W'=>ds=[]∧∃ (m:Nat) (pre:List Int) (vb':Value),k=m∧m≤n∧e 0=.pointer (some ⟨wb,0,none⟩)∧e 1=.int .i64 m∧Chg (WrS wb vb) W W'∧Top W'∧BufAt W' wb rest vb' (bs++pre)∧(∀ j,zA7 vb' j→zA7 vb j∨W.sz≤j)∧pre++zCB m=zCB n) n
  ⟨rfl,n,[],vb,rfl,Nat.le_refl _,rfl,rfl,.refl _ _,ht,by simpa using hb,fun j hj=>.inl hj,rfl⟩ ?_
 rintro k e ds W' ⟨rfl,m,pre,vb',rfl,hmn,h0,h1,hch,t',hb',hn',hpre⟩; have hpl:(pre++zCB k).length≤8:=by rw [hpre]; exact zBg hn
 rw [List.length_append] at hpl; rw [zVV,h0,h1]; simp only [zEJ,zAA]
 refine zAH (fun hg=>?_) (fun hg=>?_)
 ·have hg:¬k<128:=by have:=of_decide_eq_true hg; omega
  have hnk:zCB k=((k % 128+128:Nat):Int)::zCB (k / 128):=by rw [zCB,if_neg hg]
  rw [zKl _ _ _ (by omega)]; have e1:(k:Int).tmod 128=((k % 128:Nat):Int):=by rw [Int.tmod_eq_emod_of_nonneg (by omega)]; omega
  rw [e1]; simp only [zBX,zKO,zAA,hb'.ld,zAW]; rw [zBU (by omega) (by omega),zWT,zUz (by omega) (by omega)]; simp only [zAA]; refine zPu t' hb' (by rw [List.length_append]; omega) fun u Wa v1 W1 W2 c2 t2 hb2 n2=>?_; simp only [zTg,qKn,qKr,qKx,qKp,bKn,bKr,bKp,bKx,tKn,tKr,tKx,tKp,zKn,zKr,zKx,zKp]; simp only [eKc,eKn,eKa,Nat.reduceEqDiff,↓reduceIte,gKz,gKs,dKs,and_self,h1]; rw [zRj k (by omega)]; simp only [zAA]; obtain ⟨c3,n3⟩:=zG0 (rest:=rest) (bs:=bs) hch hn' c2 n2
  refine ⟨k / 128,by omega,trivial,k / 128,pre++[((k % 128+128:Nat):Int)],v1,rfl,by omega,?_,?_,c3,t2,?_,n3,?_⟩
  ·simp only [eKc,eKn,eKa,Nat.reduceEqDiff,↓reduceIte,gKz,gKs,dKs,and_self,h0]
  ·rfl
  ·rw [←List.append_assoc]; simpa using hb2
  ·rw [List.append_assoc,List.singleton_append,←hnk,hpre]
 ·have hg:k<128:=by have:=of_decide_eq_false hg; omega
  have hnk:zCB k=[(k:Int)]:=by rw [zCB,if_pos hg]
  simp only [qKn,qKr,qKx,qKp,bKn,bKr,bKp,bKx,tKn,tKr,tKx,tKp,zKn,zKr,zKx,zKp,if_true,zTh]; simp only [eKc,eKn,eKa,Nat.reduceEqDiff,↓reduceIte,gKz,gKs,dKs,and_self,h0,h1]; simp only [zBX,zKO,zAA,hb'.ld]; rw [zWT,zUz (by omega) (by omega)]; simp only [zAA]; refine zPu t' hb' (by rw [List.length_append]; omega) fun u Wa v1 W1 W2 c2 t2 hb2 n2=>?_; obtain ⟨c3,n3⟩:=zG0 (rest:=rest) (bs:=bs) hch hn' c2 n2; refine zEm (by kernel_rfl) _ _ (.inl rfl) _ _ ⟨⟨_,rfl⟩,c3,t2,v1,?_,n3⟩; rw [←hpre,hnk,←List.append_assoc]; exact hb2
theorem zVA:zEg prog 9=true:=by kernel_rfl
theorem zMJ (s:ByteArray):zBM ((sb s).take s.size)=zAc (zEN s):=by
 rw [List.take_of_length_le (by rw [zFx]; exact Nat.le_refl _)]; unfold zBM zAc zEN; rw [List.map_map]; rfl
theorem zSU {wb:Nat} {rest:List Value} {vb:Value} {bs:List Int} {s:ByteArray} {W:CW} (ht:Top W) (hb:BufAt W wb rest vb bs) (hs0:0<s.size) (hs:s.size<1000) (hl:bs.length<700000) :
  WCall prog pkL 57 [.pointer (some ⟨wb,0,none⟩),.string s] W (zGY wb rest vb (bs++zDy s) W):=by
 refine zXZ ?_; rw [zXa,zFJ u9]; simp only [zAA]; refine (zJ8 (n:=s.size) ht hb (by omega) (by omega)).mono fun en W1 ⟨⟨v,he⟩,c1,t1,vb1,hb1,n1⟩=>?_; subst he; simp only [zAK,zBX,zKO,zAA,hb1.ld]; have h8:=zBg (n:=s.size) (by omega); have hbl:(zEN s).length=s.size:=by unfold zEN; rw [List.length_map,zFx]
 refine zR6 (x:=.string s) (m:=s.size) (news:=zAc (zEN s)) u29 zVA s5 z5 rfl (by omega) by5 (by omega) t1 hb1.own rfl hs0 ?_ (zJN _) (by rw [zBz,hbl]; omega) (by rw [zBz,List.length_append]; omega) fun W2 len hg hlen hB=>?_
 ·show cond (Nat.beq 1 1) (some (zBM ((sb s).take s.size))) none=_; rw [zMJ]; rfl
 ·have hne:=zO4 hb1.own hb1.b (by decide); have hbw1:=hb1.b.lt t1; have hb2:Blk W2 wb 97 (vb1::rest):=hb1.b.congr (hg.obj wb hbw1 fun b l c e=>(hne b l c e).symm); refine zAX (vs:=vb1::rest) s29 (a:=⟨wb,0,none⟩) rfl hb2 (by simp) fun W3 hu hb3=>?_; have hu:Upd wb W2 W3:=hu; have hb3:Blk W3 wb 97 (.slice (some ⟨W1.sz,0,none⟩) len len::rest):=by simpa [zDz] using hb3
  have hsz:=hg.sz; have hbwl:=hb1.b.lt t1
  have o3:Own W3 5 1 (.slice (some ⟨W1.sz,0,none⟩) len len) (zAc (bs++zDy s)):=by
   have:zAc (bs++zDy s)=zAc (bs++zCB s.size)++zAc (zEN s):=by
    unfold zDy; rw [←List.append_assoc,zJO]
   rw [this]; exact Own.some (hB.congr (hu.obj _ (by omega))) hlen
  have c2:Chg (WrS wb vb1) W1 W3:=⟨by rw [hu.sz]; omega,fun j hj hS=>by
   rw [hu.obj j fun e=>hS (.inl e)]
   exact hg.obj j hj fun b l c e hbj=>hS (.inr ⟨b,l,c,e,hbj.symm⟩)⟩
  obtain ⟨c3,n3⟩:=zG0 (vb2:=.slice (some ⟨W1.sz,0,none⟩) len len) (rest:=rest) (bs:=bs) c1 n1 c2 (fun j hj=>.inr (by obtain ⟨b,l,c,e,rfl⟩:=hj; cases e; exact Nat.le_refl _)); refine zEm (by kernel_rfl) _ _ (.inl rfl) _ _ ⟨⟨_,rfl⟩,c3,?_,_,⟨hb3,o3⟩,n3⟩; exact (hg.top t1).upd (by omega) hu
theorem zST {wb:Nat} {rest:List Value} {vb:Value} {bs:List Int} {n:Int} {W:CW} (ht:Top W) (hb:BufAt W wb rest vb bs) (h1:-4000000000000≤n) (h2:n≤4000000000000) (hl:bs.length<700000) :
  WCall prog pkL 106 [.pointer (some ⟨wb,0,none⟩),.int .i64 n] W (zGY wb rest vb (bs++zCB (zGa n).toNat) W):=by
 refine zV8 ?_; rw [zV9]; simp only [zAZ,zAA]
 have fin:∀ (z:Nat),zGa n=(z:Int)→WCall prog pkL 55 [.pointer (some ⟨wb,0,none⟩),.int .i64 z] W (zGY wb rest vb (bs++zCB (zGa n).toNat) W):=fun z hz=>by
  rw [hz,Int.toNat_natCast]; refine zJ8 ht hb ?_ (by omega); unfold zGa at hz; split at hz <;> omega
 refine zAH (fun h=>?_) (fun h=>?_)
 ·have h:n<0:=of_decide_eq_true h; simp only [zBX,zD5,zAA,zOX,zCD]; rw [zBU (x:=-2*n) (by omega) (by omega),zBU (x:=-2*n-1) (by omega) (by omega)]; obtain ⟨z,hz⟩:∃ z:Nat,-2*n-1=(z:Int):=⟨(-2*n-1).toNat,by omega⟩
  rw [hz]; refine (fin z (by unfold zGa; rw [if_pos h,hz])).mono fun en W1 hp=>?_; obtain ⟨v,rfl⟩:=hp.1; simp only [zAK]; exact zEm (by kernel_rfl) _ _ (.inl rfl) _ _ ⟨⟨_,rfl⟩,hp.2⟩
 ·have h:¬n<0:=of_decide_eq_false h; simp only [zBX,zD5,zAA,zOX]; rw [zBU (x:=2*n) (by omega) (by omega)]; obtain ⟨z,hz⟩:∃ z:Nat,2*n=(z:Int):=⟨(2*n).toNat,by omega⟩
  rw [hz]; refine (fin z (by unfold zGa; rw [if_neg h,hz])).mono fun en W1 hp=>?_; obtain ⟨v,rfl⟩:=hp.1; simp only [zAK]; exact zEm (by kernel_rfl) _ _ (.inl rfl) _ _ ⟨⟨_,rfl⟩,hp.2⟩
theorem a89:agg? prog 89=some false:=by kernel_rfl
theorem zUK {wb bw rp:Nat} {rest:List Value} {vb vo:Value} {bs o:List Int} {n:Int} {W:CW} (ht:Top W) (hb:BufAt W wb (.pointer (some ⟨bw,0,none⟩)::rest) vb bs) (hw:WkAt W bw rp vo o) (hol:o.length<100000) (hl:bs.length<700000) :
  WCall prog pkL 107 [.pointer (some ⟨wb,0,none⟩),.int .i64 n] W (zGY wb (.pointer (some ⟨bw,0,none⟩)::rest) vb (bs++zCB (zAo o n).toNat) W):=by
 refine zV6 ?_; rw [zV7]; have q1:ld prog 89 (.pointer (some ⟨wb,0+1,none⟩)) W=some (.pointer (some ⟨bw,0,none⟩)):=zAB a89 (a:=⟨wb,0+1,none⟩) (hb.b.cell rfl); have q2:ld prog 98 (.pointer (some ⟨bw,0+1,none⟩)) W=some (.map (some rp)):=zAB a98 (a:=⟨bw,0+1,none⟩) (hw.w.cell rfl); have hp:=zGo o n; obtain ⟨z,hz⟩:∃ z:Nat,zAo o n=(z:Int):=⟨(zAo o n).toNat,by omega⟩
 simp only [zBX,zD5,zM9,zAA,q1,zKR,q2,hw.p.look]; rw [hz,Int.toNat_natCast]; refine (zJ8 (n:=z) ht hb (by omega) (by omega)).mono fun en W1 hpp=>?_; obtain ⟨v,rfl⟩:=hpp.1; simp only [zAK]; refine ⟨by simp only [and_self],trivial,?_⟩; exact zEm (by kernel_rfl) _ _ (.inl rfl) _ _ ⟨⟨_,rfl⟩,hpp.2⟩
end Go.Ce
namespace Go.Ce
open Go Go.Proofs Go.Proofs.Tryz
theorem zJP {v:Value} {l:List ByteArray} {s:ByteArray} {W:CW} (hc:IsSl 1 (zYa W) v l) (hlen:l.length<1000000):WCall prog pkL 61 [v,.string s] W (zI3 (.int .i64 (zIp l fun x=>decide (x=s))) W):=by
 refine zXR ?_; rw [zXS]; obtain ⟨a,cap,rfl,hcell⟩:=hc; simp only [zAT u51,zAA]; refine zCX (fun i e ds W'=>W'=W∧ds=[]∧e 0=.slice a l.length cap∧e 1=.string s∧e 7=.int .i64 l.length∧e 8=.int .i64 i∧∀ j x,j<i→l[j]?=some x→decide (x=s)=false) l.length ⟨rfl,rfl,rfl,rfl,rfl,rfl,by omega⟩ ?_; rintro i e ds W' hi ⟨rfl,rfl,h0,h1,h7,h8,hpre⟩; rw [zVQ,h0,h1,h7,h8]; simp only [zAZ,zAA]
 refine zGZ (fun hlt=>?_) (fun hge=>?_)
 ·have hx:=List.getElem?_eq_getElem hlt; obtain ⟨p,rfl,hp⟩:=hcell i _ hx; rw [zAb u51 s9 hlt]; simp only [zAA]; rw [zAB a9 (a:=⟨p.block,p.off+i*1,none⟩) hp]; simp only [zAA,zMH,zG7]
  refine zAH (fun hq=>?_) (fun hq=>?_)
  ·have hq:s=l[i]:=by simpa using hq
   simp only [zOI,qKn,qKr,qKx,qKp,bKn,bKr,bKp,bKx,tKn,tKr,tKx,tKp,zKn,zKr,zKx,zKp,zQ6,zLn]; refine ⟨?_,rfl⟩; simp only [eKc,eKn,eKa,Nat.reduceEqDiff,↓reduceIte,gKz,gKs,dKs,and_self,h8]; rw [zEn hlt (by simp [hq]) hpre]
  ·have hq:¬s=l[i]:=by simpa using hq
   simp only [zOI,qKn,qKr,qKx,qKp,bKn,bKr,bKp,bKx,tKn,tKr,tKx,tKp,zKn,zKr,zKx,zKp]; simp only [eKc,eKn,eKa,Nat.reduceEqDiff,↓reduceIte,gKz,gKs,dKs,and_self,h0,h1,h7,h8,zAW,zAA,qKn,qKr,qKx,qKp,bKn,bKr,bKp,bKx,tKn,tKr,tKx,tKp,zKn,zKr,zKx,zKp]; refine ⟨hlt,trivial,trivial,trivial,trivial,trivial,by rw [zCT (by omega)],fun j x hj hx'=>?_⟩
   rcases Nat.lt_succ_iff_lt_or_eq.1 hj with h2 | rfl
   ·exact hpre j x h2 hx'
   ·rw [hx] at hx'; cases hx'; exact decide_eq_false fun e=>hq e.symm
 ·simp only [qKn,qKr,qKx,qKp,bKn,bKr,bKp,bKx,tKn,tKr,tKx,tKp,zKn,zKr,zKx,zKp,if_true,zQ6,zLn]; refine ⟨?_,rfl⟩; simp only [eKc,eKn,eKa,Nat.reduceEqDiff,↓reduceIte,gKz,gKs,dKs,and_self]; rw [zEo fun j x hj hx=>hpre j x (by omega) hx]
theorem zGR {v:Value} {l:List ByteArray} {s:ByteArray} {W:CW} (hc:IsSl 1 (zYa W) v l) (hlen:l.length<1000000):WCall prog pkL 54 [v,.string s] W (zI3 (.bool (l.any fun x=>decide (x=s))) W):=by
 refine zXf ?_; rw [zXg]; refine zB2 (zJP hc hlen) ?_; simp only [zEJ,zAA,zQ9]; refine ⟨?_,rfl⟩; simp only [eKc,eKn,eKa,Nat.reduceEqDiff,↓reduceIte,gKz,gKs,dKs,and_self]; congr 2
 cases h:l.any fun x=>decide (x=s) with
 | false=>exact decide_eq_false (by have:=idxI_neg.2 h; omega)
 | true =>
  refine decide_eq_true ?_; have:¬zIp l (fun x=>decide (x=s))<0:=fun hn=>by rw [idxI_neg.1 hn] at h; cases h
  omega
structure WrP where
 A:CW
 (bk br bh bwv b16 bd wb bw rp r1 r2 w r:Nat)
 (vt vo:Value)
 bdt:TypeId
 dvs:List Value
 c:List Shp
 l:List Spc
 h:List Thg
 o:List Int
 ts:List ByteArray
def WrP.rest (p:WrP):List Value:=[.pointer (some ⟨p.bw,0,none⟩),.map (some p.r1),.map (some p.r2)]
structure WrEnv (p:WrP) (W:CW) (vb:Value) (bs:List Int):Prop where
 kp:Kp p.A W
 top:Top W
 tA:Top p.A
 d:Wr1At p.A p.bk p.br p.bh p.r1 p.r2 p.w p.r p.c p.l p.h
 wk:WkAt W p.bw p.rp p.vo p.o
 wv:Blk W p.bwv 88 [.pointer (some ⟨p.wb,0,none⟩)]
 ty:Blk W p.b16 51 [p.vt]
 tys:Own W 9 1 p.vt (zK2 p.ts)
 dv:Blk W p.bd p.bdt p.dvs
 dvn:p.bdt≠97∧p.bdt≠5
 buf:BufAt W p.wb p.rest vb bs
 ge:p.A.sz≤p.wb∧∀ j,zA7 vb j→p.A.sz≤j
def WrP.Has (p:WrP) (vb:Value) (i:Nat):Prop:=i=p.bw∨i=p.rp∨zA7 p.vo i∨i=p.bwv∨i=p.b16∨zA7 p.vt i∨i=p.bd∨i=p.wb∨zA7 vb i
theorem zIv {W W':CW} {el n:Nat} {v:Value} {cs:List Value} (h:Own W el n v cs) (ho:∀ i,zA7 v i→W'.obj i=W.obj i):Own W' el n v cs:=by
 cases h with
 | nil=>exact Own.nil
 | some hB hl=>exact Own.some (hB.congr (ho _ ⟨_,_,_,rfl,rfl⟩)) hl
theorem WrEnv.of {p:WrP} {W W':CW} {vb:Value} {bs:List Int} (h:WrEnv p W vb bs) (hk:Kp p.A W') (ht:Top W') (ho:∀ i,p.Has vb i→W'.obj i=W.obj i):WrEnv p W' vb bs :=
 ⟨hk,ht,h.tA,h.d,⟨h.wk.w.congr (ho _ (.inl rfl)),zIv h.wk.own fun i hi=>ho i (.inr (.inr (.inl hi))),h.wk.p.congr (ho _ (.inr (.inl rfl)))⟩,h.wv.congr (ho _ (.inr (.inr (.inr (.inl rfl))))),h.ty.congr (ho _ (.inr (.inr (.inr (.inr (.inl rfl)))))),zIv h.tys fun i hi=>ho i (.inr (.inr (.inr (.inr (.inr (.inl hi)))))),h.dv.congr (ho _ (.inr (.inr (.inr (.inr (.inr (.inr (.inl rfl)))))))),h.dvn,⟨h.buf.b.congr (ho _ (.inr (.inr (.inr (.inr (.inr (.inr (.inr (.inl rfl))))))))),zIv h.buf.own fun i hi=>ho i (.inr (.inr (.inr (.inr (.inr (.inr (.inr (.inr hi)))))))) ⟩,h.ge⟩
theorem WrEnv.lt {p:WrP} {W:CW} {vb:Value} {bs:List Int} (h:WrEnv p W vb bs):∀ i,p.Has vb i→i<W.sz:=by
 intro i hi
 rcases hi with rfl | rfl | hi | rfl | rfl | hi | rfl | rfl | hi
 ·exact h.wk.w.lt h.top
 ·exact h.wk.p.lt h.top
 ·exact zH7 h.top h.wk.own hi
 ·exact h.wv.lt h.top
 ·exact h.ty.lt h.top
 ·exact zH7 h.top h.tys hi
 ·exact h.dv.lt h.top
 ·exact h.buf.b.lt h.top
 ·exact zH7 h.top h.buf.own hi
theorem WrEnv.kp' {p:WrP} {W W':CW} {vb:Value} {bs:List Int} (h:WrEnv p W vb bs) (k:Kp W W') (ht:Top W'):WrEnv p W' vb bs:=h.of (h.kp.trans k) ht fun i hi=>k.obj i (h.lt i hi)
theorem zAw {W:CW} {b:Nat} {e1 e2:TypeId} {v1 v2:List Value} (h1:Blk W b e1 v1) (h2:Blk W b e2 v2):e1=e2:=by
 obtain ⟨c,n,z,h,_⟩:=h1; obtain ⟨c',n',z',h',_⟩:=h2; rw [h] at h'; cases h'; rfl
theorem zB3 {W:CW} {el n:Nat} {v:Value} {cs:List Value} (h:Own W el n v cs) {j:Nat} (hj:zA7 v j):Blk W j el cs:=by
 obtain ⟨b,l,c,e,rfl⟩:=hj
 cases h with
 | nil=>cases e
 | some hB hl=>cases e; exact hB
theorem zH8 {p:WrP} {W:CW} {vb:Value} {bs:List Int} (h:WrEnv p W vb bs) {i:Nat} {el:TypeId} {vs:List Value} (hB:Blk W i el vs) (h1:el≠97) (h2:el≠5):¬WrS p.wb vb i:=by
 rintro (rfl | hi)
 ·exact h1 (zAw hB h.buf.b)
 ·exact h2 (zAw hB (zB3 h.buf.own hi))
theorem WrEnv.emit {p:WrP} {W W':CW} {vb vb':Value} {bs bs':List Int} (h:WrEnv p W vb bs) (hc:Chg (WrS p.wb vb) W W') (ht:Top W') (hb:BufAt W' p.wb p.rest vb' bs') (hn:∀ j,zA7 vb' j→zA7 vb j∨W.sz≤j):WrEnv p W' vb' bs':=by
 have hrp:¬WrS p.wb vb p.rp:=by
  rintro (e | hi)
  ·exact (h.wk.p.ne h.buf.b) e.symm
  ·exact (h.wk.p.ne (zB3 h.buf.own hi)) rfl
 have hsz:=h.kp.sz
 refine ⟨Chg.kp h.kp hc fun j hj=>?_,ht,h.tA,h.d,⟨hc.blk h.top (zH8 h h.wk.w (by decide) (by decide)) h.wk.w,hc.own h.top h.wk.own fun j hj=>zH8 h (zB3 h.wk.own hj) (by decide) (by decide),h.wk.p.congr (hc.obj _ (h.wk.p.lt h.top) hrp)⟩,hc.blk h.top (zH8 h h.wv (by decide) (by decide)) h.wv,hc.blk h.top (zH8 h h.ty (by decide) (by decide)) h.ty,hc.own h.top h.tys fun j hj=>zH8 h (zB3 h.tys hj) (by decide) (by decide),hc.blk h.top (zH8 h h.dv h.dvn.1 h.dvn.2) h.dv,h.dvn,hb,h.ge.1,fun j hj=>?_⟩
 ·rcases hj with rfl | hj
  ·exact h.ge.1
  ·exact h.ge.2 j hj
 ·rcases hn j hj with h1 | h1
  ·exact h.ge.2 j h1
  ·omega
theorem zKf {p:WrP} {W W':CW} {vb:Value} {bs:List Int} (h:WrEnv p W vb bs) (hc:Chg (WrS p.wb vb) W W') {b k:Nat} {n:Int} (hcell:W.cell b k=some (.int .i64 n)):W'.cell b k=some (.int .i64 n):=by
 refine hc.cell h.top ?_ hcell
 rintro (rfl | hi)
 ·have:=h.buf.b.cell_inv hcell; unfold WrP.rest at this
  match k,this with
  | 0,this =>
   have hv:=Option.some.inj this; have ho:=h.buf.own; rw [hv] at ho
   cases ho
  | 1,this=>cases this
  | 2,this=>cases this
  | 3,this=>cases this
 ·have:=(zB3 h.buf.own hi).cell_inv hcell; unfold zAc at this; rw [List.getElem?_map] at this
  cases hx:bs[k]? with
  | none=>rw [hx] at this; cases this
  | some x=>rw [hx] at this; cases this
def zHk (p:WrP) (bs:List Int):Ending→CW→Prop:=fun e W'=>(∃ v,e=.returned v)∧∃ vb',WrEnv p W' vb' bs
theorem WrEnv.num {p:WrP} {W:CW} {vb:Value} {bs:List Int} (h:WrEnv p W vb bs) {n:Nat} (hn:n<100000000000000) (hl:bs.length<700000):WCall prog pkL 55 [.pointer (some ⟨p.wb,0,none⟩),.int .i64 n] W fun e W'=>(∃ v,e=.returned v)∧Chg (WrS p.wb vb) W W'∧∃ vb',WrEnv p W' vb' (bs++zCB n)∧∀ j,zA7 vb' j→zA7 vb j∨W.sz≤j :=
 (zJ8 h.top h.buf hn (by omega)).mono fun en W1 ⟨hv,c,t,vb',hb,hn⟩=>⟨hv,c,vb',h.emit c t hb hn,hn⟩
theorem zSq {p:WrP} {W:CW} {vb:Value} {bs:List Int} (h:WrEnv p W vb bs) (hsz:∀ s,s ∈ p.ts→0<s.size∧s.size<1000) (htl:p.ts.length≤100) (hbl:bs.length≤100) :
  WCall prog pkL 56 [.pointer (some ⟨p.wb,0,none⟩),p.vt,.func (.func 57) #[.pointer (some ⟨p.wb,0,none⟩)] #[]] W (zHk p (bs++zCB p.ts.length++p.ts.flatMap zDy)):=by
 refine zXb ?_; rw [zXc]; have hstl:(zK2 p.ts).length=p.ts.length*1:=by rw [zFv]; omega
 rw [zEK u51 h.tys (by omega) hstl]; simp only [zAA]; refine (h.num (n:=p.ts.length) (by omega) (by omega)).mono fun en W1 ⟨⟨v,he⟩,_,vb1,h1,_⟩=>?_; subst he; simp only [zAK]; rw [zEK u51 h1.tys (by omega) hstl]; simp only [zAA]; have h8:=zBg (n:=p.ts.length) (by omega); refine zCX (fun i e ds W'=>ds=[]∧∃ vb',WrEnv p W' vb' (bs++zCB p.ts.length++(p.ts.take i).flatMap zDy)∧e 2=.func (.func 57) #[.pointer (some ⟨p.wb,0,none⟩)] #[]∧e 12=p.vt∧e 13=.int .i64 p.ts.length∧e 14=.int .i64 i) p.ts.length ⟨rfl,vb1,by simpa using h1,rfl,rfl,rfl,rfl⟩ ?_; rintro i e ds W' hi ⟨rfl,vb',h',g2,g12,g13,g14⟩; rw [zVU,g2,g12,g13,g14]; simp only [zAZ,zAA]
 refine zGZ (fun hlt=>?_) (fun hge=>?_)
 ·have hx:=List.getElem?_eq_getElem hlt; obtain ⟨a,cap,hvt,hc⟩:=zEe (f:=fun s=>Value.string s) h'.tys; obtain ⟨q,rfl,hq⟩:=hc i _ hx; rw [hvt,zAb u51 s9 hlt]; simp only [zAA]; rw [zAB a9 (a:=⟨q.block,q.off+i*1,none⟩) hq]; simp only [zAA]; obtain ⟨hs0,hs1⟩:=hsz _ (List.getElem_mem hlt); have hl1:=zHy (p.ts.take i) fun s hs=>(hsz s (List.mem_of_mem_take hs)).2; have hl3:(p.ts.take i).length*1008≤100*1008:=Nat.mul_le_mul_right _ (by rw [List.length_take]; omega); refine zDd Tryz.func57 (by kernel_rfl) ((zSU h'.top h'.buf hs0 hs1 (by rw [List.length_append,List.length_append]; omega)).mono fun en W2 ⟨⟨v,he⟩,c2,t2,vb2,hb2,hn2⟩=>?_); subst he; simp only [zAK,zQ8,qKn,qKr,qKx,qKp,bKn,bKr,bKp,bKx,tKn,tKr,tKx,tKp,zKn,zKr,zKx,zKp]; simp only [eKc,eKn,eKa,Nat.reduceEqDiff,↓reduceIte,gKz,gKs,dKs,and_self,g14,zAW,zAA,qKn,qKr,qKx,qKp,bKn,bKr,bKp,bKx,tKn,tKr,tKx,tKp,zKn,zKr,zKx,zKp]; refine ⟨hlt,trivial,vb2,?_,g2,g12.trans (by rw [hvt]) ,g13,by rw [zCT (by omega)]⟩; have:=h'.emit c2 t2 hb2 hn2; rw [List.take_add_one,hx,List.flatMap_append,←List.append_assoc]
  simpa using this
 ·have htk:p.ts.take i=p.ts:=List.take_of_length_le (by omega); rw [htk] at h'; simp only [qKn,qKr,qKx,qKp,bKn,bKr,bKp,bKx,tKn,tKr,tKx,tKp,zKn,zKr,zKx,zKp,if_true]; exact zEm (by kernel_rfl) _ _ (.inl rfl) _ _ ⟨⟨_,rfl⟩,vb',h'⟩
theorem zNH:Tryz.f58.results.toList=[.cell 0 108]:=by kernel_rfl
theorem zWy:siz prog 108=some 3:=by kernel_rfl
theorem zYx:agg? prog 108=some true:=by kernel_rfl
theorem zYP:zer prog 108=some (.agg #[.nilFunc,.nilFunc,.nilFunc]):=by kernel_rfl
theorem zWe:bld prog 108 [(1,(.func (.func 106) #[] #[])),(2,(.func (.func 107) #[] #[]))]=some (.agg [.nilFunc,.func (.func 106) #[] #[],.func (.func 107) #[] #[]].toArray):=by kernel_rfl
theorem zPz {W:CW} (ht:Top W):WCall prog pkL 58 [] W (Ret (.agg [.nilFunc,.func (.func 106) #[] #[],.func (.func 107) #[] #[]].toArray) W):=by
 refine zXX ?_; rw [zXY,zWe]; simp only [zAA]; refine zBx zYP zWy rfl rfl rfl ht fun W1 k1 t1 z1 hB=>?_; refine zFB zNH rfl (zA8 (vs:=[.nilFunc,.func (.func 106) #[] #[],.func (.func 107) #[] #[]]) (a:=⟨W.sz,0,none⟩) zYx zWy rfl (by omega) hB.cells) ?_; exact ⟨rfl,k1,t1⟩
end Go.Ce
namespace Go.Ce
open Go Go.Proofs Go.Proofs.Tryz
theorem zSy (b:Nat):iad prog 108 (.pointer (some ⟨b,0,none⟩)) (.int .u8 1)=some (.pointer (some ⟨b,1,none⟩)):=by kernel_rfl
theorem zSx (b:Nat):iad prog 108 (.pointer (some ⟨b,0,none⟩)) (.int .u8 2)=some (.pointer (some ⟨b,2,none⟩)):=by kernel_rfl
theorem zYZ:agg? prog 107=some false:=by kernel_rfl
theorem a88:agg? prog 88=some false:=by kernel_rfl
theorem a51:agg? prog 51=some false:=by kernel_rfl
theorem zGC {W W0:CW} {n:Nat} {z:Array Value} {e:TypeId} (h:W0.obj W.sz=some (.cells .nil n z e)) (hz:zBJ (some (.cells .nil n z e)) (some (.cells .nil n z e))=true):zM7 (.pointer (some ⟨W.sz,0,none⟩)) ((W.new (.cells .nil n z e)).obj W.sz) W0=true:=by
 show zBJ (W0.obj W.sz) ((W.new (.cells .nil n z e)).obj W.sz)=true; rw [h,zAp,if_pos rfl]; exact hz
theorem zPo {p:WrP} {W:CW} {vb:Value} {bs:List Int} {n:Int} (h:WrEnv p W vb bs) (hC:Cat p.c) (hok:zA9 p.c=true) (hs:zAq p.c p.l=true) (hth:∀ x,x ∈ p.h→zAs p.c x p.h.length=true) (hml:∀ s,s ∈ p.l→s.map.length<100000) (hhl:p.h.length<100000) (hol:p.o.length<100000) (htl:p.ts.length<100000) {i:Nat} (hn:n=((i+1:Nat):Int)) (hil:i<p.h.length)
  (hty:p.ts.any (fun u=>decide (u=(zAD p.l p.h[i]).type))=true) (hbl:bs.length≤500000) (hdv:p.dvs=[.nilFunc,.func (.func 106) #[] #[],.func (.func 107) #[] #[]]) :
  WCall prog pkL 60 [.int .i64 n,.pointer (some ⟨p.br,0,none⟩),.pointer (some ⟨p.bh,0,none⟩),.pointer (some ⟨p.bwv,0,none⟩),.pointer (some ⟨p.b16,0,none⟩),.pointer (some ⟨p.bk,0,none⟩),.pointer (some ⟨p.bd,0,none⟩)] W (zHk p (bs++zDW p.c p.ts p.o (zAD p.l p.h[i]))):=by
 subst hn; refine zXT ?_; rw [zXU]; have kn:Kp W (W.new (.cells .nil 2 #[.string ⟨#[]⟩,.slice none 0 0] 56)):=.new _; have tn:=h.top.new (.cells .nil 2 #[.string ⟨#[]⟩,.slice none 0 0] 56); have hon:(W.new (.cells .nil 2 #[.string ⟨#[]⟩,.slice none 0 0] 56)).obj W.sz=some (.cells .nil 2 #[.string ⟨#[]⟩,.slice none 0 0] 56):=by rw [zAp,if_pos rfl]
 have hBn:Blk (W.new (.cells .nil 2 #[.string ⟨#[]⟩,.slice none 0 0] 56)) W.sz 56 [.string ⟨#[]⟩,.slice none 0 0]:=⟨.nil,2,_,hon,rfl,fun k v hk=>by
  match k,hk with
  | 0,hk=>cases hk; rfl
  | 1,hk=>cases hk; rfl⟩
 have hszn:(W.new (.cells .nil 2 #[.string ⟨#[]⟩,.slice none 0 0] 56)).sz=W.sz+1:=rfl; have hfl:∀ W0:CW,W0.obj W.sz=some (.cells .nil 2 #[.string ⟨#[]⟩,.slice none 0 0] 56)→zM7 (.pointer (some ⟨W.sz,0,none⟩)) ((W.new (.cells .nil 2 #[.string ⟨#[]⟩,.slice none 0 0] 56)).obj W.sz) W0=true:=fun W0 h0=>zGC h0 rfl; have hn':=h.kp' kn tn; generalize hWn:W.new (.cells .nil 2 #[.string ⟨#[]⟩,.slice none 0 0] 56)=Wn at kn tn hon hBn hszn hfl hn' ⊢; have D:=hn'.d.kp h.tA hn'.kp; obtain ⟨vh,hbh,hh⟩:=D.hs; have hx:=List.getElem?_eq_getElem hil; obtain ⟨ah,ch,rfl,hhc⟩:=id hh; obtain ⟨q,rfl,hq⟩:=hhc i _ hx; have l83:ld prog 83 (.pointer (some ⟨p.br,0,none⟩)) Wn=some (.agg [.map (some p.w),.map (some p.r)].toArray):=zA8 (vs:=[.map (some p.w),.map (some p.r)]) (a:=⟨p.br,0,none⟩) a83 s83 rfl (by omega) D.rl; have l24:ld prog 24 (.pointer (some ⟨p.bh,0,none⟩)) Wn=some (.slice (some q) p.h.length ch):=zAB a24 (a:=⟨p.bh,0,none⟩) hbh; obtain ⟨vx,hu,hvx,hvxl⟩:=zP3 tn (.refl _) hq; rw [l83,l24]; simp only [zAA,zCD]; rw [show ((i+1:Nat):Int)-1=(i:Nat) by omega,zBU (by omega) (by omega),zAb u24 s56 hil]; simp only [zAA,hu]; have htyi:=hth _ (List.getElem_mem hil); refine (zUo (r:=p.r) tn D.sp hvx (zFZ hs htyi) hml).mono fun en W0 ⟨k0,t0,vv,hen,hvv,hor⟩=>?_; subst hen; simp only [zAK]; have hyt:=zA2 hs htyi; obtain ⟨iy,sy,Y⟩:=zCA hyt; generalize hy:zAD p.l p.h[i]=y at hvv hyt Y hty ⊢; obtain ⟨av,cv,rfl,_⟩:=id hvv; have hWnl:W.sz<Wn.sz:=by omega
 have hB0:=hBn.ext tn k0; refine ⟨trivial,?_⟩; refine zB6 s56 (a:=⟨W.sz,0,none⟩) (ws:=[.string y.type,.slice av y.vals.length cv]) rfl rfl hB0 (by simp) fun W2 hu2 hB2=>?_; have hu2:Upd W.sz W0 W2:=hu2; have hB2:Blk W2 W.sz 56 [.string y.type,.slice av y.vals.length cv]:=hB2; refine ⟨by simp only [and_self],⟨⟨trivial,hfl W0 (by rw [k0.obj _ hWnl]; exact hon),hfl Wn hon⟩,trivial⟩,?_⟩; have hpA:=h.kp.sz; have hlt:=h.lt; have hB0l:=hB0.lt t0; have E2:WrEnv p W2 vb bs:=(hn'.kp' k0 t0).of ((hn'.kp.trans k0).upd hpA hu2) (t0.upd hB0l hu2) fun i hi=>hu2.obj i (by have:=hlt i hi; omega)
 have hv2:IsSl 1 (RInt W2) (.slice av y.vals.length cv) y.vals:=hvv.imp fun b o x hr=>⟨by
  by_cases hb:b=W.sz
  ·subst hb; have:=hB0.cell_inv hr.1
   match o,this with
   | 0,this=>cases this
   | 1,this=>cases this
  ·rw [hu2.cell hb]; exact hr.1,hr.2⟩
 have hkW:∀ i,p.Has vb i→i<W.sz:=hlt; clear hvv hB0 hfl hor hBn hon; have q88:∀ W' vb' bs',WrEnv p W' vb' bs'→ld prog 88 (.pointer (some ⟨p.bwv,0,none⟩)) W'=some (.pointer (some ⟨p.wb,0,none⟩)):=fun W' vb' bs' E=>zAB a88 (a:=⟨p.bwv,0,none⟩) (E.wv.cell rfl); have q51:∀ W' vb' bs',WrEnv p W' vb' bs'→ld prog 51 (.pointer (some ⟨p.b16,0,none⟩)) W'=some p.vt:=fun W' vb' bs' E=>zAB a51 (a:=⟨p.b16,0,none⟩) (E.ty.cell rfl); have q9:∀ W',Blk W' W.sz 56 [.string y.type,.slice av y.vals.length cv]→ld prog 9 (.pointer (some ⟨W.sz,0,none⟩)) W'=some (.string y.type):=fun W' hB=>zAB a9 (a:=⟨W.sz,0,none⟩) (hB.cell rfl); have q40:∀ W',Blk W' W.sz 56 [.string y.type,.slice av y.vals.length cv]→ld prog 40 (.pointer (some ⟨W.sz,0+1,none⟩)) W'=some (.slice av y.vals.length cv):=fun W' hB=>zAB a40 (a:=⟨W.sz,0+1,none⟩) (hB.cell rfl); simp only [q88 W2 _ _ E2,q51 W2 _ _ E2,zBX,zD5,zCU,zAA,q9 W2 hB2]; refine zB2 (zJP (zEe (f:=fun s=>Value.string s) E2.tys) (by omega)) ?_
 obtain ⟨z,hz,hzl⟩:∃ z:Nat,zIp p.ts (fun x=>decide (x=y.type))=(z:Int)∧z<100000:=by
  unfold zIp
  cases hf:p.ts.findIdx? (fun x=>decide (x=y.type)) with
  | none =>
   rw [List.findIdx?_eq_none_iff] at hf; obtain ⟨u,hu,hu'⟩:=List.any_eq_true.1 hty; rw [hf u hu] at hu'; cases hu'
  | some i =>
   have:=(List.findIdx?_eq_some_iff_getElem.1 hf).1; exact ⟨i,rfl,by omega⟩
 rw [hz]; refine (E2.num (n:=z) (by omega) (by omega)).mono fun en W5 ⟨⟨ve,hen⟩,c5,vb5,E5,n5⟩=>?_; subst hen; simp only [zAK]; have hB5:=c5.blk E2.top (zH8 E2 hB2 (by decide) (by decide)) hB2; have hv5:IsSl 1 (RInt W5) (.slice av y.vals.length cv) y.vals:=hv2.imp fun b o x hr=>⟨zKf E2 c5 hr.1,hr.2⟩
 have D5:=E5.d.kp E5.tA E5.kp; refine ⟨by simp only [true_and,and_true]; exact q88 W2 _ _ E2,?_⟩; have hm2:=zN1 hok Y.si Y.many; have hzl8:=zBg (n:=z) (by omega); have hml8:=zBg (n:=y.vals.length) (by omega); obtain ⟨ea,eb,ef,eg,hel⟩:=D5.cat.sh.elem Y.ti
 have hth:zDW p.c p.ts p.o y=zCB z++(if zAN p.c iy≠0 then zCB y.vals.length else [])++zDE p.c p.o iy y.vals y.vals.length:=by
  unfold zDW; rw [Y.ti]; simp only [hz,Int.toNat_natCast]
 rw [hth]; generalize hKK:zAE prog Tryz.f60 (zHk p (bs++(zCB z++(if zAN p.c iy≠0 then zCB y.vals.length else [])++zDE p.c p.o iy y.vals y.vals.length)))=KK
 have k9:∀ (W6:CW) (vb6:Value) (e:Env),WrEnv p W6 vb6 (bs++zCB z++(if zAN p.c iy≠0 then zCB y.vals.length else []))→Blk W6 W.sz 56 [.string y.type,.slice av y.vals.length cv]→IsSl 1 (RInt W6) (.slice av y.vals.length cv) y.vals→e 3=.pointer (some ⟨p.bwv,0,none⟩)→e 5=.pointer (some ⟨p.bk,0,none⟩)→e 6=.pointer (some ⟨p.bd,0,none⟩)→e 8=.pointer (some ⟨W.sz,0,none⟩)→(zOJ none KK) .normal e [] W6:=by
  intro W6 vb6 e E6 hB6 hv6 g3 g5 g6 g8; have D6:=E6.d.kp E6.tA E6.kp; simp only [zOJ,qKn,qKr,qKx,qKp,bKn,bKr,bKp,bKx,tKn,tKr,tKx,tKp,zKn,zKr,zKx,zKp,g5,g8]; rw [zA8 (vs:=[.map (some p.r1),.map (some p.r2)]) (a:=⟨p.bk,0,none⟩) a78 s78 rfl (by omega) D6.k,zA8 (vs:=[.string y.type,.slice av y.vals.length cv]) (a:=⟨W.sz,0,none⟩) a56 s56 rfl (by omega) hB6.cells]; simp only [zAA]; refine (zHe (r1:=p.r1) (r2:=p.r2) (ty:=y.type) E6.top).mono fun en W8 ⟨k8,t8,bk',bx,hen,hbk,hbx,hBk,hBx⟩=>?_; subst hen; simp only [zAK]; have hbkl:=hBk.lt t8; have hbxl:=hBx.lt t8; have h68:=k8.sz; have hB6l:=hB6.lt E6.top; have hlt6:=E6.lt
  refine zMY (bk:=bk') (bx:=bx) (r1:=p.r1) (r2:=p.r2) (n:=y.vals.length) (ix:=iy) (c:=p.c) (ty:=y.type) (a1:=9) (a2:=10) t8 rfl Y.ti (by omega) (fun he=>by
     have:=zD2 Y.si he Y.many; omega) (fun ro e0 ds K W=>by rw [zVS]) (by decide)
    (fun j W'=>∃ vb',WrEnv p W' vb' (bs++zCB z++(if zAN p.c iy≠0 then zCB y.vals.length else [])++zDE p.c p.o iy y.vals j)∧Blk W' W.sz 56 [.string y.type,.slice av y.vals.length cv]∧Blk W' bk' 78 [.map (some p.r1),.map (some p.r2)]∧Blk W' bx 56 [.string y.type,.slice av y.vals.length cv]∧IsSl 1 (RInt W') (.slice av y.vals.length cv) y.vals∧W'.obj W8.sz=some .deferred∧W8.sz+1<W'.sz∧∀ i,p.Has vb' i→i≠W8.sz∧i≠W8.sz+1)
    (fun _ _=>False)
    (fun j W' ⟨vb',E,b1,b2,b3,v,d,z,n⟩=>⟨b2.cell rfl,b2.cell rfl,(E.d.kp E.tA E.kp).cat,b3.cell rfl,_,_,b3.cell rfl⟩) (fun j W1 W2 ⟨vb',E,b1,b2,b3,v,d,z,n⟩ hu hc=>?_) (fun _ _ _ hf=>hf.elim) (fun W2 k2 t2 z2 hd=>?_) (fun j W1 Kb E hE hE1 hE2 hj ⟨vb',E',b1,b2,b3,v,d,zl,n⟩ hlo hn hr hx=>?_) (fun W' ⟨vb',E,b1,b2,b3,v,d,zl,n⟩=>?_) (fun _ _ hf=>hf.elim)
  ·have h1:=E.kp.sz; have hpw:p.A.sz≤W8.sz+1:=by have:=E6.kp.sz; omega
   exact ⟨vb',E.of (E.kp.upd hpw hu) (E.top.upd z hu) (fun i hi=>hu.obj i (n i hi).2),b1.congr (hu.obj _ (by omega)),b2.congr (hu.obj _ (by omega)),b3.congr (hu.obj _ (by omega)),v.imp fun b o x hr=>⟨hc _ _ _ hr.1,hr.2⟩,by rw [hu.obj _ (by omega)]; exact d,by rw [hu.sz]; exact z,n⟩
  ·have k62:=k8.trans k2
   refine ⟨vb6,?_,hB6.ext E6.top k62,hBk.ext t8 k2,hBx.ext t8 k2,hv6.imp fun b o x hr=>hr.kp E6.top k62,hd,by omega,fun i hi=>?_⟩
   ·have:=E6.kp' k62 t2
    simpa [zDE] using this
   ·have:=hlt6 i hi; omega
  ·have hxj:=List.getElem?_eq_getElem hj; obtain ⟨_,_,e3,hvc⟩:=id v
   cases e3
   obtain ⟨q,rfl,hq⟩:=hvc j _ hxj; have gg3:=(hE 3 (by decide) (by decide) (by decide) (by decide)).trans g3; have gg6:=(hE 6 (by decide) (by decide) (by decide) (by decide)).trans g6; have gg8:=(hE 8 (by decide) (by decide) (by decide) (by decide)).trans g8; have l3:ld prog 3 (.pointer (some ⟨q.block,q.off+j*1,none⟩)) W1=some (.int .i64 y.vals[j]):=zAB a3 (a:=⟨q.block,q.off+j*1,none⟩) hq.1
   have hvl:=zGe (c:=p.c) (o:=p.o) (i:=iy) (vs:=y.vals) hol (fun k n hx hk=>by
    rcases zDx hok Y hx with h | h
    ·exact (hk h.1).elim
    ·exact h.2) j
   have hmm:(if zAN p.c iy≠0 then zCB y.vals.length else []).length≤8:=by split <;> simp [hml8]
   have hbig:(bs++zCB z++(if zAN p.c iy≠0 then zCB y.vals.length else [])++zDE p.c p.o iy y.vals j).length<700000:=by
    rw [List.length_append,List.length_append,List.length_append]; omega
   have hdone:∀ (e':Env) (ds':List Deferred) (W3:CW) (vb3:Value),Chg (WrS p.wb vb') W1 W3→Top W3→BufAt W3 p.wb p.rest vb3 (bs++zCB z++(if zAN p.c iy≠0 then zCB y.vals.length else [])++zDE p.c p.o iy y.vals j++zRw p.o (zA3 p.c iy j) y.vals[j])→(∀ i,zA7 vb3 i→zA7 vb' i∨W1.sz≤i)→Kb .normal e' ds' W3:=by
    intro e' ds' W3 vb3 c3 t3 hb3 hn3
    have hno:∀ i,WrS p.wb vb' i→i≠W8.sz∧i≠W8.sz+1:=by
     rintro i (rfl | hi)
     ·exact n _ (.inr (.inr (.inr (.inr (.inr (.inr (.inr (.inl rfl))))))))
     ·exact n _ (.inr (.inr (.inr (.inr (.inr (.inr (.inr (.inr hi))))))))
    refine hn e' ds' W3 (c3.obj _ (by omega) fun hs=>(hno _ hs).2 rfl) ⟨vb3,?_,c3.blk E'.top (zH8 E' b1 (by decide) (by decide)) b1,c3.blk E'.top (zH8 E' b2 (by decide) (by decide)) b2,c3.blk E'.top (zH8 E' b3 (by decide) (by decide)) b3,v.imp fun b o x hr=>⟨zKf E' c3 hr.1,hr.2⟩,by rw [c3.obj _ (by omega) fun hs=>(hno _ hs).1 rfl]; exact d,by have:=c3.sz; omega,fun i hi=>?_⟩
    ·have:=E'.emit c3 t3 hb3 hn3; unfold zDE; rw [hxj]
     simpa using this
    ·rcases hi with hi | hi | hi | hi | hi | hi | hi | hi | hi
     ·exact n _ (.inl hi)
     ·exact n _ (.inr (.inl hi))
     ·exact n _ (.inr (.inr (.inl hi)))
     ·exact n _ (.inr (.inr (.inr (.inl hi))))
     ·exact n _ (.inr (.inr (.inr (.inr (.inl hi)))))
     ·exact n _ (.inr (.inr (.inr (.inr (.inr (.inl hi))))))
     ·exact n _ (.inr (.inr (.inr (.inr (.inr (.inr (.inl hi)))))))
     ·exact n _ (.inr (.inr (.inr (.inr (.inr (.inr (.inr (.inl hi))))))))
     ·rcases hn3 i hi with hi | hi
      ·exact n _ (.inr (.inr (.inr (.inr (.inr (.inr (.inr (.inr hi))))))))
      ·omega
   rw [zVR,gg3,gg6,gg8,hE1,hE2]
   rcases zDx hok Y hxj with hk | hk
   ·have l107:ld prog 107 (.pointer (some ⟨p.bd,2,none⟩)) W1=some (.func (.func 107) #[] #[]):=zAB zYZ (a:=⟨p.bd,2,none⟩) (E'.dv.cell (by rw [hdv]; rfl)); rw [hk.1] at hdone ⊢; simp only [zSx,l107,q88 W1 _ _ E',zCH,zAA,q40 W1 b1,zAb u40 s3 hj,l3]; refine zDd Tryz.func107 (by kernel_rfl) ((zUK E'.top E'.buf E'.wk hol hbig).mono fun en W3 ⟨⟨v3,he3⟩,c3,t3,vb3,hb3,hn3⟩=>?_); subst he3; refine ⟨by simp only [and_self],?_⟩
    try refine ⟨trivial,?_⟩
    exact hdone _ _ W3 vb3 c3 t3 (by simpa [zRw,WrP.rest] using hb3) hn3
   ·have l107:ld prog 107 (.pointer (some ⟨p.bd,1,none⟩)) W1=some (.func (.func 106) #[] #[]):=zAB zYZ (a:=⟨p.bd,1,none⟩) (E'.dv.cell (by rw [hdv]; rfl)); rw [hk.1] at hdone ⊢; simp only [zSy,l107,q88 W1 _ _ E',zCH,zAA,q40 W1 b1,zAb u40 s3 hj,l3]; refine zDd Tryz.func106 (by kernel_rfl) ((zST E'.top E'.buf (by omega) (by omega) hbig).mono fun en W3 ⟨⟨v3,he3⟩,c3,t3,vb3,hb3,hn3⟩=>?_); subst he3; refine ⟨by simp only [and_self],?_⟩
    try refine ⟨trivial,?_⟩
    exact hdone _ _ W3 vb3 c3 t3 (by simpa [zRw,WrP.rest] using hb3) hn3
  ·simp only [qKn,qKr,qKx,qKp,bKn,bKr,bKp,bKx,tKn,tKr,tKx,tKp,zKn,zKr,zKx,zKp]; rw [←hKK]; refine zDs d ?_; have hu2:Upd W8.sz W' (W'.upd W8.sz .dead):=Upd.of _ _ _; have hpw:p.A.sz≤W8.sz:=by have:=E6.kp.sz; omega
   refine zEm (by kernel_rfl) _ _ (.inl rfl) _ _ ⟨⟨_,rfl⟩,vb',?_⟩; have:=E.of (E.kp.upd hpw hu2) (E.top.upd (by omega) hu2) (fun i hi=>hu2.obj i (n i hi).1)
   simpa using this
 have l75:ld prog 75 (.pointer (some ⟨p.bk,0,none⟩)) W5=some (.map (some p.r1)):=zAB a75 (a:=⟨p.bk,0,none⟩) (D5.k 0 _ rfl); simp only [zDL,zCU,zAA,l75,q9 W5 hB5,hel,zGu,zBW]; refine ⟨trivial,?_⟩
 refine zAH (fun he=>?_) (fun he=>?_)
 ·have he:zAN p.c iy≠0:=by simpa using he
  simp only [q88 W5 _ _ E5,zBX,zD5,zCH,zAA,q40 W5 hB5,zAT u40]; refine (E5.num (n:=y.vals.length) (by omega) (by rw [List.length_append]; omega)).mono fun en W6 ⟨⟨ve,hen⟩,c6,vb6,E6,n6⟩=>?_; subst hen; simp only [zAK]; refine ⟨by simp only [and_self],?_⟩
  try refine ⟨trivial,?_⟩
  refine k9 W6 vb6 _ (by rw [if_pos he]; exact E6) (c6.blk E5.top (zH8 E5 hB5 (by decide) (by decide)) hB5) (hv5.imp fun b o x hr=>⟨zKf E5 c6 hr.1,hr.2⟩) rfl rfl rfl rfl
 ·have he:¬zAN p.c iy≠0:=by simpa using he
  refine k9 W5 vb5 _ (by rw [if_neg he,List.append_nil]; exact E5) hB5 hv5 rfl rfl rfl rfl
end Go.Ce
namespace Go.Ce
open Go Go.Proofs Go.Proofs.Tryz
theorem zSr {p:WrP} {W:CW} {vb:Value} {bs:List Int} (h:WrEnv p W vb bs) (hC:Cat p.c) (hok:zA9 p.c=true) (hs:zAq p.c p.l=true) (H:Hp p.c p.h p.o) (hml:∀ s,s ∈ p.l→s.map.length<100000) (hsm:p.h.length≤1000) (hsum:((zAF p.h p.o).flatMap fun x=>zDW p.c p.ts p.o (zAD p.l x)).length≤161600) (htl:p.ts.length<100000)
  (hty:∀ x,x ∈ zAF p.h p.o→p.ts.any (fun u=>decide (u=(zAD p.l x).type))=true) (hbl:bs.length≤200000) (hdv:p.dvs=[.nilFunc,.func (.func 106) #[] #[],.func (.func 107) #[] #[]]) :
  WCall prog pkL 59 [.pointer (some ⟨p.wb,0,none⟩),p.vo,.func (.func 60) #[] #[.pointer (some ⟨p.br,0,none⟩),.pointer (some ⟨p.bh,0,none⟩),.pointer (some ⟨p.bwv,0,none⟩),.pointer (some ⟨p.b16,0,none⟩),.pointer (some ⟨p.bk,0,none⟩),.pointer (some ⟨p.bd,0,none⟩)]] W
   (zHk p (bs++zCB p.o.length++(zAF p.h p.o).flatMap fun x=>zDW p.c p.ts p.o (zAD p.l x))):=by
 refine zXV ?_; rw [zXW]; have hol:=H.found.len; have hil:(zCt p.o).length=p.o.length*1:=by unfold zCt; rw [List.length_map]; omega
 rw [zEK u40 h.wk.own (by omega) hil]; simp only [zAA]; refine (h.num (n:=p.o.length) (by omega) (by omega)).mono fun en W1 ⟨⟨v,he⟩,_,vb1,h1,_⟩=>?_; subst he; simp only [zAK]; rw [zEK u40 h1.wk.own (by omega) hil]; simp only [zAA]; have h8:=zBg (n:=p.o.length) (by omega); refine zCX (fun i e ds W'=>ds=[]∧∃ vb',WrEnv p W' vb' (bs++zCB p.o.length++(zAF p.h (p.o.take i)).flatMap fun x=>zDW p.c p.ts p.o (zAD p.l x))∧e 2=.func (.func 60) #[] #[.pointer (some ⟨p.br,0,none⟩),.pointer (some ⟨p.bh,0,none⟩),.pointer (some ⟨p.bwv,0,none⟩),.pointer (some ⟨p.b16,0,none⟩),.pointer (some ⟨p.bk,0,none⟩),.pointer (some ⟨p.bd,0,none⟩)]∧e 12=p.vo∧e 13=.int .i64 p.o.length∧e 14=.int .i64 i) p.o.length ⟨rfl,vb1,by simpa [zAF] using h1,rfl,rfl,rfl,rfl⟩ ?_; rintro i e ds W' hi ⟨rfl,vb',h',g2,g12,g13,g14⟩; rw [zVT,g2,g12,g13,g14]; simp only [zAZ,zAA]
 refine zGZ (fun hlt=>?_) (fun hge=>?_)
 ·have hx:=List.getElem?_eq_getElem hlt; obtain ⟨w,hw,hwl,_⟩:=H.at hlt; have htk:=zDw H hlt hw hwl; obtain ⟨a,cap,hvt,hc⟩:=zEe (f:=fun n=>Value.int .i64 n) h'.wk.own; obtain ⟨q,rfl,hq⟩:=hc i _ hx; rw [hvt,zAb u40 s3 hlt]; simp only [zAA]; rw [zAB a3 (a:=⟨q.block,q.off+i*1,none⟩) hq]; simp only [zAA]
  have hin:p.h[w] ∈ zAF p.h p.o:=by
   have:p.h[w] ∈ zAF p.h (p.o.take (i+1)):=by rw [htk]; simp
   unfold zAF at this ⊢; obtain ⟨v,hv,hx⟩:=List.mem_flatMap.1 this; exact List.mem_flatMap.2 ⟨v,List.mem_of_mem_take hv,hx⟩
  have hbl1:((zAF p.h (p.o.take i)).flatMap fun x=>zDW p.c p.ts p.o (zAD p.l x)).length≤161600:=by
   have e:zAF p.h p.o=zAF p.h (p.o.take i)++zAF p.h (p.o.drop i):=by
    unfold zAF; rw [←List.flatMap_append,List.take_append_drop]
   rw [e,List.flatMap_append,List.length_append] at hsum; omega
  refine zDd Tryz.func60 (by kernel_rfl) ((zPo h' hC hok hs H.ok hml (by omega) (by omega) htl hw hwl (hty _ hin) (by rw [List.length_append,List.length_append]; omega) hdv).mono fun en W2 ⟨⟨v,he⟩,vb2,h2⟩=>?_); subst he; simp only [zAK,zQ7,qKn,qKr,qKx,qKp,bKn,bKr,bKp,bKx,tKn,tKr,tKx,tKp,zKn,zKr,zKx,zKp]; simp only [eKc,eKn,eKa,Nat.reduceEqDiff,↓reduceIte,gKz,gKs,dKs,and_self,g14,zAW,zAA,qKn,qKr,qKx,qKp,bKn,bKr,bKp,bKx,tKn,tKr,tKx,tKp,zKn,zKr,zKx,zKp]; refine ⟨hlt,trivial,vb2,?_,g2,g12.trans (by rw [hvt]) ,g13,by rw [zCT (by omega)]⟩; rw [htk,List.flatMap_append,←List.append_assoc]
  simpa using h2
 ·have htk:p.o.take i=p.o:=List.take_of_length_le (by omega); rw [htk] at h'; simp only [qKn,qKr,qKx,qKp,bKn,bKr,bKp,bKx,tKn,tKr,tKx,tKp,zKn,zKr,zKx,zKp,if_true]; exact zEm (by kernel_rfl) _ _ (.inl rfl) _ _ ⟨⟨_,rfl⟩,vb',h'⟩
end Go.Ce
namespace Go.Ce
open Go Go.Proofs Go.Proofs.Tryz
theorem zLY {t:TypeId} {r:Nat} {k:Value} {ok:Bool} {W W':CW} (h:W'.obj r=W.obj r):lkp prog t (.map (some r)) k ok W'=lkp prog t (.map (some r)) k ok W:=by
 unfold lkp
 cases prog.underlying t with
 | none=>rfl
 | some d=>cases d <;> simp only [h]
theorem zS3 {l:List Spc} {s:ByteArray}:(l.find? fun x=>decide (Spc.to x=s)).isSome=l.any fun x=>decide (x.to=s):=by
 rw [Bool.eq_iff_iff,List.find?_isSome,List.any_eq_true]
structure TyAt (A:CW) (bk br bh r1 r2 w r:Nat) (c:List Shp) (l:List Spc) (h:List Thg) (o:List Int):Prop where
 top:Top A
 d:Wr1At A bk br bh r1 r2 w r c l h
 to:SpM Spc.to A r l
 sok:zAq c l=true
 sm:∀ s,s ∈ l→s.map.length<100000
 H:Hp c h o
theorem zRN {A W0:CW} {K:zAI} {e:Env} {bk br bh r1 r2 w r b16:Nat} {vo:Value} {c:List Shp} {l:List Spc} {h:List Thg} {o:List Int} (I:TyAt A bk br bh r1 r2 w r c l h o) (kA:Kp A W0) (t0:Top W0) (hB0:Blk W0 b16 51 [.slice none 0 0]) (h16:A.sz≤b16) (hvo:Own W0 3 1 vo (zCt o))
  (g6:e 6=.pointer (some ⟨bh,0,none⟩)) (g12:e 12=.pointer (some ⟨br,0,none⟩)) (g16:e 16=.pointer (some ⟨b16,0,none⟩)) (g60:e 60=vo) (g61:e 61=.int .i64 o.length) (g62:e 62=.int .i64 0)
  (hyes:zKu l h o=true→∀ e' W',Kp A W'→Top W'→e' 8=.slice none 0 0→e' 9=.int .i64 214→K .ret e' [] W')
  (hno:zKu l h o=false→∀ e' W' vt,Chg (·=b16) W0 W'→Top W'→Agree [6,10,12,15,16] e e'→Blk W' b16 51 [vt]→Own W' 9 1 vt (zK2 (zBr l (zAF h o)))→Newer W0.sz vt→K (.exit 0) e' [] W') :
  zCg prog pkL none 17 127 (.loop (zAS prog 17 0)) e [] W0 K:=by
 have hol:=I.H.found.len; have hhs:=I.H.small; have hsA:=kA.sz; have hb16:=hB0.lt t0
 refine zCX (fun i e' ds' W'=>ds'=[]∧∃ vt,Chg (·=b16) W0 W'∧Top W'∧Agree [6,10,12,15,16,60,61] e e'∧e' 62=.int .i64 i∧Blk W' b16 51 [vt]∧Own W' 9 1 vt (zK2 (zET l h o i))∧Newer W0.sz vt∧((zAF h (o.take i)).any fun x=>l.any fun s=>decide (s.to=x.type))=false) o.length
  ⟨rfl,_,.refl _ _,t0,.refl _ _,g62,hB0,Own.nil,Newer.nil _ _ _,rfl⟩ ?_
 rintro i e' ds' W' hi ⟨rfl,vt,hch,t',hAg,q62,hB,htv,hnw,hpre⟩; have q6:=(hAg 6 (by decide)).trans g6; have q12:=(hAg 12 (by decide)).trans g12; have q16:=(hAg 16 (by decide)).trans g16; have q60:=(hAg 60 (by decide)).trans g60; have q61:=(hAg 61 (by decide)).trans g61; have k':Kp A W':=Chg.kp kA hch fun j hj=>by omega
 have D:=I.d.kp I.top k'; have hvo':=hch.own t0 hvo fun j hj he=>by subst he; have:=zAw hB0 (zB3 hvo hj); cases this
 obtain ⟨ao,co,rfl,hoc⟩:=zEe (f:=fun n=>Value.int .i64 n) hvo'; have hb':=hB.lt t'; rw [zVh,q6,q12,q16,q60,q61,q62]; simp only [zAZ,zAA]
 refine zGZ (fun hlt=>?_) (fun hge=>?_)
 ·have hx:=List.getElem?_eq_getElem hlt; obtain ⟨w',hw,hwl,_⟩:=I.H.at hlt; have htk:=zDw I.H hlt hw hwl; obtain ⟨q,rfl,hq⟩:=hoc i _ hx; obtain ⟨vh,hbh,hh⟩:=D.hs; have hxh:=List.getElem?_eq_getElem hwl; obtain ⟨ah,ch,rfl,hhc⟩:=id hh; obtain ⟨p,rfl,hp⟩:=hhc w' _ hxh; have l3:∀ W1,Kp W' W1→ld prog 3 (.pointer (some ⟨q.block,q.off+i*1,none⟩)) W1=some (.int .i64 ((w'+1:Nat):Int)):=fun W1 k1=>zAB a3 (a:=⟨q.block,q.off+i*1,none⟩) (k1.cell t' (by rw [←hw]; exact hq)); have l81:∀ W1,Kp W' W1→ld prog 81 (.pointer (some ⟨br,0+1,none⟩)) W1=some (.map (some r)):=fun W1 k1=>zAB a81 (a:=⟨br,0+1,none⟩) (k1.cell t' (D.rl 1 _ rfl)); have l24:∀ W1,Kp W' W1→ld prog 24 (.pointer (some ⟨bh,0,none⟩)) W1=some (.slice (some p) h.length ch):=fun W1 k1=>zAB a24 (a:=⟨bh,0,none⟩) (k1.cell t' hbh); have l9:∀ W1,Kp W' W1→ld prog 9 (.pointer (some ⟨p.block,p.off+w'*2,none⟩)) W1=some (.string h[w'].type):=fun W1 k1=>zAB a9 (a:=⟨p.block,p.off+w'*2,none⟩) (k1.cell t' hp.type)
  have sub1:zAL prog .sub 3 true (.int .i64 ((w'+1:Nat):Int)) (.int .i64 1)=some (.int .i64 (w':Nat)):=by
   rw [zCD,show ((w'+1:Nat):Int)-1=(w':Nat) by omega,zBU (by omega) (by omega)]
  have hto:SpM Spc.to W' r l:=I.to.kp I.top k'; obtain ⟨ws,L,hws,hone⟩:=zNp hto h[w'].type; obtain ⟨mto,hmto,_⟩:=id hto; have hrl:=hmto.lt t'; rw [zAb u40 s3 hlt]; simp only [zAA]; rw [l3 W' (.refl _)]; simp only [zKP,zAA]; rw [l81 W' (.refl _),l24 W' (.refl _)]; simp only [zAA]; rw [sub1]; simp only [zAA]; rw [zAb u24 s56 hwl]; simp only [zCU,zAA]; rw [l9 W' (.refl _)]; simp only [zAA]; refine zAu L ?_; refine zAu (zBF _ _) ?_; refine zAu (zBE _ _) ?_; refine zFa z58 s58 t' fun W1 k1 t1 z1 hB1=>?_; refine zB6 s58 (a:=⟨W'.sz,0,none⟩) hone hws hB1 (Nat.le_refl 3) fun W2 hu hB2=>?_; have hu:Upd W'.sz W1 W2:=hu; have k2:Kp W' W2:=k1.upd (Nat.le_refl _) hu; have t2:Top W2:=t1.upd (by rw [z1]; exact Nat.lt_succ_self _) hu; have hL1:lkp prog 81 (.map (some r)) (.string h[w'].type) true W1=some (.tuple #[.agg ws.toArray,.bool (l.find? fun x=>decide (Spc.to x=h[w'].type)).isSome]):=by rw [←L]; exact zLY (k1.obj _ hrl)
  refine ⟨by simp only [hL1,L,l9 W1 k1,l9 W' (.refl _),l24 W1 k1,l24 W' (.refl _),l81 W1 k1,l81 W' (.refl _),and_self],trivial,?_⟩; have kA2:=k'.trans k2
  have hin:h[w'] ∈ zAF h o:=by
   have:h[w'] ∈ zAF h (o.take (i+1)):=by rw [htk]; simp
   unfold zAF at this ⊢; obtain ⟨v,hv,hx⟩:=List.mem_flatMap.1 this; exact List.mem_flatMap.2 ⟨v,List.mem_of_mem_take hv,hx⟩
  rw [zS3]
  refine zAH (fun hbad=>?_) (fun hbad=>?_)
  ·simp only [zFn,qKn,qKr,qKx,qKp,bKn,bKr,bKp,bKx,tKn,tKr,tKx,tKp,zKn,zKr,zKx,zKp]; refine hyes ?_ _ W2 kA2 t2 rfl rfl; unfold zKu; rw [List.any_eq_true]; exact ⟨_,hin,hbad⟩
  ·have l83:ld prog 83 (.pointer (some ⟨br,0,none⟩)) W2=some (.agg [.map (some w),.map (some r)].toArray):=zA8 (vs:=[.map (some w),.map (some r)]) (a:=⟨br,0,none⟩) a83 s83 rfl (by omega) (D.rl.ext t' k2); obtain ⟨vx,hux,hvx,hvxl⟩:=zP3 t' k2 hp; simp only [l83,l24 W2 k2,sub1,zAb u24 s56 hwl,hux,zAA]; have hmem:=List.getElem_mem hwl; have hty:=I.H.ok _ hmem; refine (zUo (r:=r) t2 (D.sp.kp t' k2) hvx (zFZ I.sok hty) I.sm).mono fun en W3 ⟨k3,t3,vv,hen,hvv,hor⟩=>?_; subst hen; simp only [zAK,zUY,zAA]; refine ⟨by simp only [and_self],trivial,?_⟩; have k23:=k2.trans k3; have hB3:=hB.ext t' k23; have htv3:=htv.kp t' k23; have hto':=zMa l h o i; have l51:∀ W1,Kp W3 W1→ld prog 51 (.pointer (some ⟨b16,0,none⟩)) W1=some vt:=fun W1 k1=>zAB a51 (a:=⟨b16,0,none⟩) (k1.cell t3 (hB3.cell rfl)); simp only [l51 W3 (.refl _),zAA]; refine zB2 (zGR (zEe (f:=fun s=>Value.string s) htv3) (by omega)) ?_; have hsucc:=zOo (l:=l) I.H hlt hw hwl
   have hpre':((zAF h (o.take (i+1))).any fun x=>l.any fun s=>decide (s.to=x.type))=false:=by
    rw [htk,List.any_append,hpre]; simp only [List.any_cons,hbad,List.any_nil,Bool.or_self]
   have hch3:Chg (·=b16) W0 W3:=hch.then (Chg.of_kp k23 (S:=(·=b16))) fun _ _ h=>h; simp only [zAR,zAA]
   cases hc:(zET l h o i).any (fun x=>decide (x=(zAD l h[w']).type)) with
   | false =>
    simp only [Bool.not_false,zAn,l51 W3 (.refl _),zAA]; refine zGb u51 s9 z9 rfl (by omega) by9 (by omega) (zWX _) rfl rfl t3 htv3 (by rw [zFv]; omega) fun u Wa v1' W4 ka ta hpu t4 o4 n4=>?_; have hne:¬zA7 vt b16:=fun hj=>by have:=zAw hB3 (zB3 htv3 hj); cases this
    have hB4:=hpu.chg.blk t3 hne hB3; refine zAX s51 (a:=⟨b16,0,none⟩) (v:=v1') (zH6 o4) hB4 (by simp) fun W5 hu5 hB5=>?_; have hu5:Upd b16 W4 W5:=hu5; have hB5:Blk W5 b16 51 [v1']:=hB5; have hb4:=hB4.lt t4; have hn4:=n4 W0.sz hch3.sz; simp only [zFn,qKn,qKr,qKx,qKp,bKn,bKr,bKp,bKx,tKn,tKr,tKx,tKp,zKn,zKr,zKx,zKp]; simp only [eKc,eKn,eKa,Nat.reduceEqDiff,↓reduceIte,gKz,gKs,dKs,and_self,q62,zAW,zAA,qKn,qKr,qKx,qKp,bKn,bKr,bKp,bKx,tKn,tKr,tKx,tKp,zKn,zKr,zKx,zKp]
    refine ⟨hlt,trivial,v1',(hch3.then hpu.chg fun j hj hi=>?_).then hu5.chg fun _ _ h=>h,t4.upd hb4 hu5,(hAg.trans (.put rfl)).trans (.put rfl),by rw [zCT (by omega)],hB5,?_,hn4,hpre'⟩
    ·obtain ⟨b,l',c',e1,e2⟩:=hi; have:=hnw b l' c' e1; omega
    ·have hne5:∀ j,zA7 v1' j→¬j=b16:=fun j hj he=>by subst he; have:=zAw hB4 (zB3 o4 hj); cases this
     have:=hu5.chg.own t4 o4 hne5; rw [hsucc]; unfold zA1; rw [if_neg (by rw [hc]; simp),zNm]; exact this
   | true =>
    simp only [Bool.not_true,zAP,zFn,qKn,qKr,qKx,qKp,bKn,bKr,bKp,bKx,tKn,tKr,tKx,tKp,zKn,zKr,zKx,zKp]; simp only [eKc,eKn,eKa,Nat.reduceEqDiff,↓reduceIte,gKz,gKs,dKs,and_self,q62,zAW,zAA,qKn,qKr,qKx,qKp,bKn,bKr,bKp,bKx,tKn,tKr,tKx,tKp,zKn,zKr,zKx,zKp]; refine ⟨hlt,trivial,vt,hch3,t3,(hAg.trans (.put rfl)).trans (.put rfl),by rw [zCT (by omega)],hB3,?_,hnw,hpre'⟩; rw [hsucc]; unfold zA1; rw [if_pos hc]; exact htv3
 ·simp only [qKn,qKr,qKx,qKp,bKn,bKr,bKp,bKx,tKn,tKr,tKx,tKp,zKn,zKr,zKx,zKp]; have htk:o.take i=o:=List.take_of_length_le (by omega); rw [htk] at hpre; unfold zET at htv; rw [htk] at htv; have hAg':=hAg.trans (.put rfl:Agree [6,10,12,15,16,60,61] e' (Env.of e' [(63,.bool (decide ((i:Int)<o.length)))])); refine hno hpre _ W' vt hch t' (fun t ht=>hAg' t ?_) hB htv hnw; simp only [List.mem_cons,List.not_mem_nil,or_false] at ht ⊢; rcases ht with rfl | rfl | rfl | rfl | rfl <;> simp
end Go.Ce
namespace Go.Ce
open Go Go.Proofs Go.Proofs.Tryz
theorem zUB {c:List Shp} (hok:zA9 c=true) {s:ByteArray} {i:Nat} (h:zBQ c s=some i):0<s.size:=by
 have hil:=zCF h; obtain ⟨h1,h2,_⟩:=List.findIdx?_eq_some_iff_getElem.1 h; unfold zA9 at hok; simp only [Bool.and_eq_true,Bool.not_eq_true'] at hok; have hb:=zBi hok.2.1 hil; unfold zAk at hb; rw [List.getElem?_eq_getElem hil] at hb; simp only [Bool.or_eq_false_iff,Bool.not_eq_false'] at hb; have:=hb.1.1; unfold zDh at this; simp only [Bool.and_eq_true,decide_eq_true_eq] at this; rw [←of_decide_eq_true h2]; omega
theorem zTd:zCB 1=[1]:=by unfold zCB; rfl
def zTu (c:List Shp) (l:List Spc) (h:List Thg) (o:List Int):Prop:=h.length≤40∨((zBr l (zAF h o)).length≤100∧(zC2 c l h o).length≤3000)
theorem zPM {p:WrP} {W:CW} {vb:Value} {K:zAI} {e:Env} (h:WrEnv p W vb []) (hts:p.ts=zBr p.l (zAF p.h p.o)) (hC:Cat p.c) (hok:zA9 p.c=true) (hs:zAq p.c p.l=true) (H:Hp p.c p.h p.o) (hml:∀ s,s ∈ p.l→s.map.length<100000) (h1000:p.h.length≤1000) (hsm:zTu p.c p.l p.h p.o)
  (g6:e 6=.pointer (some ⟨p.bh,0,none⟩)) (g10:e 10=.pointer (some ⟨p.bk,0,none⟩)) (g12:e 12=.pointer (some ⟨p.br,0,none⟩)) (g15:e 15=.pointer (some ⟨p.bwv,0,none⟩)) (g16:e 16=.pointer (some ⟨p.b16,0,none⟩))
  (hK:∀ e' W' v,Kp p.A W'→Top W'→e' 8=v→e' 9=.int .i64 0→Own W' 5 1 v (zAc (zC2 p.c p.l p.h p.o))→K .ret e' [] W'):(zNN none K) .normal e [] W:=by
 have hol:=H.found.len
 have hsz:∀ s,s ∈ p.ts→0<s.size∧s.size<1000:=fun s hs'=>by
  rw [hts] at hs'
  rcases zGf p.l (zAF p.h p.o) [] hs' with h | ⟨x,hx,rfl⟩
  ·cases h
  ·obtain ⟨i,s,Y⟩:=zCA (zA2 hs (H.ok _ (zLV hx))); exact ⟨zUB hok Y.ti,zSO hC Y.ti⟩
 have htl:p.ts.length≤100:=by
  rcases hsm with hsm | hsm
  ·have h1:=zES p.l (zAF p.h p.o) []; have h2:=zCn p.h p.o; rw [hts]; unfold zBr; simp only [List.length_nil] at h1; omega
  ·rw [hts]; exact hsm.1
 have htx2:(p.ts.flatMap zDy).length≤100*1008:=by
  have htx:=zHy p.ts fun s hs=>(hsz s hs).2; have:p.ts.length*1008≤100*1008:=Nat.mul_le_mul_right _ htl; omega
 have hsum:((zAF p.h p.o).flatMap fun x=>zDW p.c p.ts p.o (zAD p.l x)).length≤161600:=by
  rcases hsm with hsm | hsm
  ·have h1:=zGh (l:=p.l) (t:=p.ts) (o:=p.o) (n:=p.h.length) hok (by omega) (by omega) (zAF p.h p.o) fun x hx=>zA2 hs (H.ok x (by
    unfold zAF at hx; obtain ⟨v,_,hv⟩:=List.mem_flatMap.1 hx
    cases hg:p.h[(v-1).toNat]? with
    | none=>rw [hg] at hv; cases hv
    | some y=>rw [hg] at hv; rw [List.mem_singleton.1 hv]; exact List.mem_of_getElem? hg))
   have h2:=zCn p.h p.o; have h3:(zAF p.h p.o).length*1616≤100*1616:=Nat.mul_le_mul_right _ (by omega); omega
  ·have:=hsm.2; unfold zC2 at this; rw [hts]; simp only [List.length_append] at this; omega
 have q88:∀ (p':WrP) W' vb' bs',WrEnv p' W' vb' bs'→ld prog 88 (.pointer (some ⟨p'.bwv,0,none⟩)) W'=some (.pointer (some ⟨p'.wb,0,none⟩)):=fun p' W' vb' bs' E=>zAB a88 (a:=⟨p'.bwv,0,none⟩) (E.wv.cell rfl); have q51:∀ W' vb' bs',WrEnv p W' vb' bs'→ld prog 51 (.pointer (some ⟨p.b16,0,none⟩)) W'=some p.vt:=fun W' vb' bs' E=>zAB a51 (a:=⟨p.b16,0,none⟩) (E.ty.cell rfl); simp only [zNN,qKn,qKr,qKx,qKp,bKn,bKr,bKp,bKx,tKn,tKr,tKx,tKp,zKn,zKr,zKx,zKp,g6,g10,g12,g15,g16]; rw [q88 p W _ _ h]; simp only [zBX,zD5,zAA]; refine (h.num (n:=1) (by omega) (by simp)).mono fun en W1 ⟨⟨v,he⟩,_,vb1,h1,_⟩=>?_; subst he; simp only [zAK]; rw [q88 p W1 _ _ h1,q51 W1 _ _ h1]; simp only [zBX,zD5,zAA]; rw [zTd] at h1; refine (zSq h1 hsz (by omega) (by simp)).mono fun en W2 ⟨⟨v,he⟩,vb2,h2⟩=>?_; subst he; simp only [zAK]; refine ⟨by simp only [and_self],trivial,?_⟩; refine zMW (zPz h2.top) fun W3 k3 t3=>?_; refine zBx (ws:=[.nilFunc,.func (.func 106) #[] #[],.func (.func 107) #[] #[]]) zYP zWy rfl rfl rfl t3 fun W4 k4 t4 z4 hB4=>?_; have h4:=h2.kp' (k3.trans k4) t4; have E4:WrEnv { p with bd:=W3.sz,bdt:=108,dvs:=[.nilFunc,.func (.func 106) #[] #[],.func (.func 107) #[] #[]] } W4 vb2 ([]++[1]++zCB p.ts.length++p.ts.flatMap zDy):=⟨h4.kp,h4.top,h4.tA,h4.d,h4.wk,h4.wv,h4.ty,h4.tys,hB4,⟨(by decide:(108:Nat)≠97),(by decide:(108:Nat)≠5)⟩,h4.buf,h4.ge⟩
 have l89:ld prog 89 (.pointer (some ⟨p.wb,0+1,none⟩)) W4=some (.pointer (some ⟨p.bw,0,none⟩)):=zAB a89 (a:=⟨p.wb,0+1,none⟩) (h4.buf.b.cell rfl); have l40:ld prog 40 (.pointer (some ⟨p.bw,0,none⟩)) W4=some p.vo:=zAB a40 (a:=⟨p.bw,0,none⟩) (h4.wk.w.cell rfl); rw [q88 p W4 _ _ h4]; simp only [zBX,zD5,zM9,zAA]; rw [l89]; simp only [zBX,zHf,zAA]; rw [l40]; simp only [zAA]; have hn8:=zBg (n:=p.ts.length) (by omega)
 refine (zSr E4 hC hok hs H hml h1000 hsum (by show p.ts.length<100000; omega) (fun x hx=>by
  show p.ts.any _=true
  rw [hts]; exact zLA p.l _ [] x hx) (by simp only [List.length_append,List.length_cons,List.length_nil]; omega) rfl).mono fun en W5 ⟨⟨v,he⟩,vb5,h5⟩=>?_
 subst he; simp only [zAK]; refine ⟨by simp only [and_self],trivial,?_⟩; rw [q88 _ W5 _ _ h5]; simp only [zBX,zD5,zKO,zAA]; have l29:ld prog 29 (.pointer (some ⟨p.wb,0,none⟩)) W5=some vb5:=h5.buf.ld; rw [l29]; simp only [zAA]; refine hK _ W5 vb5 h5.kp h5.top rfl rfl ?_; have:=h5.buf.own; unfold zC2; rw [←hts]
 simpa using this
end Go.Ce
namespace Go.Ce
open Go Go.Proofs Go.Proofs.Tryz
theorem s97:siz prog 97=some 4:=by kernel_rfl
theorem s88:siz prog 88=some 1:=by kernel_rfl
theorem z51:zer prog 51=some (.slice none 0 0):=by kernel_rfl
theorem zYC (a:Addr) (r1 r2:Nat):bld prog 97 [(1,.pointer (some a)),(2,.agg [.map (some r1),.map (some r2)].toArray)]=some (.agg [.slice none 0 0,.pointer (some a),.map (some r1),.map (some r2)].toArray):=by kernel_rfl
theorem zAY {K:Value→CW→Prop} {KP:List PanicEntry→CW→Prop} {v:Value} {W:CW} (h:K v W):zAK K KP (.returned v) W:=h
theorem zRq {c:List Shp} {l:List Spc} {h:List Thg} {root:Int} (hc:zA9 c=true) (hs:zAq c l=true):zKt c l h root=zEa c h root:=by
 unfold zKt zEa zLG; rw [hc,hs]; rfl
theorem zOj {v0 v1 v2:Value} {c:List Shp} {l:List Spc} {h:List Thg} {root:Int} {W:CW} (ht:Top W) (hc:IsSl 5 (RShp W) v0 c) (hC:Cat c) (hl:IsSl 3 (RSpc W) v1 l) (hll:l.length<100000) (hml:∀ s,s ∈ l→s.map.length<100000) (hh:IsSl 2 (RThg W) v2 h) (hhl:h.length<100000) (hh40:h.length≤40∨1000<h.length∨(zKt c l h root=0→zKu l h (zAd c l h root)=false→zTu c l h (zAd c l h root))) (hv:∀ x,x ∈ h→x.vals.length<100000) :
  WCall prog pkL 17 [v0,v1,v2,.int .i64 root] W (zMQ (zCK c l h root) W):=by
 refine zXz ?_; rw [zX0]; obtain ⟨ah,ch,rfl,_⟩:=id hh; refine zDC s24 ht fun W0 k0 t0 z0 hB6=>?_; have hB6:Blk W0 W.sz 24 [.slice ah h.length ch]:=hB6; refine (zHd t0 (hc.imp fun _ _ _ hr=>hr.kp ht k0) hC).mono fun en W1 ⟨k1,t1,r1,r2,hen,hr1,hr2,hcat⟩=>?_; subst hen; refine zAY ?_; refine zAu (zBF _ _) ?_; refine zAu (zBE _ _) ?_; unfold zI2; refine zBx (ws:=[.map (some r1),.map (some r2)]) z78 s78 rfl rfl rfl t1 fun W4 k4 t4 z4 hB10=>?_; have k04:=(k0.trans k1).trans k4; generalize hKK:zAE prog Tryz.f17 (zMQ (zCK c l h root) W)=KK
 have hfin:∀ (e':Env) W' v n,Kp W W'→Top W'→e' 8=v→e' 9=.int .i64 n→Own W' 5 1 v (zAc (zCK c l h root).1)→(zCK c l h root).2=n→KK .ret e' [] W':=by
  intro e' W' v n k t h8 h9 ho hn; rw [←hKK,zRO,h8,h9]; exact ⟨k,t,v,by rw [hn],ho⟩
 simp only [zAR,zAA]
 cases hok:zA9 c with
 | false =>
  simp only [Bool.not_false,zAn]
  have hw:zCK c l h root=([],210):=by
   unfold zCK zKt zLG; rw [hok]; rfl
  exact hfin _ W4 _ 210 k04 t4 rfl rfl (by rw [hw]; exact Own.nil) (by rw [hw])
 | true =>
  simp only [Bool.not_true,zAP]; have hcat4:=(hcat hok).kp t1 k4; rw [zMz hB10]; simp only [zAA]; refine (zNs t4 hcat4 hC (hl.imp fun _ _ _ hr=>hr.kp ht k04) hll hml).mono fun en W5 ⟨k5,t5,w,r,hen,hsp⟩=>?_; subst hen; refine zAY ?_; refine zAu (zBF _ _) ?_; refine zAu (zBE _ _) ?_; refine zBx (ws:=[.map (some w),.map (some r)]) z83 s83 rfl rfl rfl t5 fun W8 k8 t8 z8 hB12=>?_; have k48:=k5.trans k8; have k08:=k04.trans k48; simp only [zAR,zAA]
  cases hs:zAq c l with
  | false =>
   simp only [Bool.not_false,zAn]
   have hw:zCK c l h root=([],212):=by
    unfold zCK zKt zLG; rw [hok,hs]; rfl
   exact hfin _ W8 _ 212 k08 t8 rfl rfl (by rw [hw]; exact Own.nil) (by rw [hw])
  | true =>
   simp only [Bool.not_true,zAP]; have l24:ld prog 24 (.pointer (some ⟨W.sz,0,none⟩)) W8=some (.slice ah h.length ch):=zAB a24 (a:=⟨W.sz,0,none⟩) (((k1.trans k4).trans k48).cell t0 (hB6.cell rfl)); rw [l24]; simp only [zAA]; refine (zQL t8 (hc.imp fun _ _ _ hr=>hr.kp ht k08) hC (hh.imp fun _ _ _ hr=>hr.kp ht k08) hv (by omega)).mono fun en W9 ⟨k9,t9,r1',r2',hen,hcat9⟩=>?_; subst hen; refine zAY ?_; refine zAu (zBF _ _) ?_; refine zAu (zBE _ _) ?_; unfold zI2; refine zBx (ws:=[.map (some r1'),.map (some r2')]) z78 s78 rfl rfl rfl t9 fun A k12 tA z12 hB13=>?_; have k8A:=k9.trans k12; have k0A:=k08.trans k8A; have hask:=zRq (h:=h) (root:=root) hok hs; rw [←hask]; simp only [zBW,zAA]
   by_cases hz:zKt c l h root=0
   ·obtain ⟨_,_,hthi,hr0,hr1⟩:=zDS hz; obtain ⟨h1000,hthok⟩:=zDl hthi; simp only [hz,bne_self_eq_false,zAP,zAA]; obtain ⟨hsw,hsr⟩:=hsp hs; have D:Wr1At A W1.sz W5.sz W.sz r1 r2 w r c l h:=⟨(hB10.ext t4 (k48.trans k8A)).cells,(hB12.ext t8 k8A).cells,hcat4.kp t4 (k48.trans k8A),hsw.kp t5 (k8.trans k8A),_,(((k1.trans k4).trans k48).trans k8A).cell t0 (hB6.cell rfl),hh.imp fun _ _ _ hr=>hr.kp ht k0A⟩
    have hrA:SpM Spc.to A r l:=hsr.kp t5 (k8.trans k8A); have kn:Kp A (A.new (.cells .nil 1 #[.pointer none] 88)):=.new _; have tn:=tA.new (.cells .nil 1 #[.pointer none] 88); have hon:(A.new (.cells .nil 1 #[.pointer none] 88)).obj A.sz=some (.cells .nil 1 #[.pointer none] 88):=by rw [zAp,if_pos rfl]
    have hBn:Blk (A.new (.cells .nil 1 #[.pointer none] 88)) A.sz 88 [.pointer none]:=⟨.nil,1,_,hon,rfl,fun k v hk=>by
     match k,hk with
     | 0,hk=>cases hk; rfl⟩
    have hszn:(A.new (.cells .nil 1 #[.pointer none] 88)).sz=A.sz+1:=rfl; have hfl:∀ W0:CW,W0.obj A.sz=some (.cells .nil 1 #[.pointer none] 88)→zM7 (.pointer (some ⟨A.sz,0,none⟩)) ((A.new (.cells .nil 1 #[.pointer none] 88)).obj A.sz) W0=true:=fun W0 h0=>zGC h0 rfl; generalize hAn:A.new (.cells .nil 1 #[.pointer none] 88)=An at kn tn hon hBn hszn hfl ⊢
    refine (zPq (refs:=zDp c l h) (N:=h.length) tn hr0 hr1 hhl (fun n _ _=>zMn hok hs hthok) (fun n=>zSS hC hs hthok n) (fun n W' k' t' hn0 hn1 K KP hk=>?_)).mono fun en W13 ⟨k13,t13,bw,rp,vo,hen,hwk,hbw,hrp,hnvo,hF⟩=>?_
    ·refine zDd Tryz.func51 (by kernel_rfl) ((zPp t' (D.kp tA (kn.trans k')) hC hs hthok hml hn0 hn1 hhl).mono fun en W2 ⟨k2,t2,vr,hen,hvr,hnr⟩=>?_); subst hen; exact hk vr W2 k2 t2 hvr hnr
    subst hen; have hfo:zBH (zDp c l h) h.length (start root) 0=zAd c l h root:=rfl; rw [hfo] at hwk hF; generalize ho:zAd c l h root=o at hwk hF; refine zAY ?_; have kA13:=kn.trans k13; have lA:∀ W',Kp A W'→ld prog 78 (.pointer (some ⟨W1.sz,0,none⟩)) W'=some (.agg [.map (some r1),.map (some r2)].toArray):=fun W' k=>zA8 (vs:=[.map (some r1),.map (some r2)]) (a:=⟨W1.sz,0,none⟩) a78 s78 rfl (by omega) (D.kp tA k).k; rw [lA W13 kA13]; simp only [zAA]; refine zAu (zYC _ _ _) ?_; refine zDC s97 t13 fun W15 k15 t15 z15 hBb=>?_; have hBb:Blk W15 W13.sz 97 [.slice none 0 0,.pointer (some ⟨bw,0,none⟩),.map (some r1),.map (some r2)]:=hBb; have hBn15:=hBn.ext tn (k13.trans k15); refine ⟨trivial,?_⟩; refine zAX s88 (a:=⟨A.sz,0,none⟩) (v:=.pointer (some ⟨W13.sz,0,none⟩)) rfl hBn15 (by simp) fun W16 hu hB88=>?_; have hu:Upd A.sz W15 W16:=hu; have hB88:Blk W16 A.sz 88 [.pointer (some ⟨W13.sz,0,none⟩)]:=hB88; have hAl:=hBn15.lt t15; have h13l:A.sz<W13.sz:=by have:=k13.sz; omega
    refine ⟨by simp only [lA W13 kA13,lA An kn,and_self],?_⟩; refine ⟨⟨⟨trivial,hfl W15 (by rw [(k13.trans k15).obj _ (by omega)]; exact hon),hfl W13 (by rw [k13.obj _ (by omega)]; exact hon),hfl An hon⟩,trivial⟩,?_⟩; have t16:=t15.upd hAl hu; refine zFa z51 s51 t16 fun W17 k17 t17 z17 hB16=>?_; have hB16:Blk W17 W16.sz 51 [.slice none 0 0]:=hB16; have z16:W16.sz=W13.sz+1:=by rw [hu.sz,z15]
    have kA17:Kp A W17:=((kA13.trans k15).upd (Nat.le_refl _) hu).trans k17; have hobj:∀ j,j<W15.sz→j≠A.sz→W17.obj j=W15.obj j:=fun j hj hne=>by rw [k17.obj j (by rw [hu.sz]; exact hj),hu.obj j hne]
    have hobj13:∀ j,j<W13.sz→j≠A.sz→W17.obj j=W13.obj j:=fun j hj hne=>by rw [hobj j (by omega) hne,k15.obj j hj]
    have hvo17:Own W17 3 1 vo (zCt o):=zIv hwk.own fun j hj=>hobj13 j (zH7 t13 hwk.own hj) (by obtain ⟨b,l',c',e1,e2⟩:=hj; have:=hnvo b l' c' e1; omega); have hw17:Blk W17 bw 100 [vo,.map (some rp)]:=hwk.w.congr (hobj13 _ (hwk.w.lt t13) (by omega)); have hb17:Blk W17 W13.sz 97 [.slice none 0 0,.pointer (some ⟨bw,0,none⟩),.map (some r1),.map (some r2)]:=hBb.congr (hobj _ (by omega) (by omega)); have hp17:PlM W17 rp o:=hwk.p.congr (hobj13 _ (hwk.p.lt t13) (by omega)); have hv17:Blk W17 A.sz 88 [.pointer (some ⟨W13.sz,0,none⟩)]:=hB88.ext t16 k17; have l88:ld prog 88 (.pointer (some ⟨A.sz,0,none⟩)) W17=some (.pointer (some ⟨W13.sz,0,none⟩)):=zAB a88 (a:=⟨A.sz,0,none⟩) (hv17.cell rfl); have l89:ld prog 89 (.pointer (some ⟨W13.sz,0+1,none⟩)) W17=some (.pointer (some ⟨bw,0,none⟩)):=zAB a89 (a:=⟨W13.sz,0+1,none⟩) (hb17.cell rfl); have l40:ld prog 40 (.pointer (some ⟨bw,0,none⟩)) W17=some vo:=zAB a40 (a:=⟨bw,0,none⟩) (hw17.cell rfl); have hol:=hF.len; have hil:(zCt o).length=o.length*1:=by unfold zCt; rw [List.length_map]; omega
    rw [l88]; simp only [zBX,zM9,zAA]; rw [l89]; simp only [zBX,zHf,zAA]; rw [l40]; simp only [zAA]; rw [zEK u40 hvo17 (by omega) hil]; simp only [zAA]; have hH:Hp c h o:=⟨hF,hhl,hthok⟩
    have I:TyAt A W1.sz W5.sz W.sz r1 r2 w r c l h o:=⟨tA,D,hrA,hs,hml,hH⟩
    have b16lt:W13.sz≤W16.sz:=by omega
    refine zRN I kA17 t17 hB16 (by omega) hvo17 rfl rfl rfl rfl rfl rfl (fun hb e' W' k' t' q8 q9=>?_) (fun hb e' W' vt hch t' hAg hBt htv hnw=>?_)
    ·simp only [qKn,qKr,qKx,qKp,bKn,bKr,bKp,bKx,tKn,tKr,tKx,tKp,zKn,zKr,zKx,zKp]
     have hw:zCK c l h root=([],214):=by
      unfold zCK; rw [if_neg (by simp [hz]),ho,if_pos hb]
     exact hfin _ W' _ 214 (k0A.trans k') t' q8 q9 (by rw [hw]; exact Own.nil) (by rw [hw])
    ·simp only [qKn,qKr,qKx,qKp,bKn,bKr,bKp,bKx,tKn,tKr,tKx,tKp,zKn,zKr,zKx,zKp,if_true]; have hb':¬zKu l h o=true:=by rw [hb]; simp
     have hw:zCK c l h root=(zC2 c l h o,0):=by
      unfold zCK; rw [if_neg (by simp [hz]),ho,if_neg hb']
     have hoj:∀ j,j<W16.sz→W'.obj j=W17.obj j:=fun j hj=>hch.obj j (by omega) (by omega)
     have E:WrEnv { A:=A,bk:=W1.sz,br:=W5.sz,bh:=W.sz,bwv:=A.sz,b16:=W16.sz,bd:=A.sz,wb:=W13.sz,bw:=bw,rp:=rp,r1:=r1,r2:=r2,w:=w,r:=r,vt:=vt,vo:=vo,bdt:=88,dvs:=[.pointer (some ⟨W13.sz,0,none⟩)],c:=c,l:=l,h:=h,o:=o,ts:=zBr l (zAF h o) } W' (.slice none 0 0) [] :=
      ⟨Chg.kp kA17 hch fun j hj=>by have hj:j=W16.sz:=hj; show A.sz≤j; omega,t',tA,D,⟨hw17.congr (hoj _ (by have:=hwk.w.lt t13; omega)),zIv hvo17 fun j hj=>hoj j (by have:=zH7 t13 hwk.own hj; omega),hp17.congr (hoj _ (by have:=hwk.p.lt t13; omega))⟩,hv17.congr (hoj _ (by omega)),hBt,htv,hv17.congr (hoj _ (by omega)),⟨(by decide:(88:Nat)≠97),(by decide:(88:Nat)≠5)⟩,⟨hb17.congr (hoj _ (by omega)),Own.nil⟩,by show A.sz≤W13.sz; omega,fun j hj=>by obtain ⟨_,_,_,e1,_⟩:=hj; cases e1⟩
     refine zPM E rfl hC hok hs hH hml h1000 (by
      rcases hh40 with h40 | h40 | h40
      ·exact .inl h40
      ·omega
      ·rw [←ho]; exact h40 hz (by rw [ho]; exact hb)) ((hAg 6 (by decide)).trans rfl) ((hAg 10 (by decide)).trans rfl) ((hAg 12 (by decide)).trans rfl) ((hAg 15 (by decide)).trans rfl) ((hAg 16 (by decide)).trans rfl) fun e2 W2 v k2 t2 h8 h9 hov=>?_
     exact hfin _ W2 v 0 (k0A.trans k2) t2 h8 h9 (by rw [hw]; exact hov) (by rw [hw])
   ·simp only [show (zKt c l h root != 0)=true from by simpa using hz,zAn]
    have hw:zCK c l h root=([],zKt c l h root):=by
     unfold zCK; rw [if_pos hz]
    exact hfin _ A _ (zKt c l h root) k0A tA rfl rfl (by rw [hw]; exact Own.nil) (by rw [hw])
end Go.Ce
namespace Go.Ce
open Go Go.Proofs Go.Proofs.Tryz
def zB5 (e:Int):List PanicEntry:=[{ v:=.iface 167 (.agg #[.int .i64 e]),recovered:=false }]
theorem zWd (e:Int):bld prog 167 [(0,.int .i64 e)]=some (.agg #[.int .i64 e]):=by kernel_rfl
theorem zVE (v:Value):mki prog 167 v=some (.iface 167 v):=by kernel_rfl
theorem zYh:siz prog 170=some 2:=by kernel_rfl
theorem zOB (a:Addr):fad prog 170 (.pointer (some a)) 0=some (.pointer (some ⟨a.block,a.off,none⟩)):=by kernel_rfl
theorem zOA (a:Addr):fad prog 170 (.pointer (some a)) 1=some (.pointer (some ⟨a.block,a.off+1,none⟩)):=by kernel_rfl
theorem a3':agg? prog 3=some false:=by kernel_rfl
theorem zBt {K:Value→CW→Prop} {KP:List PanicEntry→CW→Prop} {ch:List PanicEntry} {W:CW} (h:KP ch W):zAK K KP (.panicked ch) W:=h
theorem zWS (n:Int):cvw prog 5 3 (.int .u8 n)=some (.int .i64 (IntKind.i64.wrap n)):=by kernel_rfl
theorem zX7 (x:UInt8):cvw prog 5 3 (.int .u8 x.toNat)=some (.int .i64 ((x.toNat:Nat):Int)):=by
 have:=x.toNat_lt; rw [zWS,zBU (by omega) (by omega)]
theorem zDU {b:Bool} {e:Int} {W:CW} {K:Value→CW→Prop} {KP:List PanicEntry→CW→Prop} (hk:b=true→K (.tuple #[]) W) (hp:b=false→KP (zB5 e) W):WCall prog pkL 76 [.bool b,.int .i64 e] W (zAK K KP):=by
 refine zXG ?_; rw [zXH]; simp only [zAR,zAA]
 cases b with
 | true =>
  simp only [Bool.not_true,zAP]; exact zEm (by kernel_rfl) _ _ (.inl rfl) _ _ (hk rfl)
 | false =>
  simp only [Bool.not_false,zAn]; refine zAu (zWd _) ?_; refine zAu (zVE _) ?_; exact hp rfl
structure RdIn (A:CW) (vb:Value) (b:List UInt8):Prop where
 top:Top A
 sl:∃ a cap,vb=.slice a b.length cap∧b.length≤cap∧∀ i x,b[i]?=some x→∃ p,a=some p∧RByte A p.block (p.off+i*1) x
 lim:b.length≤100000
structure Rd (A W:CW) (rb:Nat) (vb:Value) (at_:Nat):Prop where
 kp:Kp A W
 top:Top W
 hb:A.sz≤rb
 blk:Blk W rb 170 [vb,.int .i64 at_]
def RdS (rb j:Nat):Prop:=j=rb
theorem Rd.ld0 {A W:CW} {rb at_:Nat} {vb:Value} (h:Rd A W rb vb at_):ld prog 29 (.pointer (some ⟨rb,0,none⟩)) W=some vb:=zAB a29 (a:=⟨rb,0,none⟩) (h.blk.cell rfl)
theorem Rd.ld1 {A W:CW} {rb at_:Nat} {vb:Value} (h:Rd A W rb vb at_):ld prog 3 (.pointer (some ⟨rb,0+1,none⟩)) W=some (.int .i64 at_):=zAB a3' (a:=⟨rb,0+1,none⟩) (h.blk.cell rfl)
theorem Rd.kp' {A W W':CW} {rb at_:Nat} {vb:Value} (h:Rd A W rb vb at_) (k:Kp W W') (t:Top W'):Rd A W' rb vb at_:=⟨h.kp.trans k,t,h.hb,h.blk.ext h.top k⟩
def zEW (b:List UInt8) (at_ n:Nat):Except Int Nat:=if at_+n≤b.length then .ok (at_+n) else .error 4
def zHU {α:Type} (A:CW) (rb:Nat) (vb:Value) (R:Value→α→CW→Prop) (r:Except Int (α × Nat)) (W:CW):Ending→CW→Prop:=fun en W'=>Chg (RdS rb) W W'∧Top W'∧match r with
 | .ok (x,at')=>∃ v,en=.returned v∧R v x W'∧Rd A W' rb vb at'
 | .error e=>en=.panicked (zB5 e)
theorem zWx {a:Option Addr} {len cap lo hi:Nat} (h1:lo≤hi) (h2:hi≤cap) (W:CW):∃ a',slc prog 29 (.slice a len cap) (some (.int .i64 lo)) (some (.int .i64 hi)) (some (.int .i64 hi)) W=some (.slice a' (hi-lo) (hi-lo))∧(lo<hi→∀ p,a=some p→∃ p',a'=some p'∧p'.block=p.block∧p'.off=p.off+lo):=by
 refine ⟨cond (Nat.beq hi lo) a (a.map fun a=>⟨a.block,a.off+lo*1,none⟩),?_,fun hlt p hp=>?_⟩
 ·have hbd:∀ n y d:Nat,n≤y→zEQ (some (.int .i64 (n:Int))) d y=some n:=by
   intro n y d h; simp only [zEQ]; rw [show (decide ((0:Int)≤(n:Int)) && decide ((n:Int)≤(y:Int)))=true by simp; omega]; simp
  unfold slc; rw [u29]; simp only [zJn,u29,zCc,s5,hbd hi cap cap h2,hbd hi hi len (Nat.le_refl _),hbd lo hi 0 h1]; rw [show Nat.ble hi hi=true from Nat.ble_eq_true_of_le (by omega)]; rfl
 ·have hb:Nat.beq hi lo=false:=by
   cases hq:Nat.beq hi lo with
   | false=>rfl
   | true=>have:=Nat.eq_of_beq_eq_true hq; omega
  subst hp; rw [hb]; exact ⟨_,rfl,rfl,by show p.off+lo*1=_; rw [Nat.mul_one]⟩
theorem zP7 {A W:CW} {rb at_ n:Nat} {vb:Value} {b:List UInt8} (I:RdIn A vb b) (h:Rd A W rb vb at_) (ha:at_≤b.length) (hn:n≤100000) :
  WCall prog pkL 121 [.pointer (some ⟨rb,0,none⟩),.int .i64 n] W (zHU A rb vb (fun v x _=>IsSl 1 (RByte A) v x) (match zEW b at_ n with | .ok at'=>.ok ((b.drop at_).take n,at') | .error e=>.error e) W):=by
 have hlim:=I.lim; obtain ⟨a,cap,hvb,hcap,hbt⟩:=I.sl; refine zVw ?_; rw [zVx]; simp only [zBX,zOB,zOA,zAA,h.ld0,h.ld1]; subst hvb; rw [zAT u29]; simp only [zAA,zCD,zEJ]; rw [zBU (by omega) (by omega)]
 have hd:decide ((b.length:Int)-(at_:Int)≥(n:Int))=decide (at_+n≤b.length):=by
  by_cases hq:at_+n≤b.length
  ·rw [decide_eq_true hq,decide_eq_true (by omega)]
  ·rw [decide_eq_false hq,decide_eq_false (by omega)]
 rw [hd]
 refine zDU (fun hb=>?_) (fun hb=>?_)
 ·have hle:=of_decide_eq_true hb; have htk:zEW b at_ n=.ok (at_+n):=by unfold zEW; rw [if_pos hle]
  refine ⟨by simp,trivial,?_⟩; simp only [h.ld1,zAW,zAA]; rw [zBU (by omega) (by omega)]; refine zAX s3 (a:=⟨rb,0+1,none⟩) (v:=.int .i64 ((at_:Int)+(n:Int))) rfl h.blk (by simp) fun W2 hu hB=>?_; have hu:Upd rb W W2:=hu
  have hB:Blk W2 rb 170 [.slice a b.length cap,.int .i64 ((at_+n:Nat):Int)]:=by
   have:((at_+n:Nat):Int)=(at_:Int)+(n:Int):=by omega
   rw [this]
   simpa [zDz] using hB
  have hW2:Rd A W2 rb (.slice a b.length cap) (at_+n):=⟨h.kp.upd h.hb hu,h.top.upd (h.blk.lt h.top) hu,h.hb,hB⟩
  simp only [hW2.ld0,hW2.ld1,zAA,zCD]; rw [show (((at_+n:Nat):Int)-(n:Int))=((at_:Nat):Int) by omega,zBU (by omega) (by omega)]; obtain ⟨a',hs,hp⟩:=zWx (a:=a) (len:=b.length) (show at_≤at_+n by omega) (show at_+n≤cap by omega) W2; rw [hs]; simp only [zAA]; refine ⟨by simp,trivial,?_⟩; rw [zPP,htk]; refine ⟨hu.chg,hW2.top,_,rfl,?_,hW2⟩; have hlen:((b.drop at_).take n).length=n:=by rw [List.length_take,List.length_drop]; omega
  refine ⟨a',n,by rw [hlen,show at_+n-at_=n by omega]; rfl,fun i x hx=>?_⟩; have hi:i<n:=by have:=(List.getElem?_eq_some_iff.1 hx).1; omega
  rw [List.getElem?_take,if_pos hi,List.getElem?_drop] at hx; obtain ⟨p,hpa,hr⟩:=hbt _ x hx; obtain ⟨p',hp1,hp2,hp3⟩:=hp (by omega) p hpa; refine ⟨p',hp1,?_⟩; rw [hp2,hp3]
  rwa [show p.off+at_+i*1=p.off+(at_+i)*1 by omega]
 ·have hle:=of_decide_eq_false hb; have htk:zEW b at_ n=.error 4:=by unfold zEW; rw [if_neg hle]
  refine ⟨by simp,?_⟩; rw [htk]; exact ⟨.refl _ _,h.top,rfl⟩
def zLT (b:List UInt8):Nat→Nat→Nat→Nat→Except Int (Nat × Nat)
 | 0,_,_,_=>.error 4
 | f+1,at_,n,sh=>match b[at_]? with
  | none=>.error 4
  | some x=>if x.toNat<128 then (if 0<x.toNat∨sh=0 then .ok (n+x.toNat*2 ^ sh,at_+1) else .error 4)
   else zLT b f (at_+1) (n+(x.toNat % 128)*2 ^ sh) (sh+7)
def zER (b:List UInt8) (at_:Nat) (most:Int):Except Int (Nat × Nat):=match zLT b 6 at_ 0 0 with
 | .error e=>.error e
 | .ok (n,at')=>if (n:Int)≤most then .ok (n,at') else .error 4
theorem zTM (y sh:Nat) (hy:y<128) (hs:sh≤35):zAL prog .shl 3 false (.int .i64 y) (.int .i64 sh)=some (.int .i64 ((y*2 ^ sh:Nat):Int)):=by
 have h1:zAL prog .shl 3 false (.int .i64 y) (.int .i64 sh)=cond (decide ((sh:Int)<0)) none (some (.int .i64 (IntKind.i64.wrap ((y:Int)*2 ^ (min (sh:Int).toNat 64))))):=rfl; rw [h1,show decide ((sh:Int)<0)=false by simp]; have h2:min (sh:Int).toNat 64=sh:=by rw [Int.toNat_natCast]; omega
 rw [h2]; have h3:2 ^ sh≤2 ^ 35:=Nat.pow_le_pow_right (by omega) hs; have h4:y*2 ^ sh≤127*2 ^ 35:=Nat.mul_le_mul (by omega) h3; have h5:(y:Int)*2 ^ sh=((y*2 ^ sh:Nat):Int):=by simp
 rw [h5]; simp only [cond_false]; rw [zBU (by omega) (by omega)]
theorem zUl (n y sh:Nat) (hn:n<2 ^ sh) (hy:y<128) (hs:sh≤35):zAL prog .or 3 false (.int .i64 n) (.int .i64 ((y*2 ^ sh:Nat):Int))=some (.int .i64 ((n+y*2 ^ sh:Nat):Int)):=by
 have h3:2 ^ sh≤2 ^ 35:=Nat.pow_le_pow_right (by omega) hs; have h4:y*2 ^ sh≤127*2 ^ 35:=Nat.mul_le_mul (by omega) h3; have h1:zAL prog .or 3 false (.int .i64 n) (.int .i64 ((y*2 ^ sh:Nat):Int))=some (.int .i64 (IntKind.i64.wrap ((BitVec.ofInt 64 (n:Int) ||| BitVec.ofInt 64 ((y*2 ^ sh:Nat):Int)).toNat))):=rfl; rw [h1]
 have h5:(BitVec.ofInt 64 (n:Int) ||| BitVec.ofInt 64 ((y*2 ^ sh:Nat):Int)).toNat=n+y*2 ^ sh:=by
  rw [BitVec.toNat_or,BitVec.ofInt_natCast,BitVec.ofInt_natCast,BitVec.toNat_ofNat,BitVec.toNat_ofNat,Nat.mod_eq_of_lt (by omega),Nat.mod_eq_of_lt (by omega)]; have:=Nat.shiftLeft_add_eq_or_of_lt hn y; rw [Nat.shiftLeft_eq] at this; rw [Nat.or_comm,←this,Nat.add_comm]
 rw [h5,zBU (by omega) (by omega)]
end Go.Ce
namespace Go.Ce
open Go Go.Proofs Go.Proofs.Tryz
theorem zSM {b:List UInt8} {at_:Nat} {x:UInt8} (hx:b[at_]?=some x):(b.drop at_).take 1=[x]:=by
 have hlt:=(List.getElem?_eq_some_iff.1 hx).1; apply List.ext_getElem?; intro i
 cases i with
 | zero=>rw [List.getElem?_take,if_pos (by omega),List.getElem?_drop]; exact hx
 | succ i=>rw [List.getElem?_take,if_neg (by omega)]; rfl
theorem zEb {A W:CW} {rb at_:Nat} {most:Int} {vb:Value} {b:List UInt8} (I:RdIn A vb b) (h:Rd A W rb vb at_) (ha:at_≤b.length) :
  WCall prog pkL 110 [.pointer (some ⟨rb,0,none⟩),.int .i64 most] W (zHU A rb vb (fun v n _=>v=.int .i64 ((n:Nat):Int)) (zER b at_ most) W):=by
 refine zV4 ?_; rw [zV5]; generalize hKK:zAE prog Tryz.f110 (zHU A rb vb (fun v n _=>v=.int .i64 ((n:Nat):Int)) (zER b at_ most) W)=KK
 have hpan:∀ (e:Env) W',Chg (RdS rb) W W'→Top W'→zER b at_ most=.error 4→KK (.panic (zB5 4)) e [] W':=by
  intro e W' hc ht hn; rw [←hKK]; show zHU A rb vb (fun v n _=>v=.int .i64 ((n:Nat):Int)) (zER b at_ most) W (.panicked (zB5 4)) W'; rw [hn]; exact ⟨hc,ht,rfl⟩
 have hgo:∀ (e:Env) W' n at',Chg (RdS rb) W W'→Rd A W' rb vb at'→e 1=.int .i64 most→e 5=.int .i64 (n:Nat)→zLT b 6 at_ 0 0=.ok (n,at')→(zFp none KK) .normal e [] W':=by
  intro e W' n at' hc hr h1 h5 hn; simp only [zFp,qKn,qKr,qKx,qKp,bKn,bKr,bKp,bKx,tKn,tKr,tKx,tKp,zKn,zKr,zKx,zKp,h1,h5,zEI,zAA]
  refine zDU (fun hb=>?_) (fun hb=>?_)
  ·have hle:=of_decide_eq_true hb; rw [←hKK,zPR]; refine ⟨hc,hr.top,?_⟩; have:zER b at_ most=.ok (n,at'):=by unfold zER; rw [hn]; simp only; rw [if_pos (by omega)]
   rw [this]; refine ⟨_,rfl,?_,hr⟩; simp only [eKc,eKn,eKa,Nat.reduceEqDiff,↓reduceIte,gKz,gKs,dKs,and_self,h5]
  ·have hle:=of_decide_eq_false hb; refine hpan _ W' hc hr.top ?_; unfold zER; rw [hn]; simp only; rw [if_neg (by omega)]
 refine zPt (fun k e ds W'=>Chg (RdS rb) W W'∧ds=[]∧1≤k∧k≤6∧∃ at' n sh:Nat,Rd A W' rb vb at'∧at'≤b.length∧e 0=.pointer (some ⟨rb,0,none⟩)∧e 1=.int .i64 most∧e 5=.int .i64 n∧e 6=.int .i64 sh∧sh=7*(6-k)∧n<2 ^ sh∧zLT b 6 at_ 0 0=zLT b k at' n sh) 6 ⟨.refl _ _,rfl,by omega,by omega,at_,0,0,h,ha,rfl,rfl,rfl,rfl,rfl,by omega,rfl⟩ ?_; rintro k e ds W' ⟨hc,rfl,hk1,hk6,at',n,sh,hr,hat,h0,h1,h5,h6,hsh,hn,hG⟩; obtain ⟨f,rfl⟩:∃ f,k=f+1:=⟨k-1,by omega⟩
 rw [zUh,h0]; refine (zP7 (n:=1) I hr hat (by omega)).mono fun en W1 ⟨hc1,t1,hp⟩=>?_; have hc':Chg (RdS rb) W W1:=hc.then hc1 fun _ _ h=>h
 cases hx:b[at']? with
 | none =>
  have hge:b.length≤at':=by
   by_cases hq:b.length≤at'
   ·exact hq
   ·rw [List.getElem?_eq_getElem (by omega)] at hx; cases hx
  have htk:zEW b at' 1=.error 4:=by unfold zEW; rw [if_neg (by omega)]
  rw [htk] at hp; have hp:en=.panicked (zB5 4):=hp; subst hp; refine zBt ?_; simp only [tKp,bKp,zFp,qKp]; refine hpan _ W1 hc' t1 ?_; unfold zER; rw [hG,zLT,hx]
 | some x =>
  have hlt:=(List.getElem?_eq_some_iff.1 hx).1; have htk:zEW b at' 1=.ok (at'+1):=by unfold zEW; rw [if_pos (by omega)]
  rw [htk] at hp; obtain ⟨v,rfl,hv,hr1⟩:=hp; rw [zSM hx] at hv; obtain ⟨a,cap,rfl,hv⟩:=hv; obtain ⟨p,rfl,hbx⟩:=hv 0 x rfl; refine zAY ?_; have hiad:iad prog 29 (.slice (some p) [x].length cap) (.int .i64 0)=some (.pointer (some ⟨p.block,p.off+0*1,none⟩)):=zAb (i:=0) u29 s5 (by simp); refine zAu hiad ?_; have hbx1:W1.cell p.block (p.off+0*1)=some (.int .u8 x.toNat):=hr1.kp.cell I.top hbx; refine zAu (zAB a5 (a:=⟨p.block,p.off+0*1,none⟩) hbx1) ?_; have hx256:x.toNat<256:=x.toNat_lt; refine zAu (v:=.int .i64 ((x.toNat:Nat):Int)) (zX7 x) ?_; refine zAu (zKl _ _ _ (by decide)) ?_; rw [show ((x.toNat:Int).tmod 128)=((x.toNat % 128:Nat):Int) by rw [Int.tmod_eq_emod_of_nonneg (by omega)]; rfl]; have hy:x.toNat % 128<128:=Nat.mod_lt _ (by omega); have hs35:sh≤35:=by omega
  rw [h6,h5]; refine zAu (zTM _ _ hy hs35) ?_; refine zAu (zUl _ _ _ hn hy hs35) ?_; refine zAu (zAW _ _ _) ?_; rw [zBU (by omega) (by omega)]; refine zAu (zAZ _ _ _) ?_
  have hn':n+x.toNat % 128*2 ^ sh<2 ^ (sh+7):=by
   have h1:x.toNat % 128*2 ^ sh≤127*2 ^ sh:=Nat.mul_le_mul_right _ (by omega); have h2:2 ^ (sh+7)=128*2 ^ sh:=by rw [Nat.pow_add,Nat.mul_comm]
   omega
  have hGs:zLT b (f+1) at' n sh=if x.toNat<128 then (if 0<x.toNat∨sh=0 then .ok (n+x.toNat*2 ^ sh,at'+1) else .error 4) else zLT b f (at'+1) (n+(x.toNat % 128)*2 ^ sh) (sh+7):=by
   rw [zLT,hx]
  refine zAH (fun hb=>?_) (fun hb=>?_)
  ·have hb:x.toNat<128:=by have:=of_decide_eq_true hb; omega
   have hm:x.toNat % 128=x.toNat:=Nat.mod_eq_of_lt hb; rw [if_pos hb] at hGs
   have done:∀ e1:Env,e1 1=.int .i64 most→e1 5=.int .i64 ((n+x.toNat % 128*2 ^ sh:Nat):Int)→(0<x.toNat∨sh=0)→(zFo none (zOu (fun k e ds W'=>Chg (RdS rb) W W'∧ds=[]∧1≤k∧k≤6∧∃ at' n sh:Nat,Rd A W' rb vb at'∧at'≤b.length∧e 0=.pointer (some ⟨rb,0,none⟩)∧e 1=.int .i64 most∧e 5=.int .i64 n∧e 6=.int .i64 sh∧sh=7*(6-k)∧n<2 ^ sh∧zLT b 6 at_ 0 0=zLT b k at' n sh) (f+1) (zBm 0 (zFp none KK)))) .normal e1 [] W1:=by
    intro e1 g1 g5 hor; simp only [zFo,qKn,qKr,qKx,qKp,bKn,bKr,bKp,bKx,tKn,tKr,tKx,tKp,zKn,zKr,zKx,zKp]; simp only [bKx,if_true]; refine hgo e1 W1 _ (at'+1) hc' hr1 g1 g5 ?_; rw [hG,hGs,if_pos hor,hm]
   refine zAu (zBO _ _ _) ?_
   refine zAH (fun hq=>?_) (fun hq=>?_)
   ·have hq:0<x.toNat:=by have:=of_decide_eq_true hq; omega
    refine zDU (fun _=>?_) (fun hf=>by cases hf); exact done _ (by simp only [eKc,eKn,eKa,Nat.reduceEqDiff,↓reduceIte,gKz,gKs,dKs,and_self,h1]) (by simp only [eKc,eKn,eKa,Nat.reduceEqDiff,↓reduceIte,gKz,gKs,dKs,and_self]) (.inl hq)
   ·have hq:¬0<x.toNat:=by have:=of_decide_eq_false hq; omega
    refine zAu (zAz _ _ _) ?_
    refine zDU (fun hz=>?_) (fun hz=>?_)
    ·have hz:sh=0:=by have:=eq_of_beq hz; omega
     exact done _ (by simp only [eKc,eKn,eKa,Nat.reduceEqDiff,↓reduceIte,gKz,gKs,dKs,and_self,h1]) (by simp only [eKc,eKn,eKa,Nat.reduceEqDiff,↓reduceIte,gKz,gKs,dKs,and_self]) (.inr hz)
    ·have hz:¬sh=0:=by
      intro e; subst e; simp at hz
     simp only [zFo,qKp,bKp,tKp,zFp]; refine hpan _ W1 hc' t1 ?_; unfold zER; rw [hG,hGs,if_neg (by omega)]
  ·have hb:¬x.toNat<128:=by have:=of_decide_eq_false hb; omega
   rw [if_neg hb] at hGs; refine zAu (zBO _ _ _) ?_
   refine zAH (fun hq=>?_) (fun hq=>?_)
   ·have hq:=of_decide_eq_true hq; have hf:f=0:=by omega
    refine zDU (fun hf=>by cases hf) (fun _=>?_); simp only [tKp,bKp,zFp,qKp]; refine hpan _ W1 hc' t1 ?_; unfold zER; rw [hG,hGs,hf]; rfl
   ·have hq:=of_decide_eq_false hq; simp only [tKn]; exact ⟨f,by omega,hc',trivial,by omega,by omega,at'+1,_,sh+7,hr1,by omega,by simp only [eKc,eKn,eKa,Nat.reduceEqDiff,↓reduceIte,gKz,gKs,dKs,and_self,h0],by simp only [eKc,eKn,eKa,Nat.reduceEqDiff,↓reduceIte,gKz,gKs,dKs,and_self,h1],by simp only [eKc,eKn,eKa,Nat.reduceEqDiff,↓reduceIte,gKz,gKs,dKs,and_self],by simp only [eKc,eKn,eKa,Nat.reduceEqDiff,↓reduceIte,gKz,gKs,dKs,and_self]; rfl,by omega,hn',by rw [hG,hGs]⟩
end Go.Ce
namespace Go.Ce
open Go Go.Proofs Go.Proofs.Tryz
def zFd (l:List UInt8):ByteArray:=⟨l.toArray⟩
theorem zHL:∀ l:List UInt8,zDt (l.map fun x=>Value.int .u8 (x.toNat:Int))=some l
 | []=>rfl
 | x::l=>by
  simp only [List.map_cons,zDt,zHL l]; congr 2; simp
theorem zRc {W:CW} {v:Value} {l:List UInt8} (h:IsSl 1 (RByte W) v l):cvb prog 29 9 v W=some (.string (zFd l)):=by
 obtain ⟨a,cap,rfl,hc⟩:=h; have h5:prog.underlying 5=some (.int .u8):=by kernel_rfl
 unfold cvb; rw [u29,u9]
 have hf:zC1 a l.length W=some (l.map fun x=>Value.int .u8 (x.toNat:Int)):=by
  cases l with
  | nil=>cases a <;> rfl
  | cons x l =>
   obtain ⟨p,rfl,_⟩:=hc 0 x rfl
   have:=zGD (W:=W) (a:=p) (cs:=(x::l).map fun x=>Value.int .u8 (x.toNat:Int)) fun j v hj=>by
    rw [List.getElem?_map,Option.map_eq_some_iff] at hj; obtain ⟨y,hy,rfl⟩:=hj; obtain ⟨p',hp',hr⟩:=hc j y hy
    cases hp'
    rwa [show p.off+j=p.off+j*1 by omega]
   rwa [List.length_map] at this
 simp only [zWU,h5,hf,zCc,zHL]; rfl
def zUu (A:CW) (vf:Value) (ask:ByteArray→Option Int):Prop:=∀ s W K KP,Kp A W→Top W→(ask s=none→∀ v W',Kp W W'→Top W'→K v W')→(∀ e,ask s=some e→∀ W',Kp W W'→Top W'→KP (zB5 e) W')→zBq prog pkL vf [.string s] W K KP
def zF9 (b:List UInt8) (ask:ByteArray→Option Int):Nat→Nat→List ByteArray→Except Int (List ByteArray × Nat)
 | 0,at_,out=>.ok (out,at_)
 | k+1,at_,out=>match zER b at_ 60 with
  | .error e=>.error e
  | .ok (n,a1)=>match zEW b a1 n with
   | .error e=>.error e
   | .ok a2=>if zDh (zFd ((b.drop a1).take n))=true∧(out.any fun x=>decide (x=zFd ((b.drop a1).take n)))=false then
     (match ask (zFd ((b.drop a1).take n)) with
     | some e=>.error e
     | none=>zF9 b ask k a2 (out++[zFd ((b.drop a1).take n)]))
    else .error 4
def zFi (b:List UInt8) (ask:ByteArray→Option Int) (at_:Nat):Except Int (List ByteArray × Nat):=match zER b at_ 128 with
 | .error e=>.error e
 | .ok (n,a1)=>if n=1 then (match zER b a1 100 with
   | .error e=>.error e
   | .ok (k,a2)=>zF9 b ask k a2 [])
  else .error 4
theorem zNl {b:List UInt8} {at_ n a:Nat} (h:zEW b at_ n=.ok a):a=at_+n∧a≤b.length:=by
 unfold zEW at h
 split at h
 ·cases h; exact ⟨rfl,by assumption⟩
 ·cases h
theorem zP8 {b:List UInt8} {at_ n:Nat} {e:Int} (h:zEW b at_ n=.error e):e=4:=by
 unfold zEW at h
 split at h
 ·cases h
 ·cases h; rfl
theorem zQa {b:List UInt8}:∀ {f at_ n sh m a:Nat},zLT b f at_ n sh=.ok (m,a)→at_<a∧a≤b.length
 | 0,_,_,_,_,_,h=>by cases h
 | f+1,at_,n,sh,m,a,h=>by
  unfold zLT at h
  split at h
  ·cases h
  ·rename_i x hx; have hlt:=(List.getElem?_eq_some_iff.1 hx).1
   split at h
   ·split at h
    ·cases h; omega
    ·cases h
   ·have:=zQa h; omega
theorem zCd {b:List UInt8} {at_ n a:Nat} {most:Int} (h:zER b at_ most=.ok (n,a)):(n:Int)≤most∧at_<a∧a≤b.length:=by
 unfold zER at h
 split at h
 ·cases h
 ·rename_i n' a' hg
  split at h
  ·cases h; exact ⟨by assumption,zQa hg⟩
  ·cases h
theorem Chg.rd {rb:Nat} {A B C:CW} (h:Chg (RdS rb) A B) (k:Chg (RdS rb) B C):Chg (RdS rb) A C:=h.then k fun _ _ h=>h
theorem Kp.rd {rb:Nat} {A B:CW} (h:Kp A B):Chg (RdS rb) A B:=Chg.of_kp h
theorem RByte.kp {A W:CW} {v:Value} {x:List UInt8} (I:Top A) (k:Kp A W) (h:IsSl 1 (RByte A) v x):IsSl 1 (RByte W) v x:=h.imp fun _ _ _ hr=>k.cell I hr
theorem zUW {A W:CW} {rb at_:Nat} {vb vf:Value} {b:List UInt8} {ask:ByteArray→Option Int} (I:RdIn A vb b) (h:Rd A W rb vb at_) (ha:at_≤b.length) (hask:zUu A vf ask) :
  WCall prog pkL 92 [.pointer (some ⟨rb,0,none⟩),vf] W (zHU A rb vb (fun v l W'=>Own W' 9 1 v (zK2 l)∧Newer W.sz v) (zFi b ask at_) W):=by
 refine zW5 ?_; rw [zW6]; generalize hPost:zHU A rb vb (fun v l W'=>Own W' 9 1 v (zK2 l)∧Newer W.sz v) (zFi b ask at_) W=Post; generalize hKK:zAE prog Tryz.f92 Post=KK
 have hpan:∀ (e:Env) W' c,Chg (RdS rb) W W'→Top W'→zFi b ask at_=.error c→KK (.panic (zB5 c)) e [] W':=by
  intro e W' c hc ht hn; rw [←hKK]; show Post (.panicked (zB5 c)) W'; rw [←hPost]; refine ⟨hc,ht,?_⟩; rw [hn]
 refine (zEb (most:=128) I h ha).mono fun en W1 ⟨hc1,t1,hp⟩=>?_
 cases hn1:zER b at_ 128 with
 | error c =>
  rw [hn1] at hp; have hp:en=.panicked (zB5 c):=hp; subst hp; exact zBt (hpan _ W1 c hc1 t1 (by unfold zFi; rw [hn1]))
 | ok r =>
  obtain ⟨n,a1⟩:=r; rw [hn1] at hp; obtain ⟨v,rfl,rfl,hr1⟩:=hp; refine zAY ?_; refine zAu (zAz _ _ _) ?_; refine zDU (fun hb=>?_) (fun hb=>?_)
  rotate_left
  ·have hb:¬n=1:=by intro e; subst e; simp at hb
   exact hpan _ W1 4 hc1 t1 (by unfold zFi; rw [hn1]; simp only; rw [if_neg hb])
  have hb:n=1:=by have:=eq_of_beq hb; omega
  obtain ⟨_,_,ha1⟩:=zCd hn1; refine (zEb (most:=100) I hr1 ha1).mono fun en W2 ⟨hc2,t2,hp⟩=>?_; have hc2:=hc1.rd hc2
  cases hn2:zER b a1 100 with
  | error c =>
   rw [hn2] at hp; have hp:en=.panicked (zB5 c):=hp; subst hp; refine zBt ?_; simp only [zGG,qKp]; exact hpan _ W2 c hc2 t2 (by unfold zFi; rw [hn1]; simp only; rw [if_pos hb,hn2])
  | ok r =>
   obtain ⟨m,a2⟩:=r; rw [hn2] at hp; obtain ⟨v,rfl,rfl,hr2⟩:=hp; obtain ⟨hm100,_,ha2⟩:=zCd hn2; refine zAY ?_; have hH:zFi b ask at_=zF9 b ask m a2 []:=by unfold zFi; rw [hn1]; simp only; rw [if_pos hb,hn2]
   refine zCX (fun i e ds W'=>ds=[]∧∃ at' out vo,Chg (RdS rb) W W'∧Rd A W' rb vb at'∧at'≤b.length∧out.length=i∧e 0=.pointer (some ⟨rb,0,none⟩)∧e 1=vf∧e 5=vo∧e 12=.int .i64 m∧e 13=.int .i64 i∧Own W' 9 1 vo (zK2 out)∧Newer W.sz vo∧zF9 b ask m a2 []=zF9 b ask (m-i) at' out) m
    ⟨rfl,a2,[],.slice none 0 0,hc2,hr2,ha2,rfl,rfl,rfl,rfl,rfl,rfl,Own.nil,Newer.nil _ _ _,rfl⟩ ?_
   rintro i e ds W' hi ⟨rfl,at',out,vo,hc,hr,hat,hol,h0,h1,h5,h12,h13,hO,hN,hG⟩; rw [zVK,h0,h5,h12,h13]; simp only [zAZ,zAA]; refine zGZ (fun hlt=>?_) (fun hge=>?_)
   rotate_left
   ·have:i=m:=by omega
    subst this; simp only [qKn,qKr,qKx,qKp,bKn,bKr,bKp,bKx,tKn,tKr,tKx,tKp,zKn,zKr,zKx,zKp,bKx,if_true,zGG]; rw [←hKK,zQz,←hPost]; refine ⟨hc,hr.top,?_⟩; rw [hH,hG,Nat.sub_self]; exact ⟨_,rfl,⟨by simp only [eKc,eKn,eKa,Nat.reduceEqDiff,↓reduceIte,gKz,gKs,dKs,and_self,h5]; exact hO,by simp only [eKc,eKn,eKa,Nat.reduceEqDiff,↓reduceIte,gKz,gKs,dKs,and_self,h5]; exact hN⟩,hr⟩
   ·obtain ⟨f,hf⟩:∃ f,m-i=f+1:=⟨m-i-1,by omega⟩
    rw [hf] at hG
    have hstep:zF9 b ask (f+1) at' out=match zER b at' 60 with
      | .error e=>.error e
      | .ok (n,a1)=>match zEW b a1 n with
       | .error e=>.error e
       | .ok a2=>if zDh (zFd ((b.drop a1).take n))=true∧(out.any fun x=>decide (x=zFd ((b.drop a1).take n)))=false then
         (match ask (zFd ((b.drop a1).take n)) with
         | some e=>.error e
         | none=>zF9 b ask f a2 (out++[zFd ((b.drop a1).take n)]))
        else .error 4:=rfl
    rw [hstep] at hG; have bad:∀ (e:Env) W1 c,Chg (RdS rb) W' W1→Top W1→zF9 b ask m a2 []=.error c→KK (.panic (zB5 c)) e [] W1:=fun e W1 c c1 t1 hh=>hpan e W1 c (hc.rd c1) t1 (by rw [hH,hh]); refine (zEb (most:=60) I hr hat).mono fun en W3 ⟨hc3,t3,hp⟩=>?_
    cases hn3:zER b at' 60 with
    | error c =>
     rw [hn3] at hp hG; have hp:en=.panicked (zB5 c):=hp; subst hp; refine zBt ?_; simp only [zEt,qKn,qKr,qKx,qKp,bKn,bKr,bKp,bKx,tKn,tKr,tKx,tKp,zKn,zKr,zKx,zKp,zGG]; exact bad _ W3 c hc3 t3 hG
    | ok r =>
     obtain ⟨k,a3⟩:=r; rw [hn3] at hp hG; obtain ⟨v,rfl,rfl,hr3⟩:=hp; obtain ⟨hk60,_,ha3⟩:=zCd hn3; refine zAY ?_; simp only at hG; refine (zP7 I hr3 ha3 (by omega)).mono fun en W4 ⟨hc4,t4,hp⟩=>?_; have hc4:=hc3.rd hc4
     cases hn4:zEW b a3 k with
     | error c =>
      rw [hn4] at hp hG; have hp:en=.panicked (zB5 c):=hp; subst hp; refine zBt ?_; simp only [zEt,qKn,qKr,qKx,qKp,bKn,bKr,bKp,bKx,tKn,tKr,tKx,tKp,zKn,zKr,zKx,zKp,zGG]; exact bad _ W4 c hc4 t4 hG
     | ok a4 =>
      rw [hn4] at hp hG; obtain ⟨v,rfl,hv,hr4⟩:=hp; obtain ⟨ha4,ha4b⟩:=zNl hn4; simp only at hG; generalize hs:zFd ((b.drop a3).take k)=s at hG; refine zAY ?_; refine zAu (v:=.string s) (by rw [←hs]; exact zRc (RByte.kp I.top hr4.kp hv)) ?_
      have hssz:s.size<1000000:=by
       rw [←hs]; show ((b.drop a3).take k).toArray.size<1000000; rw [List.size_toArray,List.length_take]; omega
      refine (zFh t4 hssz).mono fun en W5 ⟨he,k5,t5⟩=>?_; subst he; refine zAY ?_; have hc5:=hc4.rd (k5.rd (rb:=rb))
      have hO5:Own W5 9 1 vo (zK2 out):=(hc5).own hr.top hO fun j hj e=>by
       have e:j=rb:=e; subst e; have:=zAw hr.blk (zB3 hO hj); cases this
      have hr5:=hr4.kp' k5 t5; refine zAH (fun hsy=>?_) (fun hsy=>?_)
      rotate_left
      ·refine zDU (fun hf=>by cases hf) (fun _=>?_); simp only [zD7,zEt,qKn,qKr,qKx,qKp,bKn,bKr,bKp,bKx,tKn,tKr,tKx,tKp,zKn,zKr,zKx,zKp,zGG]; refine bad _ W5 4 hc5 t5 ?_; rw [hG,if_neg (by rw [hsy]; simp)]
      obtain ⟨ao,co,hvo,hoc⟩:=zEe (f:=fun (s:ByteArray)=>Value.string s) hO5; have hctn:=zGR (s:=s) (W:=W5) (v:=vo) (l:=out) ⟨ao,co,hvo,hoc⟩ (by omega); refine zB2 hctn ?_; refine zAu (zAR _) ?_; refine zDU (fun hct=>?_) (fun hct=>?_)
      rotate_left
      ·simp only [zD7,zEt,qKn,qKr,qKx,qKp,bKn,bKr,bKp,bKx,tKn,tKr,tKx,tKp,zKn,zKr,zKx,zKp,zGG]; refine bad _ W5 4 hc5 t5 ?_; rw [hG,if_neg (by rintro ⟨_,h2⟩; rw [h2] at hct; cases hct)]
      have hct:(out.any fun x=>decide (x=s))=false:=by
       cases hq:out.any fun x=>decide (x=s) with
       | false=>rfl
       | true=>rw [hq] at hct; cases hct
      rw [if_pos ⟨hsy,hct⟩] at hG; simp only [zD7,qKn,qKr,qKx,qKp,bKn,bKr,bKp,bKx,tKn,tKr,tKx,tKp,zKn,zKr,zKx,zKp]; simp only [eKc,eKn,eKa,Nat.reduceEqDiff,↓reduceIte,gKz,gKs,dKs,and_self,h1,h5,h13]; refine hask s W5 _ _ hr5.kp t5 (fun hno v W6 k6 t6=>?_) (fun c hyes W6 k6 t6=>?_)
      rotate_left
      ·rw [hyes] at hG; simp only [zEt,qKn,qKr,qKx,qKp,bKn,bKr,bKp,bKx,tKn,tKr,tKx,tKp,zKn,zKr,zKx,zKp,zGG]; exact bad _ W6 c (hc5.rd k6.rd) t6 hG
      ·rw [hno] at hG; have hO6:Own W6 9 1 vo (zK2 out):=(Chg.of_kp (S:=fun _=>False) k6).own t5 hO5 fun j hj h=>h; refine zGb u51 s9 z9 rfl (by omega) by9 (by omega) (zWX _) rfl rfl t6 hO6 (by rw [zFv]; omega) fun u Wa v1' W7 ka ta hpu t7 o7 n7=>?_; have hc6:Chg (RdS rb) W' W6:=hc5.rd k6.rd; have hr6:=hr5.kp' k6 t6; have hne:¬zA7 vo rb:=fun hj=>by have:=zAw hr6.blk (zB3 hO6 hj); cases this
       have hszW:W.sz≤W6.sz:=Nat.le_trans hc.sz hc6.sz
       have hkp7:Kp A W7:=hpu.kp hr6.kp fun b' l' c' e=>by
        have:=hN b' l' c' e; have:=h.kp.sz; omega
       have hc7:Chg (RdS rb) W W7:=(hc.rd hc6).then (hpu.chg) fun j hj hi=>by
        obtain ⟨b',l',c',e1,e2⟩:=hi; have:=hN b' l' c' e1; omega
       simp only [zEt,qKn,qKr,qKx,qKp,bKn,bKr,bKp,bKx,tKn,tKr,tKx,tKp,zKn,zKr,zKx,zKp]; simp only [eKc,eKn,eKa,Nat.reduceEqDiff,↓reduceIte,gKz,gKs,dKs,and_self,h13,zAW,zAA,qKn,qKr,qKx,qKp,bKn,bKr,bKp,bKx,tKn,tKr,tKx,tKp,zKn,zKr,zKx,zKp]
       refine ⟨hlt,trivial,a4,out++[s],v1',hc7,⟨hkp7,t7,hr.hb,hpu.blk t6 hr6.blk fun b' l' c' e hb=>hne ⟨b',l',c',e,hb⟩⟩,ha4b,by simp [hol],?_,?_,?_,?_,?_,by rw [zNm]; exact o7,n7 _ hszW,?_⟩
       ·simp only [eKc,eKn,eKa,Nat.reduceEqDiff,↓reduceIte,gKz,gKs,dKs,and_self,h0]
       ·simp only [eKc,eKn,eKa,Nat.reduceEqDiff,↓reduceIte,gKz,gKs,dKs,and_self,h1]
       ·first | rfl | (simp only [eKc,eKn,eKa,Nat.reduceEqDiff,↓reduceIte,gKz,gKs,dKs,and_self])
       ·simp only [eKc,eKn,eKa,Nat.reduceEqDiff,↓reduceIte,gKz,gKs,dKs,and_self,h12]
       ·rw [zCT (by omega)]
       ·rw [hG,show m-(i+1)=f by omega]
end Go.Ce
namespace Go.Ce
open Go Go.Proofs Go.Proofs.Tryz
theorem zPF {l bk bx r1 r2 n ix:Nat} {c:List Shp} {ty:ByteArray} (hix:zBQ c ty=some ix) (hnl:n<100000) (hn:zAN c ix=0→n≤(zAj c ix).length) (J:Nat→CW→Prop) (Bad:List PanicEntry→CW→Prop) (hJ:∀ i W,J i W→KdAt W bk bx r1 r2 c ty n)
  (hround:∀ i W,i<n→J i W→WRound prog pkL l [.int .i64 i,.int .u8 (zA3 c ix i)] W fun e W'=>(e=.returned (.bool true)∧J (i+1) W')∨∃ ch,e=.panicked ch∧Bad ch W') {W:CW} (h0:J 0 W) :
  WCall prog pkL 108 [.func (.yield l) #[] #[],.pointer (some ⟨bk,0,none⟩),.pointer (some ⟨bx,0,none⟩)] W fun e W'=>(e=.returned (.tuple #[])∧J n W')∨∃ ch,e=.panicked ch∧Bad ch W':=by
 refine zTl ?_; rw [zTm]; have K0:=hJ 0 W h0; obtain ⟨a0,cap0,hx1⟩:=K0.x1; obtain ⟨ea,eb,ef,eg,hel⟩:=K0.cat.sh.elem hix; simp only [zDL,zCU,zCH,zAA]; rw [zAB a75 (a:=⟨bk,0,none⟩) K0.k0,zAB a9 (a:=⟨bx,0,none⟩) K0.x0,zAB a40 (a:=⟨bx,0+1,none⟩) hx1]; simp only [zAA,hel,zGu,zAT u40]; refine zCX (fun i e ds W'=>ds=[]∧e 0=.func (.yield l) #[] #[]∧e 1=.pointer (some ⟨bk,0,none⟩)∧e 2=.pointer (some ⟨bx,0,none⟩)∧e 4=.int .u8 (zAN c ix)∧e 15=.int .i64 n∧e 16=.int .i64 i∧J i W') n ⟨rfl,rfl,rfl,rfl,rfl,rfl,rfl,h0⟩ ?_; rintro i e ds W' hi ⟨rfl,h0,h1,h2,h4,h15,h16,hj⟩; rw [zRT,h1,h2,h4,h15,h16]; simp only [zAZ,zAA]
 refine zGZ (fun hlt=>?_) (fun hge=>?_)
 ·have hcall:∀ (e1:Env),Agree [0,1,2,4,15,16] e e1→e1 5=.int .i64 i→e1 6=.int .u8 (zA3 c ix i) →
    (zGx none (zJQ (fun i e ds W'=>ds=[]∧e 0=.func (.yield l) #[] #[]∧e 1=.pointer (some ⟨bk,0,none⟩)∧e 2=.pointer (some ⟨bx,0,none⟩)∧e 4=.int .u8 (zAN c ix)∧e 15=.int .i64 n∧e 16=.int .i64 i∧J i W') i n (zBm 0 (zAE prog Tryz.f108 fun e W'=>(e=.returned (.tuple #[])∧J n W')∨∃ ch,e=.panicked ch∧Bad ch W')))) .normal e1 [] W':=by
   intro e1 hA h5 h6; have g0:=(hA 0 (by decide)).trans h0; have g16:=(hA 16 (by decide)).trans h16; simp only [zGx,qKn,qKr,qKx,qKp,bKn,bKr,bKp,bKx,tKn,tKr,tKx,tKp,zKn,zKr,zKx,zKp,g0,h5,h6]; refine zG9 ((hround i W' hlt hj).mono fun en W1 hp=>?_)
   rcases hp with ⟨rfl,hj1⟩ | ⟨ch,rfl,hst⟩
   ·simp only [zAK,zAR,zAA,Bool.not_true,zAP,zEx,qKn,qKr,qKx,qKp,bKn,bKr,bKp,bKx,tKn,tKr,tKx,tKp,zKn,zKr,zKx,zKp]; simp only [eKc,eKn,eKa,Nat.reduceEqDiff,↓reduceIte,gKz,gKs,dKs,and_self,g16,zAW,zAA,qKn,qKr,qKx,qKp,bKn,bKr,bKp,bKx,tKn,tKr,tKx,tKp,zKn,zKr,zKx,zKp]; exact ⟨hlt,trivial,g0,(hA 1 (by decide)).trans h1,(hA 2 (by decide)).trans h2,(hA 4 (by decide)).trans h4,(hA 15 (by decide)).trans h15,by rw [zCT (by omega)],hj1⟩
   ·simp only [zAK,zEx,qKn,qKr,qKx,qKp,bKn,bKr,bKp,bKx,tKn,tKr,tKx,tKp,zKn,zKr,zKx,zKp]; exact .inr ⟨ch,rfl,hst⟩
  simp only [zAz,zAA]
  refine zAH (fun he=>?_) (fun he=>?_)
  ·have he:zAN c ix=0:=by simpa using he
   have Ki:=hJ i W' hj; have hil:=zCF hix; have hrl:i<(zAj c ix).length:=by have:=hn he; omega
   obtain ⟨ar,cr,lr,hrr⟩:=Ki.cat.rw.some hix; obtain ⟨_,_,e3,hrc⟩:=hrr
   cases e3
   obtain ⟨pr,rfl,hpr⟩:=hrc i _ (List.getElem?_eq_getElem hrl); simp only [zD6,zCU,zAA]; rw [zAB a76 (a:=⟨bk,0+1,none⟩) Ki.k1,zAB a9 (a:=⟨bx,0,none⟩) Ki.x0]; simp only [zAA,lr]; rw [zAb u29 s5 hrl]; simp only [zAA]; rw [zAB a5 (a:=⟨pr.block,pr.off+i*1,none⟩) hpr]; simp only [zAA]; refine hcall _ (.put rfl) rfl ?_; show Value.int .u8 (zAj c ix)[i]=_; rw [zD3 he hil,List.getElem?_eq_getElem hrl]; rfl
  ·have he:zAN c ix≠0:=by simpa using he
   refine hcall _ (.put rfl) rfl ?_; show Value.int .u8 (zAN c ix)=_; have hil:=zCF hix; unfold zA3; unfold zAN at he ⊢; rw [List.getElem?_eq_getElem hil] at he ⊢; simp only at he ⊢; rw [if_pos he]
 ·simp only [qKn,qKr,qKx,qKp,bKn,bKr,bKp,bKx,tKn,tKr,tKx,tKp,zKn,zKr,zKx,zKp,if_true]; have hi:i=n:=by omega
  exact zFq _ _ (.inl rfl) _ _ (.inl ⟨rfl,hi ▸ hj⟩)
theorem zR5 {fn:FuncId} {nt:Nat} {f:Operand} {p1 p2 a1 a2:Tmp} {A B:Code} {e:Env} {ds:List Deferred} {W:CW} {K:zAI} {bk bx r1 r2 n ix:Nat} {c:List Shp} {ty:ByteArray} (ht:Top W)
  (hf:e.ev f=.func (.func 108) #[] #[.pointer (some ⟨bk,0,none⟩),.pointer (some ⟨bx,0,none⟩)]) (hix:zBQ c ty=some ix) (hnl:n<100000) (hn:zAN c ix=0→n≤(zAj c ix).length)
  (hA:∀ ro e0 ds K W,zAJ prog pkL ro fn nt A e0 ds W K=K .normal (Env.of e0 [(a2,e0 p2),(a1,e0 p1)]) ds W) (hdist:p1≠p2∧a1≠a2)
  (J:Nat→CW→Prop) (Bad:List PanicEntry→CW→Prop) (hJ:∀ i W,J i W→KdAt W bk bx r1 r2 c ty n)
  (hJl:∀ i W1 W2,J i W1→Upd (W.sz+1) W1 W2→(∀ b k v,W1.cell b k=some v→W2.cell b k=some v)→J i W2)
  (h0:∀ W2,Kp W W2→Top W2→W2.sz=W.sz+2→W2.obj W.sz=some .deferred→J 0 W2)
  (hbody:∀ (i:Nat) W1 (Kb:zAI) (E:Env),(∀ t,t≠p1→t≠p2→t≠a1→t≠a2→E t=e t)→E a1=.int .i64 i→E a2=.int .u8 (zA3 c ix i)→i<n→J i W1→(∃ o,W1.obj (W.sz+1)=some o∧∀ a b c d,o≠.cells a b c d) →
   (∀ e' ds' W3,W3.obj (W.sz+1)=W1.obj (W.sz+1)→J (i+1) W3→Kb .normal e' ds' W3)→(∀ ch e' W3,W3.obj (W.sz+1)=W1.obj (W.sz+1)→Bad ch W3→Kb (.panic ch) e' [] W3) →
   zAJ prog pkL (some (W.sz+1)) fn nt B E [] W1 Kb)
  (hend:∀ W',J n W'→K .normal e (zFA W.sz::ds) W') (hpan:∀ ch W',Bad ch W'→K (.panic ch) e (zFA W.sz::ds) W') :
  zCg prog pkL none fn nt (.rangeFunc f #[p1,p2] A B) e ds W K:=by
 have hcell:∀ {W1 W2:CW} {st pend fn' e' nt' ps' A' B' d'},LoopAt W1 (W.sz+1) st pend fn' e' nt' ps' A' B' d'→Upd (W.sz+1) W1 W2→∀ b k v,W1.cell b k=some v→W2.cell b k=some v:=by
  intro W1 W2 st pend fn' e' nt' ps' A' B' d' hl hu b k v hc; obtain ⟨T,ho,_⟩:=hl
  rw [hu.cell]
  ·exact hc
  ·rintro rfl; unfold CW.cell at hc; rw [ho] at hc; cases hc
 refine zR3 (g:=108) (args:=[.func (.yield (W.sz+1)) #[] #[],.pointer (some ⟨bk,0,none⟩),.pointer (some ⟨bx,0,none⟩)]) ht ?_ fun W2 k2 t2 z2 hd hl=>?_
 ·rw [hf]; rfl
 ·refine (zPF (J:=fun i W'=>J i W'∧LoopAt W' (W.sz+1) .ready none fn e nt #[p1,p2] A B W.sz) (Bad:=Bad) hix hnl hn (fun i W' h=>hJ i W' h.1) (fun i W' hi h=>?_) ⟨h0 W2 k2 t2 z2 hd,hl⟩).mono fun en W' hr=>?_
  ·obtain ⟨hj,hl'⟩:=h; refine zPr hl' rfl ?_; rw [hA]; refine ⟨rfl,none,e,nt,#[p1,p2],A,B,W.sz,hl',fun W3 hu hl3=>?_⟩; have hj3:=hJl i W' W3 hj hu (hcell hl' hu); obtain ⟨hd1,hd2⟩:=hdist
   refine hbody i W3 _ _ (fun t h1 h2 h3 h4=>by simp only [eKc,eKn,List.zip_cons_cons,List.zip_nil_left,Env.sets,if_neg h1,if_neg h2,if_neg h3,if_neg h4]) (by simp only [eKc,eKn,List.zip_cons_cons,List.zip_nil_left,Env.sets,if_neg hd1,if_neg hd2,if_true]) (by simp only [eKc,eKn,List.zip_cons_cons,List.zip_nil_left,Env.sets,if_true,if_neg (Ne.symm hd1)]) hi hj3 (by obtain ⟨T,ho,_⟩:=hl3; exact ⟨_,ho,fun _ _ _ _ h=>by cases h⟩) (fun e' ds' W4 ho hj4=>?_) (fun ch e' W4 ho hb4=>?_)
   ·refine ⟨.busy,none,fn,e,nt,#[p1,p2],A,B,W.sz,hl3.congr ho,fun W5 hu5 hl5=>.inl ⟨rfl,?_,hl5⟩⟩; exact hJl _ W4 W5 hj4 hu5 (hcell (hl3.congr ho) hu5)
   ·exact ⟨.busy,none,fn,e,nt,#[p1,p2],A,B,W.sz,hl3.congr ho,rfl,.inr ⟨ch,rfl,hb4⟩⟩
  ·rcases hr with ⟨rfl,hj,hl'⟩ | ⟨ch,rfl,hb⟩
   ·refine ⟨⟨_,rfl⟩,.ready,none,fn,e,nt,#[p1,p2],A,B,W.sz,hl',(by intro h; cases h),fun W5 hu5=>hend W5 ?_⟩; exact hJl _ W' W5 hj hu5 (hcell hl' hu5)
   ·exact hpan ch W' hb
end Go.Ce
namespace Go.Ce
open Go Go.Proofs Go.Proofs.Tryz
def zRx (n:Nat):Int:=if n % 2=1 then -((((n+1) / 2:Nat)):Int) else ((n / 2:Nat):Int)
def zDF (b:List UInt8) (c:List Shp) (ix many:Nat):Nat→Nat→Nat→Nat→List Int→Except Int (List Int × Nat × Nat)
 | 0,_,at_,fd,vs=>.ok (vs,fd,at_)
 | m+1,k,at_,fd,vs=>if zA3 c ix k=2 then
   (match zER b at_ ((min (fd+1) many:Nat):Int) with
   | .error e=>.error e
   | .ok (n,a)=>zDF b c ix many m (k+1) a (max fd n) (vs++[(n:Int)]))
  else
   (match zER b at_ 2000000000 with
   | .error e=>.error e
   | .ok (n,a)=>zDF b c ix many m (k+1) a fd (vs++[zRx n]))
theorem zR4 (a b:Int) (W:CW):blt prog .min [3,3] [.int .i64 a,.int .i64 b] W=some (.int .i64 (min a b),W):=by
 have h:blt prog .min [3,3] [.int .i64 a,.int .i64 b] W=some (.int .i64 (cond (decide (b<a)) b a),W):=rfl; rw [h]
 by_cases hq:b<a
 ·rw [decide_eq_true hq,Int.min_eq_right (by omega)]; rfl
 ·rw [decide_eq_false hq,Int.min_eq_left (by omega)]; rfl
theorem zWq (a b:Int) (W:CW):blt prog .max [3,3] [.int .i64 a,.int .i64 b] W=some (.int .i64 (max a b),W):=by
 have h:blt prog .max [3,3] [.int .i64 a,.int .i64 b] W=some (.int .i64 (cond (decide (a<b)) b a),W):=rfl; rw [h]
 by_cases hq:a<b
 ·rw [decide_eq_true hq,Int.max_eq_right (by omega)]; rfl
 ·rw [decide_eq_false hq,Int.max_eq_left (by omega)]; rfl
theorem zYK:agg? prog 124=some false:=by kernel_rfl
def zIu (n:Nat) (vs:List Int):List Value:=zCt (vs++List.replicate (n-vs.length) 0)
theorem zF0 {n:Nat} {vs:List Int} (h:vs.length≤n):(zIu n vs).length=n:=by
 unfold zIu zCt; rw [List.length_map,List.length_append,List.length_replicate]; omega
theorem zSV {n:Nat} {vs:List Int} (h:vs.length<n) (x:Int):zDz (zIu n vs) (0+vs.length*1) [.int .i64 x]=zIu n (vs++[x]):=by
 have h1:0+vs.length*1=vs.length:=by omega
 have hl:=zF0 (Nat.le_of_lt h); have hl2:=zF0 (n:=n) (vs:=vs++[x]) (by simp; omega); rw [h1]; apply List.ext_getElem?; intro j; rw [zDq (by rw [hl]; simp; omega)]; unfold zIu zCt; simp only [List.length_singleton,List.getElem?_map]
 by_cases e:vs.length≤j∧j<vs.length+1
 ·have:j=vs.length:=by omega
  subst this; rw [if_pos e,Nat.sub_self]; rw [List.getElem?_append_left (by simp),List.getElem?_append_right (by omega),Nat.sub_self]; rfl
 ·rw [if_neg e]
  by_cases hj:j<vs.length
  ·rw [List.getElem?_append_left hj,List.getElem?_append_left (by simp; omega),List.getElem?_append_left hj]
  ·rw [List.getElem?_append_right (by omega),List.getElem?_append_right (by simp; omega)]; simp only [List.length_append,List.length_singleton,List.getElem?_replicate]
   by_cases h2:j-vs.length<n-vs.length
   ·rw [if_pos h2,if_pos (by omega)]
   ·rw [if_neg h2,if_neg (by omega)]
theorem zQT {n:Nat} {vs:List Int} (h:vs.length<n) (x y:Int):zDz (zIu n (vs++[x])) (0+vs.length*1) [.int .i64 y]=zIu n (vs++[y]):=by
 have h1:0+vs.length*1=vs.length:=by omega
 have hl:=zF0 (n:=n) (vs:=vs++[x]) (by simp; omega); rw [h1]; apply List.ext_getElem?; intro j; rw [zDq (by rw [hl]; simp; omega)]; unfold zIu zCt; simp only [List.length_singleton,List.getElem?_map]
 by_cases e:vs.length≤j∧j<vs.length+1
 ·have:j=vs.length:=by omega
  subst this; rw [if_pos e,Nat.sub_self]; rw [List.getElem?_append_left (by simp),List.getElem?_append_right (by omega),Nat.sub_self]; rfl
 ·rw [if_neg e]
  by_cases hj:j<vs.length
  ·rw [List.getElem?_append_left (by simp; omega),List.getElem?_append_left hj,List.getElem?_append_left (by simp; omega),List.getElem?_append_left hj]
  ·rw [List.getElem?_append_right (by simp; omega),List.getElem?_append_right (by simp; omega)]; simp only [List.length_append,List.length_singleton]
def S3 (rb b10 bv j:Nat):Prop:=j=rb∨j=b10∨j=bv
structure VIn (A WI:CW) (rb b3 b8 b10 b14 bv n many:Nat) (ty:ByteArray):Prop where
 top:Top WI
 c3:Blk WI b3 124 [.pointer (some ⟨rb,0,none⟩)]
 c8:Blk WI b8 3 [.int .i64 many]
 x:Blk WI b14 56 [.string ty,.slice (some ⟨bv,0,none⟩) n n]
 hrb:A.sz≤rb∧A.sz≤b10∧A.sz≤bv
 ne:b8≠b10∧b8≠bv∧b10≠bv
 many:many≤1000
structure VJ (A WI:CW) (rb b10 bv n:Nat) (vb:Value) (W:CW) (at_ fd:Nat) (vs:List Int):Prop where
 chg:Chg (S3 rb b10 bv) WI W
 rd:Rd A W rb vb at_
 f:Blk W b10 3 [.int .i64 fd]
 v:Blk W bv 3 (zIu n vs)
theorem zOe {rb b10 bv:Nat} {WI:CW} {b:Nat} {el:TypeId} {vs x y z:List Value} (h:Blk WI b el vs) (hr:Blk WI rb 170 x) (hf:Blk WI b10 3 y) (hv:Blk WI bv 3 z) (h1:el≠170) (h2:el≠3):¬S3 rb b10 bv b:=by
 rintro (rfl | rfl | rfl)
 ·exact h1 (zAw h hr)
 ·exact h2 (zAw h hf)
 ·exact h2 (zAw h hv)
theorem zS8 {A WI W:CW} {K:zAI} {E:Env} {rb b3 b8 b10 b14 bv n many ix at_ fd i:Nat} {vb:Value} {b:List UInt8} {c:List Shp} {ty:ByteArray} {vs:List Int} {ro:Option Nat}
  (I:RdIn A vb b) (V:VIn A WI rb b3 b8 b10 b14 bv n many ty) {xr yf zv:List Value} (hr0:Blk WI rb 170 xr) (hf0:Blk WI b10 3 yf) (hv0:Blk WI bv 3 zv) (J:VJ A WI rb b10 bv n vb W at_ fd vs) (hat:at_≤b.length) (hvl:vs.length=i) (hi:i<n) (hfd:fd≤1000)
  (q3:E 3=.pointer (some ⟨b3,0,none⟩)) (q8:E 8=.pointer (some ⟨b8,0,none⟩)) (q10:E 10=.pointer (some ⟨b10,0,none⟩)) (q14:E 14=.pointer (some ⟨b14,0,none⟩)) (q16:E 16=.int .i64 i) (q17:E 17=.int .u8 (zA3 c ix i)) {G:Except Int (List Int × Nat × Nat)} {m:Nat}
  (hG:G=zDF b c ix many (m+1) i at_ fd vs)
  (hok:∀ e' W' at' fd' vs',Chg (S3 rb b10 bv) W W'→VJ A WI rb b10 bv n vb W' at' fd' vs'→at'≤b.length→fd'≤1000→vs'.length=i+1→G=zDF b c ix many m (i+1) at' fd' vs'→K .normal e' [] W')
  (hbad:∀ e' W' x,Chg (S3 rb b10 bv) W W'→Chg (S3 rb b10 bv) WI W'→Top W'→G=.error x→K (.panic (zB5 x)) e' [] W') :
  zAJ prog pkL ro 74 140 (rfB prog 74 0) E [] W K:=by
 obtain ⟨hn1,hn2,hn3⟩:=V.ne; have nb3:=zOe V.c3 hr0 hf0 hv0 (by decide) (by decide); have nbx:=zOe V.x hr0 hf0 hv0 (by decide) (by decide)
 have nb8:¬S3 rb b10 bv b8:=by
  rintro (e | e | e)
  ·have h8:=V.c8; rw [e] at h8; have:=zAw h8 hr0; cases this
  ·exact hn1 e
  ·exact hn2 e
 have hbvrb:bv≠rb:=by
  rintro rfl; have:=zAw hv0 hr0; cases this
 have hb10rb:b10≠rb:=by
  rintro rfl; have:=zAw hf0 hr0; cases this
 have atW:∀ W',Chg (S3 rb b10 bv) WI W'→ld prog 124 (.pointer (some ⟨b3,0,none⟩)) W'=some (.pointer (some ⟨rb,0,none⟩))∧ld prog 3 (.pointer (some ⟨b8,0,none⟩)) W'=some (.int .i64 many)∧ld prog 40 (.pointer (some ⟨b14,0+1,none⟩)) W'=some (.slice (some ⟨bv,0,none⟩) n n):=fun W' h =>
  ⟨zAB zYK (a:=⟨b3,0,none⟩) ((h.blk V.top nb3 V.c3).cell rfl),zAB a3 (a:=⟨b8,0,none⟩) ((h.blk V.top nb8 V.c8).cell rfl),zAB a40 (a:=⟨b14,0+1,none⟩) ((h.blk V.top nbx V.x).cell rfl)⟩
 have hpl:(zIu n vs).length=n:=zF0 (by omega); have hmany:=V.many; obtain ⟨l3,l8,lx⟩:=atW W J.chg; have l10:ld prog 3 (.pointer (some ⟨b10,0,none⟩)) W=some (.int .i64 fd):=zAB a3 (a:=⟨b10,0,none⟩) (J.f.cell rfl); rw [zDF] at hG
 have put:∀ (W1:CW) (x:Int),Chg (S3 rb b10 bv) WI W1→Top W1→Blk W1 bv 3 (zIu n vs)→∀ {Kx:CW→Prop},(∀ W2,Upd bv W1 W2→Chg (S3 rb b10 bv) WI W2→Top W2→Blk W2 bv 3 (zIu n (vs++[x]))→Kx W2)→wV (sto prog 3 (.pointer (some ⟨bv,0+i*1,none⟩)) (.int .i64 x) W1) Kx:=by
  intro W1 x hc ht hB Kx hk; refine zAX s3 (a:=⟨bv,0+i*1,none⟩) (v:=.int .i64 x) rfl hB (by rw [hpl]; simp; omega) fun W2 hu hB2=>?_; have hu:Upd bv W1 W2:=hu; refine hk W2 hu (hc.then hu.chg fun j _ h=>.inr (.inr h)) (ht.upd (hB.lt ht) hu) ?_; have:=zSV (n:=n) (vs:=vs) (by omega) x; rw [hvl] at this; rw [←this]; exact hB2
 have hiad:iad prog 40 (.slice (some ⟨bv,0,none⟩) n n) (.int .i64 i)=some (.pointer (some ⟨bv,0+i*1,none⟩)):=zAb (i:=i) u40 s3 hi; rw [zVO,q17]; simp only [zAz,zAA]
 refine zAH (fun hk=>?_) (fun hk=>?_)
 ·have hk:zA3 c ix i=2:=by simpa using hk
  rw [if_pos hk] at hG; rw [q14,q3,q10,q8,q16]; simp only [zCH,zAA]; rw [lx,l3,l10,l8]; simp only [zAW,zAA]; rw [show ((fd:Int)+1)=((fd+1:Nat):Int) by omega,zBU (by omega) (by omega)]; refine zDV (zR4 _ _ W) ?_; rw [show min ((fd+1:Nat):Int) (many:Int)=((min (fd+1) many:Nat):Int) by omega]; refine (zEb I J.rd hat).mono fun en W1 ⟨hc1,t1,hp⟩=>?_; have hC1:Chg (S3 rb b10 bv) WI W1:=J.chg.then hc1 fun j _ h=>.inl h; obtain ⟨l3',l8',lx'⟩:=atW W1 hC1
  cases hn:zER b at_ ((min (fd+1) many:Nat):Int) with
  | error x =>
   rw [hn] at hp hG; have hp:en=.panicked (zB5 x):=hp; subst hp; refine zBt ?_; exact ⟨by simp only [l3,l8,lx,l10,and_self],hbad _ W1 x (Chg.refl (S3 rb b10 bv) W |>.then hc1 fun j _ h=>.inl h) hC1 t1 hG⟩
  | ok r =>
   obtain ⟨x,a1⟩:=r; rw [hn] at hp hG; obtain ⟨v,rfl,rfl,hr1⟩:=hp; obtain ⟨hx1,_,ha1⟩:=zCd hn; refine zAY ?_; rw [hiad]; simp only [zAA]; have hv1:=hc1.blk J.rd.top hbvrb J.v; have hf1:=hc1.blk J.rd.top hb10rb J.f; refine put W1 x hC1 t1 hv1 fun W2 hu hC2 t2 hB2=>?_; obtain ⟨l3'',l8'',lx''⟩:=atW W2 hC2; refine ⟨by simp only [l3,l3',l8,lx,lx',l10,and_self],trivial,?_⟩; have hf2:Blk W2 b10 3 [.int .i64 fd]:=hf1.congr (hu.obj _ hn3); have l10':ld prog 3 (.pointer (some ⟨b10,0,none⟩)) W2=some (.int .i64 fd):=zAB a3 (a:=⟨b10,0,none⟩) (hf2.cell rfl)
   have lv:ld prog 3 (.pointer (some ⟨bv,0+i*1,none⟩)) W2=some (.int .i64 x):=by
    refine zAB a3 (a:=⟨bv,0+i*1,none⟩) (hB2.cell ?_); show (zIu n (vs++[(x:Int)]))[0+i*1]?=_; unfold zIu zCt; rw [List.getElem?_map,List.getElem?_append_left (by simp; omega),List.getElem?_append_right (by omega),show 0+i*1-vs.length=0 by omega]; rfl
   rw [l10',lx'']; simp only [zAA]; rw [hiad]; simp only [zAA]; rw [lv]; simp only [zAA]; refine zDV (zWq _ _ W2) ?_; rw [show max (fd:Int) (x:Int)=((max fd x:Nat):Int) by omega]; refine zAX s3 (a:=⟨b10,0,none⟩) (v:=.int .i64 ((max fd x:Nat):Int)) rfl hf2 (by simp) fun W3 hu3 hB3=>?_; have hu3:Upd b10 W2 W3:=hu3; have hB3:Blk W3 b10 3 [.int .i64 ((max fd x:Nat):Int)]:=hB3; have hC3:Chg (S3 rb b10 bv) WI W3:=hC2.then hu3.chg fun j _ h=>.inr (.inl h); have t3:=t2.upd (hf2.lt t2) hu3; refine ⟨by simp only [lv,lx'',l10',and_self],trivial,?_⟩; refine hok _ W3 a1 (max fd x) (vs++[(x:Int)]) (((Chg.refl (S3 rb b10 bv) W |>.then hc1 fun j _ h=>.inl h).then hu.chg fun j _ h=>.inr (.inr h)).then hu3.chg fun j _ h=>.inr (.inl h)) ⟨hC3,⟨(hr1.kp.upd V.hrb.2.2 hu).upd V.hrb.2.1 hu3,t3,hr1.hb,(hr1.blk.congr (hu.obj _ (Ne.symm hbvrb))).congr (hu3.obj _ (Ne.symm hb10rb))⟩,hB3,hB2.congr (hu3.obj _ (Ne.symm hn3))⟩ ha1 (by omega) (by simp [hvl]) hG
 ·have hk:zA3 c ix i≠2:=by simpa using hk
  rw [if_neg hk] at hG; rw [q14,q3,q16,l3]; simp only [zAA]; refine (zEb (most:=2000000000) I J.rd hat).mono fun en W1 ⟨hc1,t1,hp⟩=>?_; have hC1:Chg (S3 rb b10 bv) WI W1:=J.chg.then hc1 fun j _ h=>.inl h; obtain ⟨l3',l8',lx'⟩:=atW W1 hC1
  cases hn:zER b at_ 2000000000 with
  | error x =>
   rw [hn] at hp hG; have hp:en=.panicked (zB5 x):=hp; subst hp; refine zBt ?_; exact hbad _ W1 x (Chg.refl (S3 rb b10 bv) W |>.then hc1 fun j _ h=>.inl h) hC1 t1 hG
  | ok r =>
   obtain ⟨x,a1⟩:=r; rw [hn] at hp hG; obtain ⟨v,rfl,rfl,hr1⟩:=hp; obtain ⟨hx1,_,ha1⟩:=zCd hn; refine zAY ?_; simp only [zCH,zAA]; rw [lx']; simp only [zAA]; refine zAu (zOW _ _ _ (by decide)) ?_; rw [show ((x:Int).tdiv 2)=((x / 2:Nat):Int) by rw [Int.tdiv_eq_ediv_of_nonneg (by omega)]; omega,zBU (by omega) (by omega)]; rw [hiad]; simp only [zAA]; have hv1:=hc1.blk J.rd.top hbvrb J.v; have hf1:=hc1.blk J.rd.top hb10rb J.f; refine put W1 _ hC1 t1 hv1 fun W2 hu hC2 t2 hB2=>?_; obtain ⟨l3'',l8'',lx''⟩:=atW W2 hC2; have hf2:Blk W2 b10 3 [.int .i64 fd]:=hf1.congr (hu.obj _ hn3); have hr2:Rd A W2 rb vb a1:=⟨hr1.kp.upd V.hrb.2.2 hu,t2,hr1.hb,hr1.blk.congr (hu.obj _ (Ne.symm hbvrb))⟩
   refine zAu (zKl _ _ _ (by decide)) ?_; rw [show ((x:Int).tmod 2)=((x % 2:Nat):Int) by rw [Int.tmod_eq_emod_of_nonneg (by omega)]; rfl]; refine zAu (zAz _ _ _) ?_
   refine zAH (fun ho=>?_) (fun ho=>?_)
   ·have ho:x % 2=1:=by have:=eq_of_beq ho; omega
    rw [lx'']; simp only [zAW,zAA]; rw [show ((x:Int)+1)=((x+1:Nat):Int) by omega,zBU (by omega) (by omega)]
    refine zAu (v:=.int .i64 (-((x+1:Nat):Int))) (by
     show some (Value.int .i64 (IntKind.i64.wrap (0-((x+1:Nat):Int))))=_
     rw [zBU (by omega) (by omega),Int.zero_sub]) ?_
    refine zAu (zOW _ _ _ (by decide)) ?_; rw [show ((-((x+1:Nat):Int)).tdiv 2)=-(((x+1) / 2:Nat):Int) by rw [Int.neg_tdiv,Int.tdiv_eq_ediv_of_nonneg (by omega)]; omega,zBU (by omega) (by omega)]; rw [hiad]; simp only [zAA]; have hl2:=zF0 (n:=n) (vs:=vs++[((x / 2:Nat):Int)]) (by simp; omega); refine zAX s3 (a:=⟨bv,0+i*1,none⟩) (v:=.int .i64 (-(((x+1) / 2:Nat):Int))) rfl hB2 (by rw [hl2]; simp; omega) fun W3 hu3 hB3=>?_; have hu3:Upd bv W2 W3:=hu3; have hov:=zQT (n:=n) (vs:=vs) (by omega) ((x / 2:Nat):Int) (-(((x+1) / 2:Nat):Int)); rw [hvl] at hov; have hB3:Blk W3 bv 3 (zIu n (vs++[-(((x+1) / 2:Nat):Int)])):=by rw [←hov]; exact hB3
    have t3:=t2.upd (hB2.lt t2) hu3; have hu':zRx x=-(((x+1) / 2:Nat):Int):=by unfold zRx; rw [if_pos ho]
    refine hok _ W3 a1 fd (vs++[-(((x+1) / 2:Nat):Int)]) (((Chg.refl (S3 rb b10 bv) W |>.then hc1 fun j _ h=>.inl h).then hu.chg fun j _ h=>.inr (.inr h)).then hu3.chg fun j _ h=>.inr (.inr h)) ⟨hC2.then hu3.chg fun j _ h=>.inr (.inr h),⟨hr2.kp.upd V.hrb.2.2 hu3,t3,hr1.hb,hr2.blk.congr (hu3.obj _ (Ne.symm hbvrb))⟩,hf2.congr (hu3.obj _ hn3),hB3⟩ ha1 hfd (by simp [hvl]) (by rw [hG]; show zDF b c ix many m (i+1) a1 fd (vs++[zRx x])=_; rw [hu'])
   ·have ho:¬x % 2=1:=by
     intro e; rw [e] at ho; simp at ho
    have hu':zRx x=((x / 2:Nat):Int):=by unfold zRx; rw [if_neg ho]
    exact hok _ W2 a1 fd (vs++[((x / 2:Nat):Int)]) ((Chg.refl (S3 rb b10 bv) W |>.then hc1 fun j _ h=>.inl h).then hu.chg fun j _ h=>.inr (.inr h)) ⟨hC2,hr2,hf2,hB2⟩ ha1 hfd (by simp [hvl]) (by rw [hG]; show zDF b c ix many m (i+1) a1 fd (vs++[zRx x])=_; rw [hu'])
end Go.Ce
namespace Go.Ce
open Go Go.Proofs Go.Proofs.Tryz
def Marks (B:Nat) (W:CW) (ds:List Deferred):Prop:=∃ rs:List Nat,ds=rs.map zFA∧rs.Nodup∧∀ r,r ∈ rs→W.obj r=some .deferred∧B≤r
theorem Marks.nil (B:Nat) (W:CW):Marks B W []:=⟨[],rfl,List.nodup_nil,fun r h=>by cases h⟩
theorem zIC {P:Program} {fn:Func} {Q:Ending→CW→Prop} {x:Exit} {e:Env} {B:Nat} {W:CW} (ht:Top W) {ds:List Deferred} (h:Marks B W ds) (hq:∀ W',(∀ j o,W.obj j=some o→o≠.deferred→W'.obj j=some o)→(∀ j,j<B→W'.obj j=W.obj j)→W'.sz=W.sz→Top W'→zAE P fn Q x e [] W'):zAE P fn Q x e ds W:=by
 obtain ⟨rs,rfl,hnd,hr⟩:=h
 suffices key:∀ (rs:List Nat) (W0:CW),Top W0→rs.Nodup→(∀ r,r ∈ rs→W0.obj r=some .deferred∧B≤r)→(∀ W',(∀ j o,W0.obj j=some o→o≠.deferred→W'.obj j=some o)→(∀ j,j<B→W'.obj j=W0.obj j)→W'.sz=W0.sz→Top W'→zAE P fn Q x e [] W')→zAE P fn Q x e (rs.map zFA) W0 from key rs W ht hnd hr hq
 intro rs
 induction rs with
 | nil=>intro W0 ht _ _ hq; exact hq W0 (fun j o h _=>h) (fun j _=>rfl) rfl ht
 | cons r rs ih =>
  intro W0 ht hnd hr hq; obtain ⟨hr1,hr2⟩:=hr r (by simp); obtain ⟨hn1,hn2⟩:=List.nodup_cons.1 hnd
  refine zDs hr1 (ih (W0.upd r .dead) (ht.upd (ht _ _ hr1) (Upd.of _ _ _)) hn2 (fun r' h'=>?_) fun W' h1 h2 h3 h4=>hq W' (fun j o hj ho=>?_) (fun j hj=>?_) h3 h4)
  ·obtain ⟨a,b⟩:=hr r' (by simp [h']); exact ⟨by rw [zCv,if_neg (by rintro rfl; exact hn1 h')]; exact a,b⟩
  ·refine h1 j o ?_ ho
   rw [zCv,if_neg]
   ·exact hj
   ·rintro rfl; rw [hr1] at hj; cases hj; exact ho rfl
  ·rw [h2 j hj,zCv,if_neg (by omega)]
theorem Marks.chg {B:Nat} {W W':CW} {ds:List Deferred} (h:Marks B W ds) (ho:∀ j,W.obj j=some .deferred→B≤j→W'.obj j=some .deferred):Marks B W' ds:=by
 obtain ⟨rs,h1,h2,h3⟩:=h; exact ⟨rs,h1,h2,fun r hr=>⟨ho r (h3 r hr).1 (h3 r hr).2,(h3 r hr).2⟩⟩
theorem Marks.push {B:Nat} {W:CW} {ds:List Deferred} {r:Nat} (h:Marks B W ds) (hr:W.obj r=some .deferred) (hB:B≤r) (hn:zFA r ∉ ds):Marks B W (zFA r::ds):=by
 obtain ⟨rs,rfl,h2,h3⟩:=h; refine ⟨r::rs,rfl,List.nodup_cons.2 ⟨fun hm=>hn (List.mem_map.2 ⟨r,hm,rfl⟩),h2⟩,fun r' hr'=>?_⟩
 rcases List.mem_cons.1 hr' with rfl | hm
 ·exact ⟨hr,hB⟩
 ·exact h3 r' hm
def zCY (b:List UInt8) (c:List Shp) (ts:List ByteArray) (many:Nat):Nat→Nat→Nat→Nat→Nat→List Thg→Except Int (List Thg × Nat × Nat × Nat)
 | 0,_,at_,used,fd,out=>.ok (out,used,fd,at_)
 | m+1,i,at_,used,fd,out=>if i<fd then
   (match zER b at_ (min (used:Int) ((ts.length:Int)-1)) with
   | .error e=>.error e
   | .ok (t,a1)=>match ts[t]? with
    | none=>.error 4
    | some ty=>match zBQ c ty with
     | none=>.error 4
     | some ix=>match (if zAN c ix≠0 then zER b a1 200 else .ok ((zAj c ix).length,a1)) with
      | .error e=>.error e
      | .ok (n,a2)=>match zDF b c ix many n 0 a2 fd [] with
       | .error e=>.error e
       | .ok (vs,fd',a3)=>zCY b c ts many m (i+1) a3 (if t=used then used+1 else used) fd' (out++[⟨ty,vs⟩]))
  else .error 4
def zBC (b:List UInt8) (c:List Shp) (ask:ByteArray→Option Int) (at_:Nat):Except Int (List Thg × Nat):=match zFi b ask at_ with
 | .error e=>.error e
 | .ok (ts,a1)=>match zER b a1 1000 with
  | .error e=>.error e
  | .ok (many,a2)=>match zCY b c ts many many 0 a2 0 (min many 1) [] with
   | .error e=>.error e
   | .ok (out,used,fd,a3)=>if fd=many∧used=ts.length∧a3=b.length then .ok (out,a3) else .error 4
def zGN (p:Thg × Value):List Value:=[.string p.1.type,p.2]
def zYy (B:Nat) (W:CW) (ps:List (Thg × Value)):Prop:=∀ p,p ∈ ps→∃ bv,p.2=.slice (some ⟨bv,0,none⟩) p.1.vals.length p.1.vals.length∧Blk W bv 3 (zCt p.1.vals)∧B≤bv
structure HeapAt (B:Nat) (W:CW) (v:Value) (ps:List (Thg × Value)):Prop where
 own:Own W 56 2 v (ps.flatMap zGN)
 new:Newer B v
 pv:zYy B W ps
theorem HeapAt.of {B:Nat} {W W':CW} {v:Value} {ps:List (Thg × Value)} (h:HeapAt B W v ps) (ho:∀ j o,B≤j→W.obj j=some o→o≠.deferred→W'.obj j=some o):HeapAt B W' v ps:=by
 refine ⟨zIv h.own fun j hj=>?_,h.new,fun p hp=>?_⟩
 ·obtain ⟨c,n,z,hob,_⟩:=zB3 h.own hj; rw [hob]; exact ho j _ (h.new.in hj) hob (by simp)
 ·obtain ⟨bv,h1,hB,h3⟩:=h.pv p hp; refine ⟨bv,h1,?_,h3⟩; obtain ⟨c,n,z,hob,hx⟩:=hB; exact ⟨c,n,z,ho bv _ h3 hob (by simp),hx⟩
end Go.Ce
namespace Go.Ce
open Go Go.Proofs Go.Proofs.Tryz
structure TP where
 A:CW
 L:CW
 rb:Nat
 b3:Nat
 b4:Nat
 b8:Nat
 b10:Nat
 r1:Nat
 r2:Nat
 vb:Value
 vt:Value
 b:List UInt8
 c:List Shp
 ts:List ByteArray
 many:Nat
 G:Except Int (List Thg × Nat × Nat × Nat)
structure TIn (p:TP):Prop where
 rd:RdIn p.A p.vb p.b
 cat:CatAt p.A p.r1 p.r2 p.c
 ok:zA9 p.c=true
 C:Cat p.c
 top:Top p.L
 kA:Kp p.A p.L
 c3:Blk p.L p.b3 124 [.pointer (some ⟨p.rb,0,none⟩)]
 c4:Blk p.L p.b4 78 [.map (some p.r1),.map (some p.r2)]
 c8:Blk p.L p.b8 3 [.int .i64 p.many]
 vt:Own p.L 9 1 p.vt (zK2 p.ts)
 tl:p.ts.length≤100
 known:∀ s,s ∈ p.ts→(zBQ p.c s).isSome=true
 xr:∃ v,Blk p.L p.rb 170 v
 xf:∃ v,Blk p.L p.b10 3 v
 hrb:p.A.sz≤p.rb∧p.A.sz≤p.b10
 ne:p.b8≠p.b10
 many:p.many≤1000
def S2 (rb b10 j:Nat):Prop:=j=rb∨j=b10
structure TJ (p:TP) (W:CW) (at_ fd:Nat) (vo:Value) (ps:List (Thg × Value)) (ds:List Deferred):Prop where
 chg:Chg (S2 p.rb p.b10) p.L W
 rd:Rd p.A W p.rb p.vb at_
 f:Blk W p.b10 3 [.int .i64 fd]
 heap:HeapAt p.L.sz W vo ps
 marks:Marks p.L.sz W ds
structure TE (p:TP) (e:Env) (i used:Nat) (vo:Value):Prop where
 e3:e 3=.pointer (some ⟨p.b3,0,none⟩)
 e4:e 4=.pointer (some ⟨p.b4,0,none⟩)
 e7:e 7=p.vt
 e8:e 8=.pointer (some ⟨p.b8,0,none⟩)
 e9:e 9=.int .i64 used
 e10:e 10=.pointer (some ⟨p.b10,0,none⟩)
 e11:e 11=vo
 e26:e 26=.int .i64 p.many
 e27:e 27=.int .i64 i
def TP.J (p:TP) (i:Nat) (e:Env) (ds:List Deferred) (W:CW):Prop:=∃ at_ fd used vo ps,TJ p W at_ fd vo ps ds∧TE p e i used vo∧at_≤p.b.length∧fd≤1000∧used≤p.ts.length∧ps.length=i∧p.G=zCY p.b p.c p.ts p.many (p.many-i) i at_ used fd (ps.map (·.1))
section
variable {p:TP} (I:TIn p)
include I
theorem TIn.lts:p.rb<p.L.sz∧p.b10<p.L.sz:=by
 obtain ⟨_,h1⟩:=I.xr; obtain ⟨_,h2⟩:=I.xf; exact ⟨h1.lt I.top,h2.lt I.top⟩
theorem TIn.rne:p.rb≠p.b10:=by
 obtain ⟨_,h1⟩:=I.xr; obtain ⟨_,h2⟩:=I.xf; intro e; rw [e] at h1; have:=zAw h1 h2; cases this
theorem TIn.not2 {b:Nat} {el:TypeId} {vs:List Value} (h:Blk p.L b el vs) (h1:el≠170) (h2:el≠3):¬S2 p.rb p.b10 b:=by
 obtain ⟨_,k1⟩:=I.xr; obtain ⟨_,k2⟩:=I.xf
 rintro (rfl | rfl)
 ·exact h1 (zAw h k1)
 ·exact h2 (zAw h k2)
theorem TIn.at {W:CW} (h:Chg (S2 p.rb p.b10) p.L W):ld prog 124 (.pointer (some ⟨p.b3,0,none⟩)) W=some (.pointer (some ⟨p.rb,0,none⟩))∧Blk W p.b4 78 [.map (some p.r1),.map (some p.r2)]∧Blk W p.b3 124 [.pointer (some ⟨p.rb,0,none⟩)]∧Blk W p.b8 3 [.int .i64 p.many]∧Own W 9 1 p.vt (zK2 p.ts):=by
 have h3:=h.blk I.top (I.not2 I.c3 (by decide) (by decide)) I.c3; refine ⟨zAB zYK (a:=⟨p.b3,0,none⟩) (h3.cell rfl),h.blk I.top (I.not2 I.c4 (by decide) (by decide)) I.c4,h3,h.blk I.top ?_ I.c8,h.own I.top I.vt fun j hj=>I.not2 (zB3 I.vt hj) (by decide) (by decide)⟩
 rintro (e | e)
 ·obtain ⟨_,k1⟩:=I.xr; have h8:=I.c8; rw [e] at h8; have:=zAw h8 k1; cases this
 ·exact I.ne e
theorem TJ.step {W W':CW} {at_ fd at':Nat} {vo:Value} {ps:List (Thg × Value)} {ds:List Deferred} (J:TJ p W at_ fd vo ps ds) (hc:Chg (RdS p.rb) W W') (hr:Rd p.A W' p.rb p.vb at'):TJ p W' at' fd vo ps ds:=by
 have hl:=I.lts; have hs:=J.chg.sz; have hob:∀ j o,W.obj j=some o→j≠p.rb→W'.obj j=some o:=fun j o hj hne=>by rw [hc.obj j (J.rd.top _ _ hj) hne]; exact hj
 exact ⟨J.chg.then hc fun j _ h=>.inl h,hr,J.f.congr (hc.obj _ (by omega) (Ne.symm I.rne)),J.heap.of fun j o hB hj _=>hob j o hj (by omega),J.marks.chg fun j hj hB=>hob j _ hj (by omega)⟩
end
end Go.Ce
