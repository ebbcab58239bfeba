/- A part of the proof: Co, Cp, Cq, Cr, Cs, Ct, Cu, Cv, Cw, Cx, Cy, Cz, Fa, Ea, Eb, Ec, Fb, Fc. -/
import Derived.Test.YtmknebebbbjdlaaGreatW00
import Derived.LoopNIn
import Derived.RangeFuncLeaves
import Derived.Laws.Externs
import Derived.Carry
import Derived.OpenShut
import Derived.ChangeSame
import Derived.Handed
import Derived.JoinedOf
set_option linter.unusedSectionVars false
set_option linter.unusedVariables false
set_option linter.unusedSimpArgs false
set_option linter.defProp false
set_option maxRecDepth 200000
namespace Go.Ce
open Go.RowKit (Below)
inductive LY{α β:Type}(R:α→β→Prop):List α→List β→Prop
 |nil:LY R [] []
 |cons {x:α} {y:β} {xs:List α} {ys:List β}:R x y→LY R xs ys→LY R (x::xs) (y::ys)
def AN.at(a:AN)(i:Nat):Value:=(a.t.get i).getD undef
structure AR(ρ:CJ)(a:AN)(a':Act):Prop where
 tmps:∀i,AS ρ (a.at i) (a'.tmps.getD i undef)
 size:a'.tmps.size=a.nt
 defers:LY (MQ ρ) a.defers a'.defers
theorem forall₂_mono{α β:Type}{R S:α→β→Prop}(h:∀a b,R a b→S a b){l:List α}{m:List β}(k:LY R l m):LY S l m:=by
 induction k with
 |nil=>exact .nil
 |cons hx _ ih=>exact .cons (h _ _ hx) ih
theorem AR.mono{ρ ρ':CJ}{a:AN}{a':Act}(h:AR ρ a a')(e:Ext ρ ρ'):AR ρ' a a' :=
 ⟨λi=>(h.tmps i).mono e,h.size,forall₂_mono (λ_ _ x=>x.mono e) h.defers⟩
structure ARw(ρ:CJ)(a:AN)(a':Act):Prop where
 tmps:a.Nu=false→∀i,AS ρ (a.at i) (a'.tmps.getD i undef)
 size:a'.tmps.size=a.nt
 defers:LY (MQ ρ) a.defers a'.defers
theorem AR.w{ρ:CJ}{a:AN}{a':Act}(h:AR ρ a a'):ARw ρ a a':=⟨λ_=>h.tmps,h.size,h.defers⟩
theorem AN.ADc(a:AN):a.bad.Nu=true:=by
 unfold AN.Nu AN.bad;simp only[Tr.CI,aar]
abbrev ARx(ρ:CJ)(e:Exit)(a:AN)(a':Act):Prop:=match e with
 | .panic _=>ARw ρ a a'
 |_=>AR ρ a a'
theorem AR.x{ρ:CJ}{a:AN}{a':Act}(h:AR ρ a a')(e:Exit):ARx ρ e a a':=by
 cases e<;>first|exact h|exact h.w
theorem AN.SN(a:AN)(t:Tmp):a.eval (.tmp t)=a.at t:=by
 simp only[AN.eval,AN.at]
 cases a.t.get t<;>rfl
theorem AR.eval{ρ:CJ}{a:AN}{a':Act}(h:AR ρ a a')(x:Operand)(hx:Av x=true):AS ρ (a.eval x) (a'.eval x):=by
 cases x with
 |tmp t=>rw[AN.SN];exact h.tmps t
 |const v=>exact .SD ρ 8 v hx
 |global g=>cases hx
 |func f=>exact .func (.func f) rfl (λi hi=>by simp at hi) rfl (λi hi=>by simp at hi)
theorem AN.ng(a:AN)(d:Tmp)(v:Value)(i:Nat):(a.put (some d) v).at i=if i=d then v else a.at i:=by
 simp only[AN.at,AN.put,Tr.CI];split<;>rfl
theorem AR.put{ρ:CJ}{a:AN}{a':Act}(h:AR ρ a a'){d:Option Tmp}(hd:∀t,d=some t→t<a.nt){v v':Value}(hv:AS ρ v v'):AR ρ (a.put d v) (a'.put d v'):=by
 cases d with
 |none=>exact h
 | some d=>
  have hd:=hd d rfl
  refine⟨λi=>?_,?_,h.defers⟩
  ·rw[AN.ng];simp only[Act.put,aal,aaV]
   by_cases e:i=d
   ·subst e;rw[aae rfl,aae rfl,aae (by rw[h.size];exact hd)];exact hv
   ·rw[aad e,aad (ab8 e),←aal];exact h.tmps i
  ·simp only[Act.put,abG];exact h.size
theorem RE{nt:Nat}{o:Oper}(h:i_ nt o=true):∀t,o.dst=some t→t<nt:=by
 intro t ht;unfold i_ at h;rw[ht]at h;exact aaj h
theorem AS.YX{ρ:CJ}{v v':Value}(h:AS ρ v v'):(∃b,v=.bool b∧v'=.bool b)∨((∀b,v≠.bool b)∧∀b,v'≠.bool b):=by
 cases h<;>first|exact .inl ⟨_,rfl,rfl⟩|exact .inr ⟨by simp,by simp⟩
theorem cL{ρ:CJ}{a:AN}{a':Act}(ops:Array Oper)(j:Nat)(h:∀d,(ops[j]?).bind (·.dst)=some d→AS ρ (a.at d) (a'.tmps.getD d undef)):yielded ops a'.tmps j=L8 ops a j:=by
 unfold yielded L8
 cases ho:ops[j]? with
 |none=>rfl
 | some o=>
  cases hd:o.dst with
  |none=>simp[hd]
  | some d=>
   simp only[acf,hd];have hv:=h d (by simp[ho,hd]);simp only[AN.at,aal]at hv
   cases hx:a.t.get d with
   | none=>
    rw[hx]at hv
    cases hy:a'.tmps[d]? with
    |none=>rfl
    |some y=>
     rw[hy]at hv
     rcases hv.YX with⟨b,h1,_⟩|⟨_,h2⟩
     ·simp[undef]at h1
     ·cases y<;>first|rfl|exact(h2 _ rfl).elim
   | some x=>
    rw[hx]at hv;simp only[aaX]at hv
    cases hy:a'.tmps[d]? with
    |none=>
     rw[hy]at hv
     rcases hv.YX with⟨b,_,h2⟩|⟨h1,_⟩
     ·simp[undef]at h2
     ·cases x<;>first|rfl|exact(h1 _ rfl).elim
    | some y=>
     rw[hy]at hv
     rcases hv.YX with⟨b,h1,h2⟩|⟨h1,h2⟩
     ·simp only[aaX]at h2;subst h1;subst h2;rfl
     ·simp only[aaX]at h2
      cases x<;>first|exact(h1 _ rfl).elim|skip
      all_goals cases y<;>first|rfl|exact(h2 _ rfl).elim
theorem AR.yield{ρ:CJ}{a:AN}{a':Act}(h:AR ρ a a')(ops:Array Oper)(j:Nat):yielded ops a'.tmps j=L8 ops a j:=cL ops j λd _=>h.tmps d
theorem AR.wanted{ρ:CJ}{a:AN}{a':Act}(h:AR ρ a a')(ops:Array Oper)(o:Oper):Region.wanted o (yielded ops a'.tmps)=Du ops o a:=by
 unfold Region.wanted Du
 cases o.guard with
 |none=>rfl
 |some p=>
  obtain⟨j,want⟩:=p;simp only[h.yield ops j]
  cases L8 ops a j<;>rfl
structure AHB(ρ:CJ)(p p':PanicEntry):Prop where
 v:AS ρ p.v p'.v
 r:p.recovered=p'.recovered
 g:p.goexit=p'.goexit
abbrev SO(ρ:CJ)(c c':List PanicEntry):Prop:=LY (AHB ρ) c c'
theorem SO.mono{ρ ρ':CJ}{c c':List PanicEntry}(h:SO ρ c c')(e:Ext ρ ρ'):SO ρ' c c':=forall₂_mono (λ_ _ x=>⟨x.v.mono e,x.r,x.g⟩) h
inductive jR(ρ:CJ):Exit→Exit→Prop
 |normal:jR ρ .normal .normal
 |exit (id:Nat):jR ρ (.exit id) (.exit id)
 |ret:jR ρ .ret .ret
 |panic {c c':List PanicEntry}:SO ρ c c'→jR ρ (.panic c) (.panic c')
inductive ABK(ρ:CJ):Ending→Ending→Prop
 |returned {v v':Value}:AS ρ v v'→ABK ρ (.returned v) (.returned v')
 |panicked {c c':List PanicEntry}:SO ρ c c'→ABK ρ (.panicked c) (.panicked c')
def MA(P:Program)(w0:World)(ρ:CJ)(W:CW)(nt:Nat)(outs:List (Exit×AN×CW)):Exit→Act→World→Prop :=
 λe' a' w'=>∃e a W2 ρ2,(e,a,W2)∈outs∧FP W ρ W2 ρ2∧jR ρ2 e e'∧ARx ρ2 e a a'∧Aa P w0 ρ2 W2 w'∧a.nt=nt
def Wo(P:Program)(w0:World)(ρ:CJ)(W:CW)(outs:List (Ending×CW)):Ending→World→Prop :=
 λe' w'=>∃e W2 ρ2,(e,W2)∈outs∧FP W ρ W2 ρ2∧ABK ρ2 e e'∧Aa P w0 ρ2 W2 w'
theorem MA.mono{P:Program}{w0:World}{ρ ρ1:CJ}{W W1:CW}{nt:Nat}{m outs:List (Exit×AN×CW)}{e':Exit}{a':Act}{w':World}(h:MA P w0 ρ1 W1 nt m e' a' w')
  (hg:FP W ρ W1 ρ1) (hs:∀x,x∈m→x∈outs):MA P w0 ρ W nt outs e' a' w' :=
 let ⟨e,a,W2,ρ2,h1,h2,h3,h4,h5,h6⟩:=h
 ⟨e,a,W2,ρ2,hs _ h1,hg.trans h2,h3,h4,h5,h6⟩
def Ex(P:Program)(f:FuncId):Prop:=∃fn,P.funcs[f]?=some fn
def F0(P:Program):Fence:={fn:=Ex P,depth:=none,alive:=false}
theorem AHC(P:Program)(n:Nat):(F0 P).room n:=λ_ h=>by simp[F0]at h
theorem bX{n:Nat}{P:Program}{f:FuncId}{args:Array Value}{w:World}{R:Ending→World→Prop}(h:CallsIn (F0 P) n P f args w R):Calls P f args w R :=
 λcs=>let ⟨e,w',fr,r,s,x⟩:=h.2 cs (AHC P _);⟨e,w',fr,r,(by
  cases e with
  |returned v=>exact StepsIn.steps s
  |panicked chain=>exact StepsIn.steps s
  |outgrown=>exact s),x⟩
def C7(P:Program):Option Nat→Fence
 |none=>F0 P
 |some l=>(F0 P).inRound l
theorem JI{P:Program}(r:Option Nat){f:FuncId}(h:Ex P f):(C7 P r).fn f:=by cases r<;>exact h
theorem nh{P:Program}{r:Option Nat}{f:FuncId}(h:(C7 P r).fn f):Ex P f:=by cases r<;>exact h
theorem QO(P:Program)(r:Option Nat):(C7 P r).round=r:=by cases r<;>rfl
theorem QP(P:Program)(r:Option Nat):(C7 P r).depth=none:=by cases r<;>rfl
theorem QQ{r:Option Nat}{n:Nat}{P:Program}{f:FuncId}{args:Array Value}{w:World}{R:Ending→World→Prop}(h:CallsIn (F0 P) n P f args w R):CallsIn (C7 P r) n P f args w R:=by
 cases r<;>exact h
def EN(P:Program):Prop:=∀f fn,P.funcs[f]?=some fn→fn.body.isSome=true→∀args w,(callFunc f args).run P w=.ok (.enter f args) w
inductive Lj(ρ:CJ):Option Nat→Option Nat→Prop
 |none:Lj ρ none none
 |some {l l':Nat}:OL ρ l l'→Lj ρ (some l) (some l')
structure RS(P:Program)(w0:World)(wi:Nat→Bool→Code→Bool)(R:Dl):Prop where
 eqv:∀u v,R.eqv u v=true→u=v
 ex:∀{f:FuncId} {args:List Value} {W:CW} {outs:List (Ending×CW)},R.call f args W=some outs→Ex P f
 code:∀{ro Iy:Option Nat} {fn:FuncId} {c:Code} {a:AN} {W:CW} {outs:List (Exit×AN×CW)} {ρ:CJ} {w:World} {a':Act},R.code ro fn c a W=some outs→Lj ρ ro Iy→AR ρ a a'→Aa P w0 ρ W w→
  wi a.nt ro.isSome c=true→∀n,c.wpIn (C7 P Iy) n P (MA P w0 ρ W a.nt outs) a' w
 call:∀{f:FuncId} {args:List Value} {W:CW} {outs:List (Ending×CW)} {ρ:CJ} {w:World} {args':Array Value},R.call f args W=some outs→A4 ρ args args'.toList→Aa P w0 ρ W w→
  (callFunc f args').run P w=.ok (.enter f args') w∧∀n,CallsIn (F0 P) n P f args' w (Wo P w0 ρ W outs)
 round:∀{l l':Nat} {args:List Value} {W:CW} {outs:List (Ending×CW)} {ρ:CJ} {w:World} {args':Array Value},R.round l args W=some outs→OL ρ l l'→A4 ρ args args'.toList→Aa P w0 ρ W w→
  ∃f t as bd,(Instr.yield l' args').run P w=.ok (.round l' f t as bd) w∧∀(r:Option Nat) n,RoundIn (C7 P r) n P l' f t as bd w (Wo P w0 ρ W outs)
theorem cM{α β:Type}{f:α→Option (List β)}:∀{l:List α} {r:List β},R9 f l=some r→∀x,x∈l→∃m,f x=some m∧∀y,y∈m→y∈r
 |[],r,_,x,hx=>by cases hx
 | z::l,r,h,x,hx=>by
  simp only[R9]at h
  cases hz:f z with
  |none=>rw[hz]at h;cases h
  | some lz=>
   rw[hz]at h
   cases hl:R9 f l with
   |none=>rw[hl]at h;cases h
   |some ll=>
    rw[hl]at h
    cases h
    rcases aaJ.1 hx with rfl|hx
    ·exact⟨lz,hz,λy hy=>by simp[hy]⟩
    ·obtain⟨m,hm,hs⟩:=cM hl x hx;exact⟨m,hm,λy hy=>by simp[hs y hy]⟩
theorem C5{α β:Type}{o:Option (List α)}{f:α→Option (List β)}{r:List β}(h:EO o f=some r):∃l,o=some l∧∀x,x∈l→∃m,f x=some m∧∀y,y∈m→y∈r:=by
 cases o with
 |none=>cases h
 |some l=>exact⟨l,rfl,cM h⟩
section
variable {P:Program}{w0:World}{wi:Nat→Bool→Code→Bool}{R:Dl}
theorem YY{o:Oper}{w:World}{e':Operand→Value}(h:∀c,o.op≠.call c):∀f,o.about P w e'=some f→Ex P f:=by
 intro f hf;unfold Oper.about at hf
 split at hf
 ·rename_i c hc;exact(h c hc).elim
 ·cases hf
theorem SP{o:Oper}{w:World}{e':Operand→Value}{c:Call}(hc:o.op=.call c){f:FuncId}(hf:o.about P w e'=some f):∃x,c.callee=.value x∨∃r n,c.callee=.invoke r n:=by
 unfold Oper.about at hf;rw[hc]at hf
 cases Fh:c.callee with
 |value x=>exact⟨x,.inl rfl⟩
 |invoke r n=>exact⟨r,.inr ⟨r,n,rfl⟩⟩
 |builtin b=>
  simp only[resolve,Fh,aai,Target.leads]at hf
  cases hf
theorem YZ{o:Oper}{w:World}{e':Operand→Value}{c:Call}(hc:o.op=.call c){x:Operand}(hx:c.callee=.value x){g:FuncId}{p q:Array Value}(hv:e' x=.func (.func g) p q){f:FuncId}(hf:o.about P w e'=some f):f=g:=by
 unfold Oper.about at hf;rw[hc]at hf;simp only[resolve,hx,hv,Deferred.ofValue,aai,Target.leads]at hf;exact(abL hf).symm
theorem jS{o:Oper}{w:World}{e':Operand→Value}{c:Call}(hc:o.op=.call c){x:Operand}(hx:c.callee=.value x){g:Nat}{p q:Array Value}(hv:e' x=.func (.yield g) p q){f:FuncId}(hf:o.about P w e'=some f):False:=by
 unfold Oper.about at hf;rw[hc]at hf;simp only[resolve,hx,hv,Deferred.ofValue,aai,Target.leads]at hf
 cases hf
theorem OV{o:Oper}{w:World}{a':Act}(Al:YP o=true)(hg:R_ P o=true)(hgd:o.guard≠none):∀f,o.about P w a'.eval=some f→Ex P f:=by
 intro f hf
 by_cases Fo:∃c,o.op=.call c
 ·obtain⟨c,hc⟩:=Fo
  obtain⟨x,hx|⟨r,n,hx⟩⟩:=SP hc hf
  ·unfold R_ at hg
   cases hgg:o.guard with
   |none=>exact(hgd hgg).elim
   | some p=>
    rw[hgg,hc]at hg;simp only[hx]at hg
    cases x with
    |func g=>
     have:=YZ hc hx (g:=g) (p:=#[]) (q:=#[]) rfl hf;subst this;exact abr.1 hg
    |_=>cases hg
  ·unfold YP at Al;rw[hc]at Al;simp only[hx,Bool.and_false]at Al
   cases Al
 ·exact YY (λc hc=>Fo ⟨c,hc⟩) f hf
theorem OW{ρ:CJ}{W:CW}{w:World}{o:Oper}{e e':Operand→Value}{outs:List (B_×CW)}(hc:Bm P o e W=some outs)(Al:YP o=true)(fP:∀x,x∈o.op.operands→Av x=true→AS ρ (e x) (e' x))
  (hx:∀{f:FuncId} {args:List Value} {W1:CW},(B_.enter f args,W1)∈outs→Ex P f):∀f,o.about P w e'=some f→Ex P f:=by
 intro f hf
 by_cases Fo:∃c,o.op=.call c
 ·obtain⟨c,Fh⟩:=Fo
  obtain⟨x,UI|⟨r,n,UI⟩⟩:=SP Fh hf
  ·have AKo:Av x=true:=by
    unfold YP at Al;rw[Fh]at Al;simp only[UI,aab]at Al;exact Al.2
   have hv:=fP x (by rw[Fh];simp[Op.operands,Call.operands,UI]) AKo;simp only[Bm,Fh,UI]at hc
   split at hc
   ·rename_i g as Hp;unfold KA at Hp
    split at Hp
    ·rename_i g1 p q he
     cases Hp
     rw[he]at hv;generalize hq:e' x=y at hv
     cases hv with
     | func fI _ _ _ _=>
      cases fI
      have:=YZ Fh UI hq hf;subst this
      split at hc
      ·rename_i v W1 hce;unfold Lg at hce
       split at hce
       ·rename_i fn fI;exact⟨fn,fI⟩
       ·cases hce
      ·cases hc
       exact hx (dy.2 rfl)
    ·cases Hp
    ·cases Hp
   ·rename_i nx G_ Hp;unfold KA at Hp
    split at Hp
    ·cases Hp
     exact(G_ _ _ rfl).elim
    ·rename_i l p q he;rw[he]at hv;generalize hq:e' x=y at hv
     cases hv with
     |func fI _ _ _ _=>
      cases fI
      exact(jS Fh UI hq hf).elim
    ·cases Hp
   ·cases hc
  ·unfold YP at Al;rw[Fh]at Al;simp only[UI,Bool.and_false]at Al
   cases Al
 ·exact YY (λc hc=>Fo ⟨c,hc⟩) f hf
theorem OX{ops:Array Oper}{o:Oper}{a:AN}(h:Du ops o a=false):o.guard≠none:=by
 intro hg;unfold Du at h;rw[hg]at h
 cases h
theorem Hz{ρ:CJ}{W:CW}{o:Oper}{a':Act}{w:World}{outs:List (B_×CW)}{Iy:Option Nat}{n:Nat}{K:Act→World→Prop}{Q:Exit→Act→World→Prop}(hR:RS P w0 wi R)
  (hab:∀f,o.about P w a'.eval=some f→Ex P f) (h:BU P w0 ρ W ((execOp a'.eval o).run P w) outs) (hro:Iy=none∨∀c,o.op≠.defer c)
  (hv:∀{v v':Value} {W1:CW} {ρ1:CJ} {w1:World},(B_.value v,W1)∈outs→FP W ρ W1 ρ1→AS ρ1 v v'→Aa P w0 ρ1 W1 w1→K (a'.put o.dst v') w1)
  (hs:∀{W1:CW} {ρ1:CJ} {w1:World},(B_.skip,W1)∈outs→FP W ρ W1 ρ1→Aa P w0 ρ1 W1 w1→K (a'.put o.dst undef) w1)
  (hd:∀{d d':Deferred} {W1:CW} {ρ1:CJ} {w1:World},(B_.defer d,W1)∈outs→FP W ρ W1 ρ1→MQ ρ1 d d'→Aa P w0 ρ1 W1 w1→K ({a' with defers:=d'::a'.defers}.put o.dst undef) w1)
  (he:∀{f:FuncId} {args:List Value} {W1:CW},(B_.enter f args,W1)∈outs→∃m,R.call f args W1=some m∧∀{ρ1:CJ},FP W ρ W1 ρ1→∀e2 w2,Wo P w0 ρ1 W1 m e2 w2→
   (∀v',e2=.returned v'→K (a'.put o.dst v') w2)∧∀c',e2=.panicked c'→Q (.panic c') a' w2)
  (hr:∀{l:Nat} {args:List Value} {W1:CW},(B_.round l args,W1)∈outs→∃m,R.round l args W1=some m∧∀{ρ1:CJ},FP W ρ W1 ρ1→∀e2 w2,Wo P w0 ρ1 W1 m e2 w2→
   (∀v',e2=.returned v'→K (a'.put o.dst v') w2)∧∀c',e2=.panicked c'→Q (.panic c') a' w2)
  (jT:∀{W1:CW},(B_.recover,W1)∉outs)
  (hp:∀{v v':Value} {W1:CW} {ρ1:CJ} {w1:World},(B_.panic v,W1)∈outs→FP W ρ W1 ρ1→AS ρ1 v v'→Aa P w0 ρ1 W1 w1→Q (.panic [{v:=v',recovered:=false}]) a' w1) :
  o.wpIn (C7 P Iy) n P a' w K Q:=by
 refine⟨λf hf=>JI _ (hab f hf),?_⟩
 have AKp:o.semAt (C7 P Iy).round a'.eval=execOp a'.eval o:=by
  rw[QO]
  rcases hro with rfl|hro
  ·rfl
  ·exact Oper.semAt_eq _ _ _ hro
 rw[AKp];have AHD:(C7 P Iy).depth.isSome=true→1≤n:=by rw[QP];simp
 obtain⟨n0,W1,ρ1,hm,hg,hn⟩:=h
 cases hn with
 |value hr ID KR=>rw[hr];exact hv hm hg ID KR
 |skip hr KR=>rw[hr];exact hs hm hg KR
 | @enter f args args' w' hr ha KR=>
  rw[hr];obtain⟨m,CU,hk⟩:=he hm;obtain⟨h1,h2⟩:=hR.call CU ha KR;rw[h1];refine⟨AHD,QQ ((h2 (n-1)).mono λe2 w2 hE=>?_)⟩;have:=hk hg e2 w2 hE;obtain⟨e,W2,ρ2,_,_,hN,_⟩:=hE
  cases hN with
  |returned _=>exact this.1 _ rfl
  |panicked _=>exact this.2 _ rfl
 | @round l l' args args' w' JY hb ha KR=>
  rw[JY];obtain⟨m,CU,hk⟩:=hr hm;obtain⟨f,t,as,bd,h1,h2⟩:=hR.round CU hb ha KR;rw[h1];refine⟨AHD,(h2 Iy (n-1)).mono λe2 w2 hE=>?_⟩;have:=hk hg e2 w2 hE;obtain⟨e,W2,ρ2,_,_,hN,_⟩:=hE
  cases hN with
  |returned _=>exact this.1 _ rfl
  |panicked _=>exact this.2 _ rfl
 |defer hr hd' KR=>rw[hr];exact hd hm hg hd' KR
 |recover _ _=>exact(jT hm).elim
 |panic hr ID KR=>rw[hr];exact hp hm hg ID KR
theorem AN.B9(a:AN)(d:Option Tmp)(v:Value):(a.put d v).nt=a.nt:=by cases d<;>rfl
theorem AN.put_defers(a:AN)(d:Option Tmp)(v:Value):(a.put d v).defers=a.defers:=by cases d<;>rfl
theorem jU(hz:ZP P)(hR:RS P w0 wi R){ops:Array Oper}{Iy:Option Nat}{n:Nat}:∀(rest:List Oper) (i:Nat) (a:AN) (W:CW) (outs:List (Exit×AN×CW)) (ρ:CJ) (a':Act) (w:World) (Q:Exit→Act→World→Prop),
  ops.toList.drop i=rest→GO P R ops rest a W=some outs→MP P a.nt Iy.isSome rest=true→AR ρ a a'→Aa P w0 ρ W w→(∀e a2 w2,MA P w0 ρ W a.nt outs e a2 w2→Q e a2 w2)→
  wpOpsIn (C7 P Iy) n P ops Q (List.range' i rest.length) a' w:=by
 intro rest
 induction rest with
 |nil=>
  intro i a W outs ρ a' w Q _ h _ ha hw hQ;simp only[GO,aam]at h;subst h;exact hQ _ _ _ ⟨_,_,_,ρ,dy.2 rfl,.refl _,.normal,ha,hw,rfl⟩
 | cons o rest ih=>
  intro i a W outs ρ a' w Q SQ h Al ha hw hQ
  have ho:ops[i]?=some o:=by
   have:ops.toList[i]?=some o:=by
    have:=ab3 (·[0]?) SQ
    simpa[abq]using this
   simpa using this
  have NI:ops.toList.drop (i+1)=rest:=by
   have:=ab3 List.tail SQ
   simpa using this
  simp only[MP,abv,aab]at Al;obtain⟨⟨⟨⟨LZ,tV⟩,bY⟩,Ui⟩,Uj⟩:=Al;have Uj:∀{nt:Nat},nt=a.nt→MP P nt Iy.isSome rest=true:=λe=>by subst e;exact Uj
  have hd:=RE bY;simp only[aaw,List.range'_succ,wpOpsIn,ho];rw[ha.wanted ops o];rw[GO]at h
  cases IM:Du ops o a with
  |false=>
   rw[IM]at h;simp only at h;rw[aad (by simp)];refine⟨λf hf=>JI _ (OV LZ tV (OX IM) f hf),?_⟩;refine ih (i+1) _ _ _ ρ _ _ Q NI h (Uj (AN.B9 _ _ _)) (ha.put hd (.undef _)) hw λe a2 w2 hc=>hQ e a2 w2 ?_
   rwa[AN.B9]at hc
  | true=>
   rw[IM]at h;simp only at h;rw[aae rfl];obtain⟨l,hl,C3⟩:=C5 h;have hS:=SM (o:=o) hz LZ (e:=a.eval) (e':=a'.eval) (λ_=>rfl) (λx _ hx=>ha.eval x hx) hw hl
   have hab:=OW (w:=w) (e':=a'.eval) hl LZ (λx _ hx=>ha.eval x hx) (λ{f args W1} hm=>by
    obtain⟨m,CU,_⟩:=C3 _ hm;obtain⟨m3,wj,_⟩:=C5 CU
    exact hR.ex wj)
   refine Hz hR hab hS ?_ ?_ ?_ ?_ ?_ ?_ ?_ ?_
   ·simp only[aaU,aaK]at Ui
    rcases Ui with h1|h1
    ·left;cases Iy with
     |none=>rfl
     |some _=>cases h1
    ·right;intro c hc;unfold R' at h1;rw[hc]at h1;cases h1
   ·intro v v' W1 ρ1 w1 hm hg hv Fi;obtain⟨m,CU,Dg⟩:=C3 _ hm;refine ih (i+1) _ _ _ ρ1 _ _ Q NI CU (Uj (AN.B9 _ _ _)) ((ha.mono hg.1).put hd hv) Fi λe a2 w2 hc=>hQ e a2 w2 (MA.mono ?_ hg Dg)
    rwa[AN.B9]at hc
   ·intro W1 ρ1 w1 hm hg Fi;obtain⟨m,CU,Dg⟩:=C3 _ hm;refine ih (i+1) _ _ _ ρ1 _ _ Q NI CU (Uj (AN.B9 _ _ _)) ((ha.mono hg.1).put hd (.undef _)) Fi λe a2 w2 hc=>hQ e a2 w2 (MA.mono ?_ hg Dg)
    rwa[AN.B9]at hc
   ·intro d d' W1 ρ1 w1 hm hg OY Fi;obtain⟨m,CU,Dg⟩:=C3 _ hm;have h1:=ha.mono hg.1;have hA:AR ρ1 {a with defers:=d::a.defers} {a' with defers:=d'::a'.defers}:=⟨h1.tmps,h1.size,.cons OY h1.defers⟩
    refine ih (i+1) _ _ _ ρ1 _ _ Q NI CU (Uj (AN.B9 _ _ _)) (hA.put hd (.undef _)) Fi λe a2 w2 hc=>hQ e a2 w2 (MA.mono ?_ hg Dg)
    rwa[AN.B9]at hc
   ·intro f args W1 hm;obtain⟨m,CU,Dg⟩:=C3 _ hm;obtain⟨m3,wj,xh⟩:=C5 CU;refine⟨m3,wj,λ{ρ1} hg e2 w2 hE=>?_⟩;obtain⟨e,W2,ρ2,JJ,OF,hN,Hl⟩:=hE;obtain⟨m4,xi,jV⟩:=xh _ JJ
    refine⟨λv' he=>?_,λc' he=>?_⟩
    ·subst he
     cases hN with
     |returned hv=>
      refine ih (i+1) _ _ _ ρ2 _ _ Q NI xi (Uj (AN.B9 _ _ _)) ((ha.mono (hg.trans OF).1).put hd hv) Hl λe a2 w2 hc=>hQ e a2 w2 (MA.mono ?_ (hg.trans OF) λx hx=>Dg x (jV x hx))
      rwa[AN.B9]at hc
    ·subst he
     cases hN with
     | @panicked c _ Jt=>
      simp only[aam]at xi;subst xi;exact hQ _ _ _ ⟨_,_,_,ρ2,Dg _ (jV _ (dy.2 rfl)),hg.trans OF,.panic Jt,(ha.mono (hg.trans OF).1).w,Hl,rfl⟩
   ·intro f args W1 hm;obtain⟨m,CU,Dg⟩:=C3 _ hm;obtain⟨m3,wj,xh⟩:=C5 CU;refine⟨m3,wj,λ{ρ1} hg e2 w2 hE=>?_⟩;obtain⟨e,W2,ρ2,JJ,OF,hN,Hl⟩:=hE;obtain⟨m4,xi,jV⟩:=xh _ JJ
    refine⟨λv' he=>?_,λc' he=>?_⟩
    ·subst he
     cases hN with
     |returned hv=>
      refine ih (i+1) _ _ _ ρ2 _ _ Q NI xi (Uj (AN.B9 _ _ _)) ((ha.mono (hg.trans OF).1).put hd hv) Hl λe a2 w2 hc=>hQ e a2 w2 (MA.mono ?_ (hg.trans OF) λx hx=>Dg x (jV x hx))
      rwa[AN.B9]at hc
    ·subst he
     cases hN with
     | @panicked c _ Jt=>
      simp only[aam]at xi;subst xi;exact hQ _ _ _ ⟨_,_,_,ρ2,Dg _ (jV _ (dy.2 rfl)),hg.trans OF,.panic Jt,(ha.mono (hg.trans OF).1).w,Hl,rfl⟩
   ·intro W1 hm;obtain⟨m,CU,_⟩:=C3 _ hm
    cases CU
   ·intro v v' W1 ρ1 w1 hm hg hv Fi;obtain⟨m,CU,Dg⟩:=C3 _ hm;simp only[aam]at CU;subst CU;exact hQ _ _ _ ⟨_,_,_,ρ1,Dg _ (dy.2 rfl),hg,.panic (.cons ⟨hv,rfl,rfl⟩ .nil),(ha.mono hg.1).w,Fi,rfl⟩
end
theorem Lk{x y:Array Value}{P:Value→Value→Bool}(hs:Nat.beq x.size y.size=true)(h:(x.toList.zip y.toList).all (λ(v,w)=>P v w)=true)(hp:∀v w,P v w=true→v=w):x=y:=by
 have hs:=aac hs
 have key:∀(l m:List Value),l.length=m.length→(l.zip m).all (λ(v,w)=>P v w)=true→l=m:=by
  intro l
  induction l with
  |nil=>intro m hm _;cases m with
   |nil=>rfl
   |cons _ _=>simp at hm
  | cons v l ih=>
   intro m hm C3
   cases m with
   |nil=>simp at hm
   |cons w m=>
    simp only[abp,abv,aab]at C3;rw[hp _ _ C3.1,ih m (by simpa using hm) C3.2]
 have:=key x.toList y.toList (by simpa using hs) h;exact acE this
theorem H0:∀(n:Nat) (v w:Value),e_ n v w=true→v=w:=by
 intro n
 induction n with
 |zero=>intro v w h;simp[e_]at h
 | succ n ih=>
  intro v w h;unfold e_ at h;split at h<;>first|(exact(Bool.false_ne_true h).elim)|skip
  all_goals (try simp only[aab]at h)
  all_goals first
   |rfl
   |(have:=eq_of_beq h;subst this;rfl)
   |(have:=MR h;subst this;rfl)
   |(obtain⟨h1,h2⟩:=h;have h1:=of_decide_eq_true h1;have h2:=eq_of_beq h2;subst h1;subst h2;rfl)
   |(obtain⟨h1,h2⟩:=h;have h1:=aac h1;have h2:=aac h2;subst h1;subst h2;rfl)
   |(obtain⟨⟨⟨h1,h2⟩,h3⟩,h4⟩:=h;have h1:=aac h1;have h2:=aac h2;have h3:=aac h3;have h4:=aac h4;subst h1;subst h2;subst h3;subst h4;rfl)
   |(have h:=aac h;subst h;rfl)
   |(obtain⟨h1,h2⟩:=h;have h1:=aac h1;have h2:=ih _ _ h2;subst h1;subst h2;rfl)
   |(obtain⟨h1,h2⟩:=h;rw[Lk h1 h2 (λv w=>ih v w)])
   |(obtain⟨⟨⟨⟨h1,h2⟩,h3⟩,h4⟩,h5⟩:=h;have h1:=aac h1;rw[h1,Lk h2 h4 (λv w=>ih v w),Lk h3 h5 (λv w=>ih v w)])
theorem xj:∀{xs ys:List Value},ADP xs ys=true→xs=ys:=by
 intro xs ys h;simp only[ADP,aab]at h;have:=Lk (x:=xs.toArray) (y:=ys.toArray) (P:=e_ 8) (by simpa using h.1) (by simpa using h.2) (λv w=>H0 8 v w)
 simpa using ab3 Array.toList this
theorem ni{a b:Option Value}(h:ADQ a b=true):a=b:=by
 cases a<;>cases b<;>first|rfl|(simp[ADQ]at h;done)|skip
 rw[H0 8 _ _ h]
theorem tW:∀(n:Nat) (a b:Tr Value),teq n a b=true→a=b:=by
 intro n
 induction n with
 |zero=>intro a b h;cases a<;>cases b<;>first|rfl|simp[teq]at h
 |succ n ih=>
  intro a b h
  cases a<;>cases b<;>first|rfl|(simp[teq]at h;done)|skip
  simp only[teq,aab]at h;rw[ni h.1.1,ih _ _ h.1.2,ih _ _ h.2]
theorem tX{a b:MapEntry}(h:meq a b=true):a=b:=by
 simp only[meq,aab]at h;obtain⟨k,v,n⟩:=a;obtain⟨k',v',n'⟩:=b;have h1:=H0 8 _ _ h.1.1;have h2:=H0 8 _ _ h.1.2;have h3:=aac h.2;simp only at h1 h2 h3;rw[h1,h2,h3]
theorem nj{a b:BF}(h:ADR a b=true):a=b:=by
 unfold ADR at h
 split at h<;>first|(cases h;done)|skip
 ·simp only[aab]at h;obtain⟨⟨⟨h1,h2⟩,h3⟩,h4⟩:=h;have h1:=aac h1;have h2:=aac h2;have h3:=acE (xj h3);have h4:=tW _ _ _ h4;rw[h1,h2,h3,h4]
 ·rename_i es k DO k';simp only[aab]at h;obtain⟨⟨h1,h2⟩,h3⟩:=h;have h1:=aac h1;have h2:=aac h2
  have key:∀(l m:List MapEntry),l.length=m.length→((l.zip m).all λ(a,b)=>meq a b)=true→l=m:=by
   intro l
   induction l with
   |nil=>intro m hm _;cases m with
    |nil=>rfl
    |cons _ _=>simp at hm
   | cons v l ih=>
    intro m hm C3
    cases m with
    |nil=>simp at hm
    |cons w m=>
     simp only[abp,abv,aab]at C3;rw[tX C3.1,ih m (by simpa using hm) C3.2]
  rw[h1,key es DO h2 h3]
 ·rfl
def Yg(W We:CW):Prop:=(∀i o,W.h.get i=some o→We.h.get i=some o)∧We.sz≤W.sz
theorem cN:∀(n:Nat) (a b:Tr BF) (i:Nat) (o:BF),(Vw n a b).get i=some o→a.get i=some o∧b.get i=some o:=by
 intro n
 induction n with
 |zero=>intro a b i o h;simp[Vw,Tr.get_nil]at h
 | succ n ih=>
  intro a b i o h
  cases a with
  |nil=>simp[Vw,Tr.get_nil]at h
  | node l v r=>
   cases b with
   |nil=>simp[Vw,Tr.get_nil]at h
   | node l' v' r'=>
    simp only[Vw]at h;rw[Tr.HJ]at h ⊢;rw[Tr.HJ]
    split at h
    ·rename_i hi;simp only[aae hi]
     cases v<;>cases v'<;>simp only[ACt]at h<;>first|(cases h;done)|skip
     rw[cond_eq_ite]at h
     split at h
     ·rename_i hc
      cases h
      rw[nj hc];exact⟨rfl,rfl⟩
     ·cases h
    ·rename_i hi;simp only[aad hi]
     split at h
     ·rename_i hm;simp only[aae hm];exact ih _ _ _ _ h
     ·rename_i hm;simp only[aad hm];exact ih _ _ _ _ h
theorem jW(W W':CW):Yg (meet W W') W∧Yg (meet W W') W' :=
 ⟨⟨λi o h=>(cN _ _ _ i o h).1,abh _ _⟩,⟨λi o h=>(cN _ _ _ i o h).2,aa2 _ _⟩⟩
theorem Yg.refl(W:CW):Yg W W:=⟨λ_ _ h=>h,aag _⟩
theorem Yg.trans{W W1 W2:CW}(h:Yg W W1)(k:Yg W1 W2):Yg W W2:=⟨λi o x=>k.1 i o (h.1 i o x),aa5 k.2 h.2⟩
theorem SR:∀{m:List (Ending×CW)} {v:Value} {W:CW},LA m=some (v,W)→∀e We,(e,We)∈m→e=.returned v∧Yg W We
 |[],v,W,h,e,We,hm=>by cases hm
 |[(.returned u,W1)],v,W,h,e,We,hm=>by
  simp only[LA,aam,aau]at h;obtain⟨rfl,rfl⟩:=h;simp only[dy,aau]at hm;obtain⟨rfl,rfl⟩:=hm;exact⟨rfl,.refl _⟩
 | (.returned u,W1)::x::rest,v,W,h,e,We,hm=>by
  simp only[LA]at h
  cases hr:LA (x::rest)with
  |none=>rw[hr]at h;cases h
  | some p=>
   obtain⟨u',W'⟩:=p;rw[hr]at h;simp only[cond_eq_ite]at h
   split at h
   ·rename_i hv;have hv:=H0 8 _ _ hv;simp only[aam,aau]at h;obtain⟨rfl,rfl⟩:=h
    rcases aaJ.1 hm with h1|h1
    ·simp only[aau]at h1;obtain⟨rfl,rfl⟩:=h1;exact⟨rfl,(jW _ _).1⟩
    ·obtain⟨h2,h3⟩:=SR hr e We h1;exact⟨by rw[h2,hv],(jW W1 W').2.trans h3⟩
   ·cases h
 |(.panicked _,_)::[],_,_,h,_,_,_=>by simp[LA]at h
 |(.panicked _,_)::_::_,_,_,h,_,_,_=>by simp[LA]at h
 |(.outgrown,_)::[],_,_,h,_,_,_=>by simp[LA]at h
 |(.outgrown,_)::_::_,_,_,h,_,_,_=>by simp[LA]at h
section
variable {P:Program}{w0:World}{ρ:CJ}{W:CW}{w:World}
theorem Aa.sub{We:CW}(h:Aa P w0 ρ We w)(hs:Yg W We):Aa P w0 ρ W w :=
 ⟨λi x hx=>abz (h.Wi i x hx) hs.2,λi o ho=>abz (h.top i o (hs.1 i o ho)) hs.2,λi o x ho hd hx=>h.live i o x (hs.1 i o ho) hd hx,
  λi j o u x y ho hd hu wY=>h.inj i j o u x y (hs.1 i o ho) hd (hs.1 j u hu) wY,h.below⟩
theorem NJ{m:List (Ending×CW)}{v:Value}{W2:CW}(h:merged (some m)=some [(.returned v,W2)]){W1:CW}{e2:Ending}{w2:World}(hE:Wo P w0 ρ W1 m e2 w2) :
  ∃v' ρ2,e2=.returned v'∧FP W1 ρ W2 ρ2∧AS ρ2 v v'∧Aa P w0 ρ2 W2 w2:=by
 obtain⟨e,We,ρ2,hm,hg,hN,hw⟩:=hE
 have key:e=.returned v∧Yg W2 We:=by
  unfold merged at h
  split at h
  ·rename_i x y l heq
   cases heq
   cases hme:LA (x::y::l)with
   |none=>rw[hme]at h;cases h
   |some p=>
    obtain⟨u,W'⟩:=p;rw[hme]at h;simp only[aam,ab_,aau,Ending.returned.injEq,and_true]at h;obtain⟨rfl,rfl⟩:=h;exact SR hme e We hm
  ·cases h
   simp only[dy,aau]at hm;obtain⟨rfl,rfl⟩:=hm;exact⟨rfl,.refl _⟩
 obtain⟨rfl,hs⟩:=key
 cases hN with
 |returned hv=>exact⟨_,ρ2,rfl,⟨hg.1,hg.2.1,aa5 hg.2.2 hs.2⟩,hv,hw.sub hs⟩
end
theorem Jg{l:List Nat}{i:Nat}:C_ l i=true↔i∈l:=by
 simp only[C_,aaQ]
 constructor
 ·rintro⟨x,hx,h⟩;have:=aac h;subst this;exact hx
 ·intro h;exact⟨i,h,by simp⟩
theorem Yh:∀{xs l:List Nat} {x:Nat},x∈ey l xs→x∈l∨x∈xs
 |[],l,x,h=>.inl h
 | y::ys,l,x,h=>by
  simp only[ey]at h
  rcases Yh h with h|h
  ·rw[cond_eq_ite]at h
   split at h
   ·exact .inl h
   ·rcases aaB.1 h with h|h
    ·exact .inl h
    ·right;rw[dy.1 h];simp
  ·exact .inr (by simp[h])
theorem jX{ops:Array Oper}{L:Nat→Prop}(hc:∀i,L i→∀p,p∈iV ops i→L p):∀(f:Nat) (l:List Nat),(∀x,x∈l→L x)→∀x,x∈ABD ops f l→L x
 |0,l,h,x,hx=>h x hx
 | f+1,l,h,x,hx=>by
  simp only[ABD,cond_eq_ite]at hx
  split at hx
  ·exact h x hx
  ·refine jX hc f _ (λy hy=>?_) x hx
   rcases Yh hy with hy|hy
   ·exact h y hy
   ·obtain⟨z,hz,xG⟩:=List.mem_flatMap.1 hy;exact hc z (h z hz) y xG
theorem IP{ops:Array Oper}{L:Nat→Prop}(hc:∀i,L i→∀p,p∈iV ops i→L p){i:Nat}(hi:∀p,p∈iV ops i→L p){j:Nat}(h:C_ (G' ops i) j=true):L j :=
 jX hc _ _ hi j (Jg.1 h)
section TT
variable (dst:Nat→Option Tmp)(val:Nat→Value)(base:Nat→Value)
def TT(L:Nat→Bool):Nat→Nat→Value
 |0,d=>base d
 |k+1,d=>if L k=true∧dst k=some d then val k else TT L k d
variable {dst val base}
theorem SS{L L':Nat→Bool}{d:Nat}:∀{k:Nat},(∀j,j<k→dst j=some d→L j=L' j)→TT dst val base L k d=TT dst val base L' k d
 |0,_=>rfl
 |k+1,h=>by
  simp only[TT];have ih:=SS (k:=k) (L:=L) (L':=L') λj hj=>h j (by omega)
  by_cases hd:dst k=some d
  ·rw[h k (by omega) hd,ih]
  ·rw[aad (λh=>hd h.2),aad (λh=>hd h.2),ih]
theorem Yi{L:Nat→Bool}{d:Nat}{i:Nat}:∀{k:Nat},i≤k→(∀j,i≤j→j<k→dst j=some d→L j=false)→TT dst val base L k d=TT dst val base L i d
 |0,h,_=>by have:i=0:=(by omega);subst this;rfl
 |k+1,h,hl=>by
  by_cases e:i=k+1
  ·subst e;rfl
  ·rw[TT,aad (λhh=>by have:=hl k (by omega) (by omega) hh.2;rw[this]at hh;cases hh.1)];exact Yi (by omega) λj h1 h2=>hl j h1 (by omega)
theorem ABL{L:Nat→Bool}{d i n:Nat}(hi:i≤n)(h1:∀j,j<i→dst j=some d→L j=true)(h2:∀j,i≤j→j<n→dst j=some d→L j=false) :
  TT dst val base L n d=TT dst val base (λ_=>true) i d:=by
 rw[Yi hi h2];exact SS λj hj hd=>h1 j hj hd
theorem ADd{L L':Nat→Bool}{i n:Nat}(hi:i<n)(hL:∀j,L' j=true↔(L j=true∨j=i))(h:∀j,i<j→j<n→dst i≠none→dst j=dst i→L j=false)(d:Nat) :
  TT dst val base L' n d=if dst i=some d then val i else TT dst val base L n d:=by
 by_cases hd:dst i=some d
 ·rw[aae hd]
  rw[Yi (i:=i+1) (by omega) λj h1 h2 fQ=>?_]
  ·rw[TT,aae ⟨(hL i).2 (.inr rfl),hd⟩]
  ·have:=h j (by omega) h2 (by rw[hd];simp) (by rw[fQ,hd])
   cases hx:L' j with
   |false=>rfl
   |true=>
    rcases(hL j).1 hx with h3|h3
    ·rw[this]at h3;cases h3
    ·omega
 ·rw[aad hd];refine SS λj hj fQ=>?_;have D3:j≠i:=λe=>hd (by rw[←e];exact fQ)
  cases hx:L j with
  |true=>exact(hL j).2 (.inl hx)
  | false=>
   cases hy:L' j with
   |false=>rfl
   |true=>
    rcases(hL j).1 hy with h3|h3
    ·rw[hx]at h3;cases h3
    ·exact(D3 h3).elim
end TT
def gw:List (Nat×CW)→CW→CW
 |[],W=>W
 |(_,Wq)::A,_=>gw A Wq
theorem WB{ops:Array Oper}{i:Nat}{an:List Nat}{ok:CW→Bool}:∀{A B:List (Nat×CW)} {W:CW},Dw ops i an ok (A++B) W=true→(∀x,x∈A→C_ an x.1=false)→
  (∀j Wj B',B=(j,Wj)::B'→anc ops j i=false)→ok (gw A W)=true
 | [],B,W,h,_,hb=>by
  simp only[abi]at h
  cases B with
  |nil=>exact h
  |cons x B=>
   obtain⟨j,Wj⟩:=x;simp only[Dw,aab,aaU]at h
   rcases h.1 with h1|h1
   ·rw[hb j Wj B rfl]at h1;cases h1
   ·exact h1
 |(q,Wq)::A,B,W,h,ha,hb=>by
  simp only[acB,Dw,aab]at h;have hq:=ha (q,Wq) (by simp);simp only at hq;rw[hq]at h;simp only[cond_false]at h;exact WB (A:=A) (B:=B) (W:=Wq) h.2 (λx hx=>ha x (by simp[hx])) hb
section run
variable (P:Program)
inductive GP(R:Dl)(ops:Array Oper)(fl:List (Nat×Value×Option BF))(nv:Nat→Bool)(i:Nat)(o:Oper)(s s':F1)(v:Value):Prop
 |never:nv i=true→v=undef→s'={s with a:=s.a.put o.dst v}→GP R ops fl nv i o s s' v
 |float (ob:Option BF):(i,v,ob)∈fl→SA P o s.a v ob=true→s'={s with a:=s.a.put o.dst v}→GP R ops fl nv i o s s' v
 |off:(∀x,x∈fl→x.1≠i)→Ew ops o s.a=some false→v=undef→s'={s with a:=s.a.put o.dst v}→GP R ops fl nv i o s s' v
 |pure (W1:CW):(∀x,x∈fl→x.1≠i)→Ew ops o s.a=some true→Dv P o=true→Bm P o s.a.eval s.W=some [(.value v,W1)]→s'={s with a:=s.a.put o.dst v}→GP R ops fl nv i o s s' v
 |read (W1:CW):(∀x,x∈fl→x.1≠i)→Ew ops o s.a=some true→EP P o=true→Bm P o s.a.eval s.W=some [(.value v,W1)]→s'={s with a:=s.a.put o.dst v,rd:=(i,o,s.a,v)::s.rd}→GP R ops fl nv i o s s' v
 |value (W1:CW):(∀x,x∈fl→x.1≠i)→Ew ops o s.a=some true→UP P o=true→Bm P o s.a.eval s.W=some [(.value v,W1)]→s'={s with a:=s.a.put o.dst v,W:=W1,ws:=(i,s.W)::s.ws}→GP R ops fl nv i o s s' v
 |skip (W1:CW):(∀x,x∈fl→x.1≠i)→Ew ops o s.a=some true→UP P o=true→Bm P o s.a.eval s.W=some [(.skip,W1)]→v=undef→s'={s with a:=s.a.put o.dst v,W:=W1,ws:=(i,s.W)::s.ws}→GP R ops fl nv i o s s' v
 | call (f:FuncId) (args:List Value) (W1 W2:CW) (m:List (Ending×CW)):(∀x,x∈fl→x.1≠i)→Ew ops o s.a=some true→UP P o=true→Bm P o s.a.eval s.W=some [(.enter f args,W1)]→R.call f args W1=some m→merged (some m)=some [(.returned v,W2)]→
   s'={s with a:=s.a.put o.dst v,W:=W2,ws:=(i,s.W)::s.ws}→GP R ops fl nv i o s s' v
 | round (l:Nat) (args:List Value) (W1 W2:CW) (m:List (Ending×CW)):(∀x,x∈fl→x.1≠i)→Ew ops o s.a=some true→UP P o=true→Bm P o s.a.eval s.W=some [(.round l args,W1)]→R.round l args W1=some m→merged (some m)=some [(.returned v,W2)]→
   s'={s with a:=s.a.put o.dst v,W:=W2,ws:=(i,s.W)::s.ws}→GP R ops fl nv i o s s' v
variable {P}
theorem Ll{o:Ends}{r:List (Ending×CW)}(h:merged o=some r):∃m,o=some m:=by
 cases o with
 |none=>cases h
 |some m=>exact⟨m,rfl⟩
theorem QR{R:Dl}{nv:Nat→Bool}{ops:Array Oper}{fl:List (Nat×Value×Option BF)}{i:Nat}{o:Oper}{s s':F1}(h:Bz P R ops fl i o s=some s'):∃v,GP P R ops fl nv i o s s' v:=by
 unfold Bz at h
 split at h
 ·rename_i x v ob hf;rw[cond_eq_ite]at h;split at h
  rotate_left
  ·cases h
  rename_i OE
  cases h
  have h1:=ac0 hf;have h2:=abU hf;have:x=i:=aac h1;subst this;exact⟨v,.float ob h2 OE rfl⟩
 ·rename_i hf
  have G_:∀x,x∈fl→x.1≠i:=λx hx he=>by
   have:=ab4.1 hf x hx;rw[he]at this;simp at this
  split at h
  ·cases h
  ·rename_i hw
   cases h
   exact⟨undef,.off G_ hw rfl rfl⟩
  ·rename_i hw;rw[cond_eq_ite]at h
   split at h
   ·rename_i hp
    split at h
    ·rename_i v W1 hc;cases h;exact⟨v,.pure W1 G_ hw hp hc rfl⟩
    ·cases h
   ·rename_i hp;rw[cond_eq_ite]at h
    split at h
    ·rename_i hr
     split at h
     ·rename_i v W1 hc;cases h;exact⟨v,.read W1 G_ hw hr hc rfl⟩
     ·cases h
    ·rename_i hr;have P_:UP P o=true:=by simp[UP,hp,hr]
     split at h
     ·rename_i v W1 hc;cases h;exact⟨v,.value W1 G_ hw P_ hc rfl⟩
     ·rename_i W1 hc;cases h;exact⟨undef,.skip W1 G_ hw P_ hc rfl rfl⟩
     ·rename_i f args W1 hc
      split at h
      ·rename_i v W2 hm
       cases h
       obtain⟨m,CU⟩:=Ll hm;rw[CU]at hm;exact⟨v,.call f args W1 W2 m G_ hw P_ hc CU hm rfl⟩
      ·cases h
     ·rename_i l args W1 hc
      split at h
      ·rename_i v W2 hm
       cases h
       obtain⟨m,CU⟩:=Ll hm;rw[CU]at hm;exact⟨v,.round l args W1 W2 m G_ hw P_ hc CU hm rfl⟩
      ·cases h
     ·cases h
def H2(F:Nat→Oper→F1→Option F1)(ops:Array Oper)(s0:F1):Nat→Option F1
 |0=>some s0
 |k+1=>match H2 F ops s0 k,ops[k]? with
  |some s,some o=>F k o s
  |_,_=>none
theorem cO{ops:Array Oper}{i:Nat}{o:Oper}{rest:List Oper}(hd:ops.toList.drop i=o::rest):ops[i]?=some o∧ops.toList.drop (i+1)=rest:=by
 refine⟨?_,by simpa using ab3 List.tail hd⟩
 have:ops.toList[i]?=some o:=by
  have:=ab3 (·[0]?) hd
  simpa[abq]using this
 simpa using this
theorem QS{F:Nat→Oper→F1→Option F1}{ops:Array Oper}{s0 sf:F1}:∀(rest:List Oper) (i:Nat) (s:F1),ops.toList.drop i=rest→H2 F ops s0 i=some s→
  Dm F i rest s=some sf→H2 F ops s0 (i+rest.length)=some sf∧∀k,i≤k→k≤i+rest.length→(H2 F ops s0 k).isSome=true
 |[],i,s,_,hs,h=>by
  simp only[Dm,aam]at h;subst h;exact⟨hs,λk h1 h2=>by have:k=i:=(by simpa using Nat.le_antisymm h2 h1);subst this;rw[hs];rfl⟩
 | o::rest,i,s,hd,hs,h=>by
  obtain⟨ho,hd'⟩:=cO hd;simp only[Dm]at h
  cases FJ:F i o s with
  |none=>rw[FJ]at h;cases h
  |some s1=>
   rw[FJ]at h;have bU:H2 F ops s0 (i+1)=some s1:=by simp only[H2,hs,ho,FJ]
   obtain⟨h1,h2⟩:=QS rest (i+1) s1 hd' bU h;have e:i+(o::rest).length=i+1+rest.length:=by simp;omega
   refine⟨by rw[e];exact h1,λk bD tS=>?_⟩
   by_cases hki:k=i
   ·subst hki;rw[hs];rfl
   ·exact h2 k (by omega) (by omega)
theorem cP{R:Dl}{ops:Array Oper}{fl:List (Nat×Value×Option BF)}:∀(rest:List Oper) (i:Nat) (s:F1),Ey P R ops fl i rest s=Dm (Bz P R ops fl) i rest s
 |[],i,s=>rfl
 |o::rest,i,s=>by
  simp only[Ey,Dm]
  cases Bz P R ops fl i o s with
  |none=>rfl
  |some s=>exact cP rest (i+1) s
theorem Yj{R:Dl}{ops:Array Oper}{fl:List (Nat×Value×Option BF)}{nv:Nat→Bool}{F:Nat→Oper→F1→Option F1}(hF:∀i o s s',F i o s=some s'→∃v,GP P R ops fl nv i o s s' v){s0 sf:F1}(h:Dm F 0 ops.toList s0=some sf) :
  ∃(st:Nat→F1) (val:Nat→Value),st 0=s0∧st ops.size=sf∧(∀i o,ops[i]?=some o→GP P R ops fl nv i o (st i) (st (i+1)) (val i))∧∀i,i≤ops.size→H2 F ops s0 i=some (st i):=by
 obtain⟨h1,h2⟩:=QS ops.toList 0 s0 rfl rfl h;simp only[aaL,abP]at h1 h2
 have LC:∀i o,ops[i]?=some o→∃v,GP P R ops fl nv i o ((H2 F ops s0 i).getD s0) ((H2 F ops s0 (i+1)).getD s0) v:=by
  intro i o ho;have hi:i<ops.size:=(aao.1 ho).1;obtain⟨s,hs⟩:=abr.1 (h2 i (aa1 _) (by omega));obtain⟨s',UH⟩:=abr.1 (h2 (i+1) (aa1 _) (by omega))
  have hd:F i o s=some s':=by
   have:=UH;simp only[H2,hs,ho]at this;exact this
  rw[hs,UH];exact hF _ _ _ _ hd
 have Ir:∀i,∃v,∀o,ops[i]?=some o→GP P R ops fl nv i o ((H2 F ops s0 i).getD s0) ((H2 F ops s0 (i+1)).getD s0) v:=by
  intro i
  cases ho:ops[i]? with
  |none=>exact⟨undef,λo h=>by cases h⟩
  |some o=>
   obtain⟨v,hv⟩:=LC i o ho;exact⟨v,λo' h=>by cases h;exact hv⟩
 obtain⟨val,Ir⟩:=Classical.axiomOfChoice Ir;refine⟨λi=>(H2 F ops s0 i).getD s0,val,rfl,by show(H2 F ops s0 ops.size).getD s0=sf;rw[h1];rfl,λi o ho=>Ir i o ho,λi hi=>?_⟩;obtain⟨s,hs⟩:=abr.1 (h2 i (aa1 _) hi);show H2 F ops s0 i=some ((H2 F ops s0 i).getD s0);rw[hs];rfl
theorem QU{R:Dl}{ops:Array Oper}{fl:List (Nat×Value×Option BF)}{F:Nat→Oper→F1→Option F1}{s0:F1}{i0:Nat}{ch:List PanicEntry}{W2:CW}(hF:∀i o s,i<i0→F i o s=Bz P R ops fl i o s):∀(rest:List Oper) (i:Nat) (s:F1),ops.toList.drop i=rest→H2 F ops s0 i=some s→
  Ez P R ops fl i rest s=some (i0,ch,W2)→i≤i0∧∃o s1,ops[i0]?=some o∧H2 F ops s0 i0=some s1∧FR P R ops fl i0 o s1=some (ch,W2)
 |[],i,s,_,_,h=>by cases h
 | o::rest,i,s,hd,hs,h=>by
  obtain⟨ho,hd'⟩:=cO hd;simp only[Ez]at h
  split at h
  ·rename_i ch1 W1 hp
   cases h
   exact⟨aag _,o,s,ho,hs,hp⟩
  ·split at h
   ·rename_i s1 FJ;have hle:i+1≤i0:=q_ rest h;have bU:H2 F ops s0 (i+1)=some s1:=by simp only[H2,hs,ho];rw[hF _ _ _ (by omega)];exact FJ
    obtain⟨h1,h2⟩:=QU hF rest (i+1) s1 hd' bU h;exact⟨by omega,h2⟩
   ·cases h
where
 q_ {R:Dl} {ops:Array Oper} {fl:List (Nat×Value×Option BF)} {i0:Nat} {ch:List PanicEntry} {W2:CW}:∀(rest:List Oper) {i:Nat} {s:F1},Ez P R ops fl i rest s=some (i0,ch,W2)→i≤i0
  |[],i,s,h=>by cases h
  | o::rest,i,s,h=>by
   simp only[Ez]at h
   split at h
   ·cases h;exact aag _
   ·split at h
    ·have:=q_ rest h;omega
    ·cases h
theorem nk{R:Dl}{ops:Array Oper}{fl:List (Nat×Value×Option BF)}{i0:Nat}:∀i o s s',Ix P R ops fl i0 i o s=some s'→∃v,GP P R ops fl (N9 ops i0) i o s s' v:=by
 intro i o s s' h;unfold Ix at h;rw[cond_eq_ite]at h
 split at h
 ·rename_i hn;cases h;exact⟨undef,.never hn rfl rfl⟩
 ·exact QR h
theorem jY{x:Option Value}{W W':CW}{v:B_}(h:(match x with|some v=>some [(B_.value v,W)]|none=>none)=some [(v,W')]):W'=W:=by
 obtain⟨u,_,he⟩:=F2 h;simp only[ab_,aau,and_true]at he;exact he.2
theorem xk{o:Oper}(hp:EP P o=true){e:Operand→Value}{W W1:CW}{v:B_}(h:Bm P o e W=some [(v,W1)]):W1=W:=by
 unfold EP at hp;split at hp
 case h_1 ho=>simp only[Bm,ho]at h;exact jY h
 case h_2 ho=>simp only[Bm,ho]at h;exact jY h
 case h_3 ho=>simp only[Bm,ho]at h;exact jY h
 case h_4 ho=>simp only[Bm,ho]at h;exact jY h
 case h_5 c ho=>
  split at hp
  ·rename_i hc;simp only[Bm,ho,hc]at h
   split at h
   ·rename_i r hr
    cases h
    unfold K_ at hr;split at hr<;>first|(cases hr;done)|skip
    all_goals first
     |(rename_i ADe _;cases ADe;done)
     |(rename_i ADe _ _;cases ADe;done)
     |(cases hr;rfl)
     |(rw[aat]at hr;obtain⟨_,_,he⟩:=hr;cases he;rfl)
   ·cases h
  ·cases hp
 case h_6 s d x ho=>
  simp only[aab]at hp;obtain⟨h1,h2⟩:=hp
  split at h1
  ·rename_i el hs
   split at h2
   ·rename_i hd;simp only[Bm,ho,hs,hd]at h
    split at h
    ·rename_i hh _;cases hh
    ·cases h;rfl
    ·rename_i hh _;cases hh
    ·exact jY h
    ·cases h
   ·cases h2
  ·cases h1
 case h_7=>cases hp
theorem xl{o:Oper}(hp:Dv P o=true){e:Operand→Value}{W W1:CW}{v:Value}(h:Bm P o e W=some [(.value v,W1)])(W':CW):Bm P o e W'=some [(.value v,W')]:=by
 unfold Dv at hp;split at hp
 case h_17=>cases hp
 case h_1 ho=>simp only[Bm,ho]at h ⊢;simp_all
 case h_2 ho=>simp only[Bm,ho]at h ⊢;simp_all
 case h_3 ho=>
  simp only[Bm,ho]at h ⊢
  split at h
  ·rename_i hc;simp_all
  ·cases h
 case h_9 ho=>simp only[Bm,ho]at h ⊢;simp_all
 case h_16 s d x ho=>
  simp only[aab]at hp;obtain⟨h1,h2⟩:=hp;simp only[Bm,ho]at h ⊢
  split at h
  ·rename_i hs hd hx
   cases h;rfl
  ·rename_i hs hd hx
   cases h;rfl
  ·rename_i hs hd hx;rw[hd]at h2;cases h2
  ·rename_i hs hd _;rw[hs]at h1;cases h1
  ·cases h
 case h_7 u t x ho=>
  cases u<;>simp only[Bm,ho]at h<;>first|(cases h;done)|skip
  all_goals
   obtain⟨u,hu,he⟩:=F2 h;simp only[ab_,aau,B_.value.injEq,and_true]at he;obtain⟨rfl,rfl⟩:=he;simp only[Bm,ho];rw[hu]
 all_goals
  rename_i ho;simp only[Bm,ho]at h
  first
   | (
     obtain⟨u,hu,he⟩:=F2 h;simp only[ab_,aau,B_.value.injEq,and_true]at he;obtain⟨rfl,rfl⟩:=he;simp only[Bm,ho]
     rw[hu])
   |skip
end run
section
variable {P:Program}{w0:World}{ρ:CJ}{W:CW}{w:World}
theorem Aa.pre(h:Aa P w0 ρ W w)(o:BF):Aa P w0 ρ (W.new o) w:=by
 have old:∀i u x,(W.new o).h.get i=some u→ρ i=some x→W.h.get i=some u:=λi u x hu hx=>by
  have:=h.Wi i x hx;simp only[CW.new,Tr.CI]at hu;rw[aad (by omega)]at hu;exact hu
 refine⟨λi x hx=>Nat.lt_succ_of_lt (h.Wi i x hx),λi u hu=>?_,λi u x hu hd hx=>h.live i u x (old i u x hu hx) hd hx,
  λi j u v x y hu wY hv OD hx hy=>h.inj i j u v x y (old i u x hu hx) wY (old j v y hv hy) OD hx hy,h.below⟩
 show i<W.sz+1;simp only[CW.new,Tr.CI]at hu
 split at hu
 ·omega
 ·have:=h.top i u hu;omega
theorem Aa.xm(h:Aa P w0 ρ W w){b:Nat}(hb:ρ b=none)(Ad:b<W.sz){u:BF}(hu:W.obj b=some u){x:Info}(hx:x.b=w.heap.size){o':Obj}
  (hr:Jw P (λi=>if i=b then some x else ρ i) x u o') (hm:u.mut=true:=by rfl):Ext ρ (λi=>if i=b then some x else ρ i)∧Aa P w0 (λi=>if i=b then some x else ρ i) W {w with heap:=w.heap.push o'}:=by
 have Dy:Ext ρ (λi=>if i=b then some x else ρ i):=λi y hy=>by
  show(if i=b then some x else ρ i)=some y
  by_cases e:i=b
  ·subst e;rw[hb]at hy;cases hy
  ·rw[aad e];exact hy
 have hw0:w0.heap.size≤w.heap.size:=h.below.size
 have hold:∀i u y,W.h.get i=some u→u≠.dead→ρ i=some y→y.b<w.heap.size:=λi u y hu hd hy=>by
  obtain⟨o',Jx,_,_⟩:=h.live i u y hu hd hy;exact(aao.1 Jx).1
 refine⟨Dy,?_,h.top,?_,?_,?_⟩
 ·intro i y hy
  by_cases e:i=b
  ·omega
  ·have:ρ i=some y:=by simpa[e]using hy
   exact h.Wi i y this
 ·intro i v y hv hd hy
  by_cases e:i=b
  ·subst e;have hy:some x=some y:=by simpa using hy
   cases hy
   have:W.h.get i=some u:=hu;rw[hv]at this;cases this;refine⟨o',?_,hr,λ_=>by omega,λhf=>by rw[hm]at hf;cases hf⟩;show(w.heap.push o')[x.b]?=_;rw[hx];simp
  ·have hy:ρ i=some y:=by simpa[e]using hy
   obtain⟨u',YT,hru,mb⟩:=h.live i v y hv hd hy;refine⟨u',?_,hru.mono Dy,mb⟩;have hl:=(aao.1 YT).1;show(w.heap.push o')[y.b]?=_;rw[acC,aad (by omega)];exact YT
 ·intro i j v v' y z hv OD ID jC hy hz xG
  by_cases ei:i=b
  ·by_cases ej:j=b
   ·omega
   ·have hz:ρ j=some z:=by simpa[ej]using hz
    have hy:some x=some y:=by simpa[ei]using hy
    cases hy
    have:=hold j v' z ID (BF.JG jC) hz;omega
  ·have hy:ρ i=some y:=by simpa[ei]using hy
   by_cases ej:j=b
   ·have hz:some x=some z:=by simpa[ej]using hz
    cases hz
    have:=hold i v y hv (BF.JG OD) hy;omega
   ·have hz:ρ j=some z:=by simpa[ej]using hz
    exact h.inj i j v v' y z hv OD ID jC hy hz xG
 ·exact⟨h.below.os,h.below.tape,h.below.output,by show w0.heap.size≤(w.heap.push o').size;rw[Array.size_push];omega,λk hk=>by
   show(w.heap.push o')[k]?=_
   rw[acC,aad (by omega)];exact h.below.block k hk⟩
def nameOf:Value→Nat
 | .pointer (some p)=>p.block
 | .slice (some p) _ _=>p.block
 | .map (some r)=>r
 |_=>0
def FK(P:Program)(ops:Array Oper)(x:Nat×Value×Option BF):Prop :=
 ∃o,ops[x.1]?=some o∧o.guard=none∧((∃t z s b,o.op=.alloc t∧Is P t=some z∧EM P t=some s∧x.2.1=.pointer (some ⟨b,0,none⟩)∧x.2.2=some (.cells .nil z.cells.size z.cells t))∨
  (∃t b,o.op=.makeMap t none∧x.2.1=.map (some b)∧x.2.2=some (.map [] 0))∨
  (∃t l c b n m,o.op=.makeSlice t l c∧x.2.1=.slice (some ⟨b,0,none⟩) n m))
theorem QV{ops:Array Oper}{a:AN}:∀{is:List Nat} {W:CW} {fl:List (Nat×Value×Option BF)} {W1:CW},Jf P ops a is W=some (fl,W1)→(∀i,i∈is→∃o,ops[i]?=some o∧floatKind P ops o=true)→Aa P w0 ρ W w→
  Aa P w0 ρ W1 w∧W.sz≤W1.sz∧(∀x,x∈fl→W.sz≤nameOf x.2.1∧nameOf x.2.1<W1.sz∧FK P ops x)∧fl.Pairwise (λx y=>nameOf x.2.1≠nameOf y.2.1)∧(∀i,i∈is→∃x,x∈fl∧x.1=i):=by
 intro is
 induction is with
 |nil=>
  intro W fl W1 h _ hw;simp only[Jf,aam,aau]at h;obtain⟨rfl,rfl⟩:=h;exact⟨hw,aag _,(λx hx=>by cases hx),.nil,(λi hi=>by cases hi)⟩
 | cons i is ih=>
  intro W fl W1 h hk hw;obtain⟨o,ho,hf⟩:=hk i (by simp);simp only[Jf,ho]at h
  split at h
  ·rename_i v W2 hc
   cases hp:Jf P ops a is W2 with
   |none=>rw[hp]at h;cases h
   | some q=>
    obtain⟨l,W3⟩:=q;rw[hp]at h;simp only[aam,aau]at h;obtain⟨rfl,rfl⟩:=h
    have key:nameOf v=W.sz∧(∃u,W2=W.new u)∧FK P ops (i,v,W2.obj W.sz):=by
     unfold floatKind at hf
     split at hf
     ·rename_i t h1 h2;simp only[Bm,h1]at hc
      split at hc
      ·rename_i z hz
       split at hc
       ·rename_i s hs
        cases hc
        exact⟨rfl,⟨_,rfl⟩,o,ho,h2,.inl ⟨t,z,s,W.sz,h1,hz,hs,rfl,by simp[CW.obj,CW.new,Tr.CI]⟩⟩
       ·cases hc
      ·cases hc
     ·rename_i t h1 h2;simp only[Bm,h1]at hc
      cases hc
      exact⟨rfl,⟨_,rfl⟩,o,ho,h2,.inr (.inl ⟨t,W.sz,h1,rfl,by simp[CW.obj,CW.new,Tr.CI]⟩)⟩
     ·rename_i t l c h1 h2;simp only[Bm,h1]at hc;obtain⟨v',iZ,hv,he⟩:=PN hc;simp only[ab_,aau,B_.value.injEq,and_true]at he;obtain⟨rfl,rfl⟩:=he
      split at hv
      ·obtain⟨s,hs,hv⟩:=Ao hv;obtain⟨z,hz,hv⟩:=Ao hv;rw[cond_eq_ite]at hv
       split at hv
       ·cases hv
        exact⟨rfl,⟨_,rfl⟩,o,ho,h2,.inr (.inr ⟨t,l,c,W.sz,_,_,h1,rfl⟩)⟩
       ·cases hv
      ·cases hv
     ·cases hf
    obtain⟨Yk,⟨u,rfl⟩,hfk⟩:=key;obtain⟨h1,h2,h3,h4,h5⟩:=ih hp (λj hj=>hk j (by simp[hj])) (hw.pre u);have h2':W.sz+1≤W3.sz:=h2
    refine⟨h1,by omega,?_,?_,?_⟩
    ·intro x hx
     rcases aaJ.1 hx with rfl|hx
     ·exact⟨by simp only[Yk];exact aag _,by simp only[Yk];omega,hfk⟩
     ·obtain⟨a1,a2,a3⟩:=h3 x hx;have a1:W.sz+1≤nameOf x.2.1:=a1;exact⟨by omega,a2,a3⟩
    ·refine acj.2 ⟨λy hy=>?_,h4⟩;obtain⟨a1,_,_⟩:=h3 y hy;have a1:W.sz+1≤nameOf y.2.1:=a1;simp only[Yk];omega
    ·intro j hj
     rcases aaJ.1 hj with rfl|hj
     ·exact⟨_,ac4,rfl⟩
     ·obtain⟨x,hx,e⟩:=h5 j hj;exact⟨x,by simp[hx],e⟩
  ·cases h
theorem WC{ops:Array Oper}{i:Nat}(h:i∈Ho P ops):∃o,ops[i]?=some o∧floatKind P ops o=true:=by
 simp only[Ho,aco]at h;obtain⟨_,h⟩:=h
 split at h
 ·rename_i o ho;simp only[aab]at h;exact⟨o,ho,h.1⟩
 ·cases h
theorem RF{ops:Array Oper}(h:Ju P ops=true){i:Nat}(hi:i<ops.size):∀q,q∈iV ops i→q<i:=by
 simp only[Ju,aax,aaT]at h;have ho:ops[i]?=some ops[i]:=by simp[hi]
 have h:=h i hi;rw[ho]at h;simp only[aab,aax]at h;intro q hq;have:=h.1 q hq;exact aaj this
theorem Lm{ops:Array Oper}(h:Ju P ops=true){i j:Nat}{oi oj:Oper}(hi:ops[i]?=some oi)(hj:ops[j]?=some oj)(Ad:j<i) :
  C_ (G' ops i) j=true∨(oj.apart ops oi=true∧¬(UP P oi=true∧UP P oj=true∧i∉Ho P ops∧j∉Ho P ops)):=by
 have LB:i<ops.size:=(aao.1 hi).1;simp only[Ju,aax,aaT]at h;have h:=h i LB;rw[hi]at h;simp only[aab,aax,aaT,aaU]at h
 rcases h.2 j Ad with h1|h1
 ·exact .inl h1
 ·right;rw[hj]at h1;simp only[aab,aaK,Bool.and_eq_false_iff]at h1;refine⟨h1.1,?_⟩;rintro⟨w1,w2,f1,f2⟩
  have f1:C_ (Ho P ops) i=false:=by
   cases hh:C_ (Ho P ops) i with
   |false=>rfl
   |true=>exact(f1 (Jg.1 hh)).elim
  have f2:C_ (Ho P ops) j=false:=by
   cases hh:C_ (Ho P ops) j with
   |false=>rfl
   |true=>exact(f2 (Jg.1 hh)).elim
  simp[w1,w2,f1,f2]at h1
theorem SU{a b:Option BF}(h:DW a b=true):a=b:=by
 unfold DW at h
 split at h
 ·rfl
 ·rename_i n z e m y f;simp only[aab]at h;have h1:=aac h.1.1.1;have h2:=aac h.1.1.2;rw[h1,h2,Lk h.1.2 h.2 (λv w=>H0 6 v w)]
 ·cases h
end
section
variable {P:Program}{w0:World}{wi:Nat→Bool→Code→Bool}{R:Dl}{ops:Array Oper}{fl:List (Nat×Value×Option BF)}{nv:Nat→Bool}{st:Nat→F1}{val:Nat→Value}
def Gk(ops:Array Oper)(i:Nat):Option Tmp:=(ops[i]?).bind (·.dst)
def Wr(st:Nat→F1)(i:Nat):Prop:=(st (i+1)).ws=(i,(st i).W)::(st i).ws
theorem GP.put{i:Nat}{o:Oper}{s s':F1}{v:Value}(h:GP P R ops fl nv i o s s' v):s'.a=s.a.put o.dst v:=by
 cases h<;>(rename_i he;rw[he])
theorem GP.wr{i:Nat}{o:Oper}(h:GP P R ops fl nv i o (st i) (st (i+1)) (val i)) :
  (Wr st i∧UP P o=true∧∀x,x∈fl→x.1≠i)∨(¬Wr st i∧(st (i+1)).W=(st i).W∧(st (i+1)).ws=(st i).ws):=by
 have no:∀{l:List (Nat×CW)} {x:Nat×CW},l≠x::l:=λh=>by have:=ab3 List.length h;simp at this
 cases h with
 |never h1 h2 he=>right;exact⟨by unfold Wr;rw[he];exact no,by rw[he],by rw[he]⟩
 |float ob h1 OE he=>right;exact⟨by unfold Wr;rw[he];exact no,by rw[he],by rw[he]⟩
 |off h1 h2 h3 he=>right;exact⟨by unfold Wr;rw[he];exact no,by rw[he],by rw[he]⟩
 |pure W1 h1 h2 h3 h4 he=>right;exact⟨by unfold Wr;rw[he];exact no,by rw[he],by rw[he]⟩
 |read W1 h1 h2 h3 h4 he=>right;exact⟨by unfold Wr;rw[he];exact no,by rw[he],by rw[he]⟩
 |value W1 h1 h2 h3 h4 he=>left;exact⟨by unfold Wr;rw[he],h3,h1⟩
 |skip W1 h1 h2 h3 h4 h5 he=>left;exact⟨by unfold Wr;rw[he],h3,h1⟩
 |call f args W1 W2 m h1 h2 h3 h4 h5 h6 he=>left;exact⟨by unfold Wr;rw[he],h3,h1⟩
 |round l args W1 W2 m h1 h2 h3 h4 h5 h6 he=>left;exact⟨by unfold Wr;rw[he],h3,h1⟩
variable (FJ:∀i o,ops[i]?=some o→GP P R ops fl nv i o (st i) (st (i+1)) (val i))
include FJ
theorem xn(a0:AN)(h0:(st 0).a=a0)(d:Nat):∀i,i≤ops.size→(st i).a.at d=TT (Gk ops) val a0.at (λ_=>true) i d
 |0,_=>by rw[h0];rfl
 | i+1,hi=>by
  have ho:ops[i]?=some ops[i]:=by simp[show i<ops.size by omega]
  have hp:=(FJ i _ ho).put;rw[hp,TT];have ih:=xn a0 h0 d i (by omega);have hd:Gk ops i=ops[i].dst:=by simp[Gk,ho]
  rw[hd]
  cases hdd:ops[i].dst with
  |none=>
   rw[aad (by rintro⟨_,h⟩;cases h),←ih];rfl
  |some t=>
   rw[AN.ng]
   by_cases e:d=t
   ·subst e;rw[aae rfl,aae ⟨rfl,rfl⟩]
   ·rw[aad e,aad (by rintro⟨_,h⟩;cases h;exact e rfl),ih]
theorem ACv(a0:AN)(h0:(st 0).a=a0):∀i,i≤ops.size→(st i).a.nt=a0.nt∧(st i).a.defers=a0.defers
 |0,_=>by rw[h0];exact⟨rfl,rfl⟩
 |i+1,hi=>by
  have ho:ops[i]?=some ops[i]:=by simp[show i<ops.size by omega]
  rw[(FJ i _ ho).put,AN.B9,AN.put_defers];exact ACv a0 h0 i (by omega)
theorem Yl{p:Nat}:∀(q:Nat),p≤q→q≤ops.size→∃A,(st q).ws=A++(st p).ws∧(∀x,x∈A→p≤x.1∧x.1<q∧Wr st x.1)∧gw A (st q).W=(st p).W
 |0,h,_=>by have:p=0:=(by omega);subst this;exact⟨[],rfl,(λx hx=>by cases hx),rfl⟩
 | q+1,h,hq=>by
  by_cases e:p=q+1
  ·subst e;exact⟨[],rfl,(λx hx=>by cases hx),rfl⟩
  ·obtain⟨A,h1,h2,h3⟩:=Yl (p:=p) q (by omega) (by omega);have ho:ops[q]?=some ops[q]:=by simp[show q<ops.size by omega]
   rcases(FJ q _ ho).wr with⟨hw,_⟩|⟨_,hW,nm⟩
   ·refine⟨(q,(st q).W)::A,by rw[hw,h1];rfl,λx hx=>?_,h3⟩
    rcases aaJ.1 hx with rfl|hx
    ·exact⟨by omega,by simp,hw⟩
    ·obtain⟨a,b,c⟩:=h2 x hx;exact⟨a,by omega,c⟩
   ·exact⟨A,by rw[nm,h1],λx hx=>let ⟨a,b,c⟩:=h2 x hx;⟨a,by omega,c⟩,by rw[hW];exact h3⟩
theorem XC:∀(k i:Nat),i+k=ops.size→∃p,i≤p∧p≤ops.size∧(p=ops.size∨Wr st p)∧(∀j,i≤j→j<p→¬Wr st j)∧(st p).W=(st i).W
 |0,i,h=>⟨i,aag _,by omega,.inl (by omega),λj h1 h2=>by omega,rfl⟩
 | k+1,i,h=>by
  have ho:ops[i]?=some ops[i]:=by simp[show i<ops.size by omega]
  rcases(FJ i _ ho).wr with⟨hw,_⟩|⟨hn,hW,_⟩
  ·exact⟨i,aag _,by omega,.inr hw,λj h1 h2=>by omega,rfl⟩
  ·obtain⟨p,h1,h2,h3,h4,h5⟩:=XC k (i+1) (by omega);refine⟨p,by omega,h2,h3,λj mh rA=>?_,by rw[h5,hW]⟩
   by_cases e:j=i
   ·subst e;exact hn
   ·exact h4 j (by omega) rA
end
structure OZ(P:Program)(w0:World)(ops:Array Oper)(fl:List (Nat×Value×Option BF))(st:Nat→F1)(val:Nat→Value)(a0:AN)(W0:CW)(ρ0:CJ)(AV:Array Bool)(a':Act)(w:World)(ρ:CJ)(p:Nat):Prop where
 size:AV.size=ops.size
 closed:∀i,AV.getD i false=true→∀q,q∈iV ops i→AV.getD q false=true
 rB:∀d,AS ρ (TT (Gk ops) val a0.at (λi=>AV.getD i false) ops.size d) (a'.tmps.getD d undef)
 jZ:a'.tmps.size=a0.nt
 defers:LY (MQ ρ) a0.defers a'.defers
 np:p≤ops.size
 wrs:∀j,j<ops.size→Wr st j→(AV.getD j false=true↔j<p)
 pw:p=ops.size∨Wr st p
 world:Aa P w0 ρ (st p).W w
 grow:FP W0 ρ0 (st p).W ρ
 fR:∀x,x∈fl→AV.getD x.1 false=false→ρ (nameOf x.2.1)=none∧nameOf x.2.1<(st p).W.sz
section
variable {P:Program}{w0:World}{wi:Nat→Bool→Code→Bool}{R:Dl}{ops:Array Oper}{fl:List (Nat×Value×Option BF)}{nv:Nat→Bool}{st:Nat→F1}{val:Nat→Value}{a0:AN}{W0:CW}{ρ0:CJ}
 {AV:Array Bool} {a':Act} {w:World} {ρ:CJ} {p:Nat}
theorem Gx{i j:Nat}(hi:i<AV.size):(AV.setIfInBounds i true).getD j false=true↔(AV.getD j false=true∨j=i):=by
 simp only[aal,aaV]
 by_cases e:i=j
 ·subst e;simp[hi]
 ·rw[aad e];simp[ab8 e]
theorem OZ.next(h:OZ P w0 ops fl st val a0 W0 ρ0 AV a' w ρ p){i:Nat}{o:Oper}(ho:ops[i]?=some o)(hd:∀t,o.dst=some t→t<a0.nt)(WD:AV.getD i false=false)
  (OG:∀q,q∈iV ops i→AV.getD q false=true) (Ym:∀j,i<j→j<ops.size→Gk ops i≠none→Gk ops j=Gk ops i→AV.getD j false=false)
  {v':Value} {w2:World} {ρ2:CJ} {p2:Nat} (he:Ext ρ ρ2) (hv:AS ρ2 (val i) v') (hp2:p2≤ops.size) (hpw:p2=ops.size∨Wr st p2)
  (AKq:∀j,j<ops.size→Wr st j→((AV.getD j false=true∨j=i)↔j<p2)) (Hl:Aa P w0 ρ2 (st p2).W w2) (hg:FP W0 ρ0 (st p2).W ρ2)
  (hub:∀x,x∈fl→AV.getD x.1 false=false→x.1≠i→ρ2 (nameOf x.2.1)=none∧nameOf x.2.1<(st p2).W.sz) :
  OZ P w0 ops fl st val a0 W0 ρ0 (AV.setIfInBounds i true) (a'.put o.dst v') w2 ρ2 p2:=by
 have hi:i<ops.size:=(aao.1 ho).1;have LB:i<AV.size:=by rw[h.size];exact hi
 have AKr:Gk ops i=o.dst:=by simp[Gk,ho]
 refine⟨by simp[h.size],?_,?_,?_,?_,hp2,?_,hpw,Hl,hg,?_⟩
 ·intro j hj q hq;rw[Gx LB]at hj ⊢
  rcases hj with hj|rfl
  ·exact .inl (h.closed j hj q hq)
  ·exact .inl (OG q hq)
 ·intro d;rw[ADd (L:=λi=>AV.getD i false) hi (λj=>Gx LB) Ym d,AKr]
  cases hdd:o.dst with
  |none=>
   rw[aad (by simp)];exact(h.rB d).mono he
  | some t=>
   have ht:=hd t hdd
   have ADX:(a'.put (some t) v').tmps.getD d undef=if t=d then v' else a'.tmps.getD d undef:=by
    simp only[Act.put,aal,aaV]
    by_cases e:t=d
    ·subst e;rw[aae rfl,aae rfl,aae (by rw[h.jZ];exact ht)];rfl
    ·rw[aad e,aad e]
   rw[ADX]
   by_cases e:t=d
   ·subst e;rw[aae rfl,aae rfl];exact hv
   ·rw[aad (by simpa using e),aad e];exact(h.rB d).mono he
 ·cases o.dst with
  |none=>exact h.jZ
  |some t=>simp only[Act.put,abG];exact h.jZ
 ·have:(a'.put o.dst v').defers=a'.defers:=by cases o.dst<;>rfl
  rw[this];exact forall₂_mono (λ_ _ x=>x.mono he) h.defers
 ·intro j hj ja;rw[Gx LB];exact AKq j hj ja
 ·intro x hx hl
  have D3:¬(AV.getD x.1 false=true∨x.1=i):=λhh=>by
   rw[(Gx LB).2 hh]at hl;cases hl
  have h1:AV.getD x.1 false=false:=by
   cases hh:AV.getD x.1 false with
   |false=>rfl
   |true=>exact(D3 (.inl hh)).elim
  exact hub x hx h1 (λe=>D3 (.inr e))
theorem H3{s:F1}{o:Oper}{b:Bool}(h:Ew ops o s.a=some b)(hs:∀j want,o.guard=some (j,want)→∀d,(ops[j]?).bind (·.dst)=some d→AS ρ (s.a.at d) (a'.tmps.getD d undef)) :
  Region.wanted o (yielded ops a'.tmps)=b:=by
 unfold Ew at h;unfold Region.wanted
 split at h
 ·rename_i hg
  cases h
  rw[hg]
 ·rename_i j want hg;rw[hg];simp only;rw[cL ops j (hs j want hg)]
  split at h
  ·rename_i b' hb
   cases h
   rw[hb]
   cases b'<;>cases want<;>rfl
  ·rename_i hb
   cases h
   rw[hb];rfl
variable (FJ:∀i o,ops[i]?=some o→GP P R ops fl nv i o (st i) (st (i+1)) (val i))(h0:(st 0).a=a0)(OY:Ju P ops=true)
include FJ h0 OY
theorem OZ.look(h:OZ P w0 ops fl st val a0 W0 ρ0 AV a' w ρ p){i:Nat}{o:Oper}(ho:ops[i]?=some o)(WD:AV.getD i false=false)(OG:∀q,q∈iV ops i→AV.getD q false=true){d:Tmp}(hd:d∈o.looksAt ops) :
  AS ρ ((st i).a.at d) (a'.tmps.getD d undef):=by
 have hi:i<ops.size:=(aao.1 ho).1;have hs:=h.rB d;rw[xn FJ a0 h0 d i (by omega)]
 rwa[ABL (i:=i) (by omega)]at hs
 ·intro j hj fQ;have xo:ops[j]?=some ops[j]:=by simp[show j<ops.size by omega]
  have fQ:ops[j].dst=some d:=by simpa[Gk,xo]using fQ
  rcases Lm OY ho xo hj with h1|⟨h1,_⟩
  ·exact IP (L:=λx=>AV.getD x false=true) h.closed OG h1
  ·exact((Oper.apart_spec h1).1 d fQ hd).elim
 ·intro j mh rA fQ;have xo:ops[j]?=some ops[j]:=by simp[rA]
  have fQ:ops[j].dst=some d:=by simpa[Gk,xo]using fQ
  by_cases e:j=i
  ·subst e;exact WD
  ·rcases Lm OY xo ho (show i<j by omega)with h1|⟨h1,_⟩
   ·cases hl:AV.getD j false with
    |false=>rfl
    |true=>
     have:=IP (L:=λx=>AV.getD x false=true) h.closed (h.closed j hl) h1;rw[WD]at this;cases this
   ·exact((Oper.apart_spec h1).2.2 d fQ hd).elim
theorem OZ.AHE(h:OZ P w0 ops fl st val a0 W0 ρ0 AV a' w ρ p){i:Nat}{o:Oper}(ho:ops[i]?=some o)(WD:AV.getD i false=false){t:Tmp}(hd:o.dst=some t) :
  ∀j,i<j→j<ops.size→Gk ops j=Gk ops i→AV.getD j false=false:=by
 intro j mh rA fQ;have xo:ops[j]?=some ops[j]:=by simp[rA]
 have hdi:Gk ops i=some t:=by simp[Gk,ho,hd]
 have fQ:ops[j].dst=some t:=by rw[hdi]at fQ;simpa[Gk,xo]using fQ
 rcases Lm OY xo ho mh with h1|⟨h1,_⟩
 ·cases hl:AV.getD j false with
  |false=>rfl
  |true=>
   have:=IP (L:=λx=>AV.getD x false=true) h.closed (h.closed j hl) h1;rw[WD]at this;cases this
 ·exact((Oper.apart_spec h1).2.1 t hd fQ).elim
theorem OZ.rC(h:OZ P w0 ops fl st val a0 W0 ρ0 AV a' w ρ p){i:Nat}{o:Oper}(ho:ops[i]?=some o)(WD:AV.getD i false=false)(OG:∀q,q∈iV ops i→AV.getD q false=true)
  (nm:(st 0).ws=[]) {ok:CW→Bool} (hk:Dw ops i (G' ops i) ok (st ops.size).ws (st ops.size).W=true):ok (st p).W=true:=by
 obtain⟨A,h1,h2,h3⟩:=Yl FJ (p:=p) ops.size h.np (aag _);rw[h1]at hk
 have:=WB hk ?_ ?_
 ·rwa[h3]at this
 ·intro x hx;obtain⟨NK,bT,hx3⟩:=h2 x hx
  cases hm:C_ (G' ops i) x.1 with
  |false=>rfl
  |true=>
   have:=IP (L:=λx=>AV.getD x false=true) h.closed OG hm;have:=(h.wrs x.1 bT hx3).1 this;omega
 ·intro j Wj B' hB;obtain⟨A2,g1,g2,_⟩:=Yl FJ (p:=0) p (aa1 _) h.np;rw[nm,abl]at g1;have JJ:(j,Wj)∈A2:=by rw[←g1,hB];simp
  obtain⟨_,hj,ja⟩:=g2 _ JJ;simp only at hj ja;have hl:=(h.wrs j (abz hj h.np) ja).2 hj
  cases ha:anc ops j i with
  |false=>rfl
  |true=>
   have:=IP (L:=λx=>AV.getD x false=true) h.closed (h.closed j hl) (j:=i) ha;rw[WD]at this;cases this
theorem OZ.fS(h:OZ P w0 ops fl st val a0 W0 ρ0 AV a' w ρ p)(Ny:∀i,i∈Ho P ops→∃x,x∈fl∧x.1=i){i:Nat}{o:Oper}(ho:ops[i]?=some o)(WD:AV.getD i false=false)(OG:∀q,q∈iV ops i→AV.getD q false=true)
  (hw:Wr st i) (P_:UP P o=true) (G_:∀x,x∈fl→x.1≠i):i=p:=by
 have hi:i<ops.size:=(aao.1 ho).1
 have GZ:p≤i:=by
  have:=(h.wrs i hi hw)
  rw[WD]at this;have hn:¬i<p:=λhh=>by have:=this.2 hh;cases this
  omega
 by_cases e:i=p
 ·exact e
 ·have hp:p<ops.size:=by omega
  have hwp:=h.pw.resolve_left (by omega);have UW:ops[p]?=some ops[p]:=by simp[hp]
  rcases(FJ p _ UW).wr with⟨_,AKs,AKt⟩|⟨hn,_,_⟩
  ·rcases Lm OY ho UW (show p<i by omega)with h1|⟨_,h1⟩
   ·have:=IP (L:=λx=>AV.getD x false=true) h.closed OG h1;have:=(h.wrs p hp hwp).1 this;omega
   ·refine(h1 ⟨P_,AKs,λhf=>?_,λhf=>?_⟩).elim
    ·obtain⟨x,hx,e⟩:=Ny i hf;exact G_ x hx e
    ·obtain⟨x,hx,e⟩:=Ny p hf;exact AKt x hx e
  ·exact(hn hwp).elim
end
section
variable {P:Program}{w0:World}{wi:Nat→Bool→Code→Bool}{R:Dl}{ops:Array Oper}{fl:List (Nat×Value×Option BF)}{nv:Nat→Bool}{st:Nat→F1}{val:Nat→Value}{a0:AN}{W0:CW}{ρ0:CJ}
 {AV:Array Bool} {a':Act} {w:World} {ρ:CJ} {p:Nat}
theorem nq(hz:ZP P)(hw:Aa P w0 ρ W0 w){x:Nat×Value×Option BF}{o:Oper}(hk:FK P ops x)(ho:ops[x.1]?=some o)(hn:ρ (nameOf x.2.1)=none)(Ad:nameOf x.2.1<W0.sz)(CH:W0.obj (nameOf x.2.1)=x.2.2){a:AN}(OE:SA P o a x.2.1 x.2.2=true)(e':Operand→Value)(he':∀t l c,o.op=.makeSlice t l c→AS ρ (a.eval l) (e' l)∧AS ρ (a.eval c) (e' c)) :
  ∃v' w' ρ',(execOp e' o).run P w=.ok (.value v') w'∧Ext ρ ρ'∧(∀i,i≠nameOf x.2.1→ρ' i=ρ i)∧AS ρ' x.2.1 v'∧Aa P w0 ρ' W0 w'∧o.guard=none∧(∀c,o.op≠.defer c)∧∀c,o.op≠.call c:=by
 obtain⟨o2,ho2,hg,BV⟩:=hk;rw[ho]at ho2
 cases ho2
 rcases BV with⟨t,z,s,b,UW,M4,hs,hv,WE⟩|⟨t,b,UW,hv,WE⟩|⟨t,l,c,b,n,m,UW,hv⟩
 ·rw[hv]at hn Ad CH ⊢;rw[WE]at CH;simp only[nameOf]at hn Ad CH ⊢;have hb:∀i,i≠b→(if i=b then some (⟨w.heap.size,0,s,z.cells.size,z.cells.size⟩:Info)else ρ i)=ρ i:=λi hi=>aad hi
  obtain⟨Dy,KR⟩:=hw.xm hn Ad CH (x:=⟨w.heap.size,0,s,z.cells.size,z.cells.size⟩) (o':=.cells z.cells t (0,0)) rfl (by
   refine .cells hs rfl (by simp) (λk hk=>?_) ⟨NF.zero _,λ_=>⟨rfl,rfl⟩⟩;have hc:=(hz.rel M4 (λi=>if i=b then some (⟨w.heap.size,0,s,z.cells.size,z.cells.size⟩:Info)else ρ i)).cells.2 k (by simpa using hk);have hk:k<z.cells.size:=hk;have:cellAt .nil z.cells k=z.cells.getD k undef:=by simp[cellAt,Tr.get_nil,ab1 hk]
   rw[this]
   simpa[aal,aah]using hc)
  refine⟨.pointer (some ⟨w.heap.size,0,none⟩),_,_,?_,Dy,hb,.ptr ⟨rfl,⟨w.heap.size,0,s,z.cells.size,z.cells.size⟩,by simp,by simp⟩,KR,hg,(by rw[UW];intro c h;cases h),by rw[UW];intro c h;cases h⟩;simp only[execOp,UW];exact BZ (by simp[Instr.alloc,CA M4,newVar,newRow])
 ·rw[hv]at hn Ad CH ⊢;rw[WE]at CH;simp only[nameOf]at hn Ad CH ⊢;have hb:∀i,i≠b→(if i=b then some (⟨w.heap.size,0,0,0,0⟩:Info)else ρ i)=ρ i:=λi hi=>aad hi;obtain⟨Dy,KR⟩:=hw.xm hn Ad CH (x:=⟨w.heap.size,0,0,0,0⟩) (o':=.map #[] 0) rfl (.map rfl trivial);refine⟨.map (some w.heap.size),_,_,?_,Dy,hb,.map ⟨⟨w.heap.size,0,0,0,0⟩,by simp,rfl⟩,KR,hg,(by rw[UW];intro c h;cases h),by rw[UW];intro c h;cases h⟩;simp only[execOp,UW];exact BZ (by simp[Instr.makeMap])
 ·obtain⟨i,v,ob⟩:=x;simp only at hv OE hn Ad CH ⊢;subst hv;simp only[nameOf]at hn Ad CH ⊢;obtain⟨hl,hc⟩:=he' t l c UW;simp only[SA,UW,Option.any_eq_true]at OE;obtain⟨outs,ACw,⟨nx,W1⟩,MT,OE⟩:=OE;simp only[Bm,UW]at ACw;obtain⟨v',iZ,hv,rfl⟩:=PN ACw;simp only[List.head?_cons,aam,aau]at MT;obtain⟨rfl,rfl⟩:=MT;simp only[aab]at OE;obtain⟨hq1,wk⟩:=OE;have hq1:=H0 8 _ _ hq1;have wk:=SU wk;split at hv
  rotate_left
  ·cases hv
  rename_i elem kl li kc ci ht NG hec;rw[NG]at hl;rw[hec]at hc;generalize e1:e' l=vl at hl;generalize e2:e' c=vc at hc
  cases hl
  cases hc
  obtain⟨s,hs,hv⟩:=Ao hv;obtain⟨z,hz2,hv⟩:=Ao hv;rw[cond_eq_ite]at hv;split at hv
  rotate_left
  ·cases hv
  rename_i Bn;simp only[aab,decide_eq_true_eq]at Bn;obtain⟨⟨⟨⟨⟨c1,c2⟩,c3⟩,c4⟩,c5⟩,c6⟩:=Bn;have c4:=aaj c4;have c5:=aac c5;have c6:0<s:=by have:=aaj c6;omega
  simp only[aam,aau]at hv;obtain⟨rfl,rfl⟩:=hv
  cases hq1
  have wk:some (BF.cells .nil (ci.toNat*s) z.cells elem)=ob:=by rw[←wk];simp[CW.obj,CW.new,Tr.CI]
  subst wk;have hb:∀i,i≠b→(if i=b then some (⟨w.heap.size,0,s,ci.toNat*s,ci.toNat*s⟩:Info)else ρ i)=ρ i:=λi hi=>aad hi
  obtain⟨Dy,KR⟩:=hw.xm hn Ad CH (x:=⟨w.heap.size,0,s,ci.toNat*s,ci.toNat*s⟩) (o':=.cells ((Array.range (ci.toNat*s)).map (z.cells[· %z.cells.size]!)) elem (0,0)) rfl (by
   exact .cells hs (by simp) (by simp) (λk hk=>PO hz hz2 _ (.inr (by omega)) k hk) ⟨NF.zero _,λ_=>⟨rfl,rfl⟩⟩)
  refine⟨.slice (some ⟨w.heap.size,0,none⟩) li.toNat ci.toNat,_,_,?_,Dy,hb,.slice _ ⟨rfl,⟨w.heap.size,0,s,ci.toNat*s,ci.toNat*s⟩,by simp,by simp⟩ (.inl rfl),KR,hg,(by rw[UW];intro c h;cases h),by rw[UW];intro c h;cases h⟩;simp only[execOp,UW,e1,e2];exact BZ (QL ht hs hz2 c1 c2 c3 c4 w)
theorem fT{s:F1}{o:Oper}(h:Ew ops o s.a=some false):o.guard≠none:=by
 intro hg;unfold Ew at h;rw[hg]at h
 cases h
theorem ACx{α:Type}{f:α→Nat}:∀{l:List α},l.Pairwise (λx y=>f x≠f y)→∀{a b:α},a∈l→b∈l→a≠b→f a≠f b
 |[],_,_,_,h,_,_=>by cases h
 |x::l,hp,a,b,ha,hb,D3=>by
  obtain⟨h1,h2⟩:=acj.1 hp
  rcases aaJ.1 ha with ea|ha'<;>rcases aaJ.1 hb with eb|hb'
  ·exact(D3 (ea.trans eb.symm)).elim
  ·rw[ea];exact h1 b hb'
  ·rw[eb];exact(h1 a ha').symm
  ·exact ACx h2 ha' hb' D3
variable (hz:ZP P)(hR:RS P w0 wi R){Iy:Option Nat}{n:Nat}{Q:Exit→Act→World→Prop}{K:Act→World→Prop}
 (FJ:∀i o,ops[i]?=some o→GP P R ops fl nv i o (st i) (st (i+1)) (val i)) (h0:(st 0).a=a0) (nm:(st 0).ws=[]) (OY:Ju P ops=true) (Al:MP P a0.nt Iy.isSome ops.toList=true)
 (Ny:∀i,i∈Ho P ops→∃x,x∈fl∧x.1=i) (Yn:∀x,x∈fl→W0.sz≤nameOf x.2.1∧FK P ops x) (jb:fl.Pairwise (λx y=>nameOf x.2.1≠nameOf y.2.1))
 (xp:∀x,x∈fl→Dw ops x.1 (G' ops x.1) (λW=>DW (W.obj (nameOf x.2.1)) x.2.2) (st ops.size).ws (st ops.size).W=true)
 (J5:∀i o a v,(i,o,a,v)∈(st ops.size).rd→Dw ops i (G' ops i) (λW=>match Bm P o a.eval W with|some [(.value u,_)]=>R.eqv u v|_=>false) (st ops.size).ws (st ops.size).W=true)
include hz hR FJ h0 nm OY Al Ny Yn jb xp J5
theorem rD:∀(q:Nat) (i:Nat),i≤q→q≤ops.size→∀x,x∈(st i).rd→x∈(st q).rd
 |0,i,h,_,x,hx=>by have:i=0:=(by omega);subst this;exact hx
 | q+1,i,h,hq,x,hx=>by
  by_cases e:i=q+1
  ·subst e;exact hx
  ·have:=rD q i (by omega) (by omega) x hx;have ho:ops[q]?=some ops[q]:=by simp[show q<ops.size by omega]
   cases FJ q _ ho<;>(rename_i he;rw[he];first|exact this|exact acV _ this)
theorem tY(h:OZ P w0 ops fl st val a0 W0 ρ0 AV a' w ρ p){i:Nat}(hi:i∈Region.ready .any ops AV)
  (hnv:nv i=true→wpOpIn (C7 P Iy) n P ops Q i K a' w)
  (hK:∀a2 w2 ρ2 p2,OZ P w0 ops fl st val a0 W0 ρ0 (AV.setIfInBounds i true) a2 w2 ρ2 p2→K a2 w2):wpOpIn (C7 P Iy) n P ops Q i K a' w:=by
 cases hnn:nv i with
 |true=>exact hnv hnn
 |false=>
 obtain⟨AHF,o,ho,C3⟩:=mem_ready.1 hi;have tZ:i<ops.size:=(aao.1 ho).1
 have WD:AV.getD i false=false:=by
  have:i<AV.size:=by rw[h.size];exact tZ
  simpa[aal,this]using AHF
 have OG:∀q,q∈iV ops i→AV.getD q false=true:=by
  intro q hq;simp only[iV,ho,aaM,aco]at hq;obtain⟨e,⟨he1,RD⟩,rfl⟩:=hq;exact C3 e (by simpa using he1) RD
 have ADf:(YP o=true∧R_ P o=true)∧i_ a0.nt o=true∧(Iy=none∨∀c,o.op≠.defer c):=by
  simp only[MP,aax,aab]at Al;have hm:o∈ops.toList:=by simpa using acp ho
  obtain⟨⟨k1,k2⟩,k3⟩:=Al o hm;refine⟨k1,k2,?_⟩;simp only[aaU,aaK]at k3
  rcases k3 with h1|h1
  ·left;cases Iy with
   |none=>rfl
   |some _=>cases h1
  ·right;intro c hc;unfold R' at h1;rw[hc]at h1;cases h1
 obtain⟨⟨LZ,tV⟩,bY,Ui⟩:=ADf;have hd:=RE bY;have jc:∀d,d∈o.looksAt ops→AS ρ ((st i).a.at d) (a'.tmps.getD d undef):=λd hd=>h.look FJ h0 OY ho WD OG hd
 have NL:∀j want,o.guard=some (j,want)→∀d,(ops[j]?).bind (·.dst)=some d→AS ρ ((st i).a.at d) (a'.tmps.getD d undef):=λj want hg d hdd=>
  jc d (by unfold Oper.looksAt;rw[hg];simp[hdd])
 have fP:∀x,x∈o.op.operands→Av x=true→AS ρ ((st i).a.eval x) (a'.eval x):=by
  intro x hx hxo
  cases x with
  |tmp t=>
   rw[AN.SN];refine jc t ?_;unfold Oper.looksAt;refine acW _ (List.mem_filterMap.2 ⟨.tmp t,by simpa using hx,rfl⟩)
  |const v=>exact .SD ρ 8 v hxo
  |global g=>cases hxo
  |func f=>exact .func (.func f) rfl (λi hi=>by simp at hi) rfl (λi hi=>by simp at hi)
 have ACy:∀t l c,o.op=.makeSlice t l c→∀x,(x=l∨x=c)→AS ρ ((st i).a.eval x) (a'.eval x):=by
  intro t l c UW x hx;refine fP x (by rw[UW];rcases hx with rfl|rfl<;>simp[Op.operands]) ?_;unfold YP at LZ;rw[UW]at LZ;simp only[aab]at LZ
  rcases hx with rfl|rfl
  ·exact LZ.1
  ·exact LZ.2
 have Ym:∀j,i<j→j<ops.size→Gk ops i≠none→Gk ops j=Gk ops i→AV.getD j false=false:=by
  intro j h1 h2 h3 h4;have hdi:Gk ops i=o.dst:=by simp[Gk,ho]
  cases hdd:o.dst with
  |none=>rw[hdi,hdd]at h3;exact(h3 rfl).elim
  |some t=>exact h.AHE FJ h0 OY ho WD hdd j h1 h2 h4
 have xq:¬Wr st i→∀v' w2 ρ2,FP (st p).W ρ (st p).W ρ2→AS ρ2 (val i) v'→Aa P w0 ρ2 (st p).W w2→K (a'.put o.dst v') w2:=by
  intro SV v' w2 ρ2 hg hv Hl
  refine hK _ _ ρ2 p (h.next ho hd WD OG Ym hg.1 hv h.np h.pw ?_ Hl (h.grow.trans hg) ?_)
  ·intro j hj ja;have D3:j≠i:=λe=>SV (e▸ja);rw[←h.wrs j hj ja];exact⟨λhh=>hh.resolve_right D3,.inl⟩
  ·intro x hx hl _;obtain⟨u1,u2⟩:=h.fR x hx hl;exact⟨by rw[hg.2.1 _ u2];exact u1,u2⟩
 have fU:i=p→∀v' w2 ρ2,FP (st p).W ρ (st (i+1)).W ρ2→AS ρ2 (val i) v'→Aa P w0 ρ2 (st (i+1)).W w2→K (a'.put o.dst v') w2:=by
  intro wm v' w2 ρ2 hg hv Hl;obtain⟨p2,k1,k2,k3,k4,k5⟩:=XC FJ (ops.size-(i+1)) (i+1) (by omega);rw[←k5]at hg Hl
  refine hK _ _ ρ2 p2 (h.next ho hd WD OG Ym hg.1 hv k2 k3 ?_ Hl (h.grow.trans hg) ?_)
  ·intro j hj ja;rw[h.wrs j hj ja]
   constructor
   ·rintro(hh|hh)<;>omega
   ·intro hh
    by_cases e:j<i+1
    ·omega
    ·exact(k4 j (by omega) hh ja).elim
  ·intro x hx hl _;obtain⟨u1,u2⟩:=h.fR x hx hl;exact⟨by rw[hg.2.1 _ u2];exact u1,abz u2 hg.2.2⟩
 have hS:∀{outs:List (B_×CW)},Bm P o (st i).a.eval (st p).W=some outs→BU P w0 ρ (st p).W ((execOp a'.eval o).run P w) outs:=λhc=>SM hz LZ (λ_=>rfl) fP h.world hc;have hAb:∀{outs:List (B_×CW)},Bm P o (st i).a.eval (st p).W=some outs→(∀{f:FuncId} {args:List Value} {W1:CW},(B_.enter f args,W1)∈outs→Ex P f)→∀f,o.about P w a'.eval=some f→Ex P f:=λhc hx=>OW hc LZ fP hx
 have rE:¬Wr st i→Bm P o (st i).a.eval (st p).W=some [(.value (val i),(st p).W)]→o.wpIn (C7 P Iy) n P a' w K Q:=by
  intro SV hc
  refine Hz hR (hAb hc (λ{f args W1} hm=>by simp at hm)) (hS hc) Ui ?_ ?_ ?_ ?_ ?_ ?_ ?_
  ·intro v v' W1 ρ1 w1 hm hg hv Fi;simp only[dy,aau,B_.value.injEq]at hm;obtain⟨rfl,rfl⟩:=hm;exact xq SV v' w1 ρ1 hg hv Fi
  all_goals (intros;rename_i hm;first|(simp at hm;done)|skip)
  all_goals (intros;simp_all)
 unfold wpOpIn;rw[ho];simp only
 cases FJ i o ho with
 |never h1 _ _=>rw[hnn]at h1;cases h1
 | float ob hm OE he=>
  obtain⟨u1,u2⟩:=h.fR _ hm WD;have WE:=SU (h.rC FJ h0 OY ho WD OG nm (xp _ hm));obtain⟨GZ,hfk⟩:=Yn _ hm;obtain⟨v',w',ρ',J4,Dy,V',hv,KR,hg,WG,hnc⟩:=nq hz h.world hfk ho u1 u2 WE OE a'.eval (λt l c UW=>⟨ACy t l c UW l (.inl rfl),ACy t l c UW c (.inr rfl)⟩);have IM:Region.wanted o (yielded ops a'.tmps)=true:=by unfold Region.wanted;rw[hg]
  rw[IM,aae rfl];refine⟨λf hf=>JI _ (YY hnc f hf),?_⟩;rw[Oper.semAt_eq _ _ _ WG,J4]
  have SV:¬Wr st i:=by
   rcases(FJ i o ho).wr with⟨_,_,G_⟩|⟨hn,_⟩
   ·exact(G_ _ hm rfl).elim
   ·exact hn
  refine hK _ _ ρ' p (h.next ho hd WD OG Ym Dy hv h.np h.pw ?_ KR ⟨h.grow.1.trans Dy,λj hj=>?_,h.grow.2.2⟩ ?_)
  ·intro j hj ja;have D3:j≠i:=λe=>SV (e▸ja);rw[←h.wrs j hj ja];exact⟨λhh=>hh.resolve_right D3,.inl⟩
  ·have ANY:W0.sz≤nameOf (val i):=GZ;rw[V' j (λe=>by have e:j=nameOf (val i):=e;omega)];exact h.grow.2.1 j hj
  ·intro x hx hl hxi;obtain⟨u1,u2⟩:=h.fR x hx hl;have D3:=ACx jb hx hm (λe=>hxi (by rw[e]));exact⟨by rw[V' _ D3];exact u1,u2⟩
 |off G_ IM hv he=>
  rw[H3 IM NL,aad (by simp)];have SV:¬Wr st i:=by unfold Wr;rw[he];intro hh;have:=ab3 List.length hh;simp at this
  exact⟨λf hf=>JI _ (OV LZ tV (fT IM) f hf),xq SV undef w ρ (.refl _) (by rw[hv];exact .undef _) h.world⟩
 |pure W1 G_ IM hp hc he=>
  rw[H3 IM NL,aae rfl];have SV:¬Wr st i:=by unfold Wr;rw[he];intro hh;have:=ab3 List.length hh;simp at this
  exact rE SV (xl hp hc _)
 |read W1 G_ IM hp hc he=>
  rw[H3 IM NL,aae rfl];have SV:¬Wr st i:=by unfold Wr;rw[he];intro hh;have:=ab3 List.length hh;simp at this
  refine rE SV ?_;have JJ:(i,o,(st i).a,val i)∈(st ops.size).rd:=rD hz hR FJ h0 nm OY Al Ny Yn jb xp J5 ops.size (i+1) (by omega) (aag _) _ (by rw[he];simp);have hk:=h.rC FJ h0 OY ho WD OG nm (J5 i o _ _ JJ)
  split at hk
  ·rename_i u W2 Yo;rw[Yo,hR.eqv _ _ hk,xk hp Yo]
  ·cases hk
 |value W1 G_ IM P_ hc he=>
  rw[H3 IM NL,aae rfl];have wm:=h.fS FJ h0 OY Ny ho WD OG (by unfold Wr;rw[he]) P_ G_;have xu:(st (i+1)).W=W1:=by rw[he]
  have QW:Bm P o (st i).a.eval (st p).W=some [(.value (val i),W1)]:=by rw[←wm];exact hc
  refine Hz hR (hAb QW (λ{f args W1} hm=>by simp at hm)) (hS QW) Ui ?_ ?_ ?_ ?_ ?_ ?_ ?_
  ·intro v v' W2 ρ1 w1 hm hg hv Fi;simp only[dy,aau,B_.value.injEq]at hm;obtain⟨rfl,rfl⟩:=hm;exact fU wm v' w1 ρ1 (by rw[xu];exact hg) hv (by rw[xu];exact Fi)
  all_goals (intros;simp_all)
 |skip W1 G_ IM P_ hc hv0 he=>
  rw[H3 IM NL,aae rfl];have wm:=h.fS FJ h0 OY Ny ho WD OG (by unfold Wr;rw[he]) P_ G_;have xu:(st (i+1)).W=W1:=by rw[he]
  have QW:Bm P o (st i).a.eval (st p).W=some [(.skip,W1)]:=by rw[←wm];exact hc
  refine Hz hR (hAb QW (λ{f args W1} hm=>by simp at hm)) (hS QW) Ui ?_ ?_ ?_ ?_ ?_ ?_ ?_
  ·intros;simp_all
  ·intro W2 ρ1 w1 hm hg Fi;simp only[dy,aau,true_and]at hm;subst hm;exact fU wm undef w1 ρ1 (by rw[xu];exact hg) (by rw[hv0];exact .undef _) (by rw[xu];exact Fi)
  all_goals (intros;simp_all)
 | call f args W1 W2 m G_ IM P_ hc Ry CU he=>
  rw[H3 IM NL,aae rfl];have wm:=h.fS FJ h0 OY Ny ho WD OG (by unfold Wr;rw[he]) P_ G_;have xu:(st (i+1)).W=W2:=by rw[he]
  have QW:Bm P o (st i).a.eval (st p).W=some [(.enter f args,W1)]:=by rw[←wm];exact hc
  refine Hz hR (hAb QW (λ{f' args' iZ} hm=>by simp only[dy,aau,B_.enter.injEq]at hm;obtain⟨⟨rfl,_⟩,_⟩:=hm;exact hR.ex Ry)) (hS QW) Ui ?_ ?_ ?_ ?_ ?_ ?_ ?_
  ·intros;simp_all
  ·intros;simp_all
  ·intros;simp_all
  ·intro f2 xv W3 hm;simp only[dy,aau,B_.enter.injEq]at hm;obtain⟨⟨rfl,rfl⟩,rfl⟩:=hm;refine⟨m,Ry,λ{ρ1} hg e2 w2 hE=>?_⟩;obtain⟨v',ρ2,rfl,OF,hv,Hl⟩:=NJ CU hE;refine⟨λv2 RD=>?_,λc' RD=>by cases RD⟩
   cases RD
   exact fU wm v' w2 ρ2 (by rw[xu];exact hg.trans OF) hv (by rw[xu];exact Hl)
  all_goals (intros;simp_all)
 | round l args W1 W2 m G_ IM P_ hc Ry CU he=>
  rw[H3 IM NL,aae rfl];have wm:=h.fS FJ h0 OY Ny ho WD OG (by unfold Wr;rw[he]) P_ G_;have xu:(st (i+1)).W=W2:=by rw[he]
  have QW:Bm P o (st i).a.eval (st p).W=some [(.round l args,W1)]:=by rw[←wm];exact hc
  refine Hz hR (hAb QW (λ{f args W1} hm=>by simp at hm)) (hS QW) Ui ?_ ?_ ?_ ?_ ?_ ?_ ?_
  ·intros;simp_all
  ·intros;simp_all
  ·intros;simp_all
  ·intros;simp_all
  ·intro l2 xv W3 hm;simp only[dy,aau,B_.round.injEq]at hm;obtain⟨⟨rfl,rfl⟩,rfl⟩:=hm;refine⟨m,Ry,λ{ρ1} hg e2 w2 hE=>?_⟩;obtain⟨v',ρ2,rfl,OF,hv,Hl⟩:=NJ CU hE;refine⟨λv2 RD=>?_,λc' RD=>by cases RD⟩
   cases RD
   exact fU wm v' w2 ρ2 (by rw[xu];exact hg.trans OF) hv (by rw[xu];exact Hl)
  all_goals (intros;simp_all)
end
theorem JK(n i:Nat):(Array.replicate n false).getD i false=false:=by
 rw[aal,Array.getElem?_replicate];split<;>rfl
theorem xw{p q:Nat→Bool}:∀(l:List Nat),(∀j,j∈l→q j=true→p j=true)→(l.filter q).length≤(l.filter p).length
 |[],_=>aag _
 |x::l,h=>by
  have ih:=xw l (λj hj=>h j (by simp[hj]));simp only[List.filter_cons]
  cases hq:q x with
  |true=>rw[h x (by simp) hq];simpa using ih
  |false=>cases p x<;>simp<;>omega
theorem xx{p q:Nat→Bool}{i:Nat}(hp:p i=true)(hq:q i=false):∀(l:List Nat),(∀j,j∈l→q j=true→p j=true)→i∈l→(l.filter q).length<(l.filter p).length
 |[],_,hi=>by cases hi
 | x::l,h,hi=>by
  simp only[List.filter_cons]
  rcases aaJ.1 hi with rfl|hi
  ·rw[hp,hq];have:=xw l (λj hj=>h j (by simp[hj]));simp;omega
  ·have ih:=xx hp hq l (λj hj=>h j (by simp[hj])) hi
   cases hqx:q x with
   |true=>rw[h x (by simp) hqx];simpa using ih
   |false=>cases p x<;>simp<;>omega
section
variable {P:Program}{w0:World}{wi:Nat→Bool→Code→Bool}{R:Dl}{ops:Array Oper}{fl:List (Nat×Value×Option BF)}{nv:Nat→Bool}{st:Nat→F1}{val:Nat→Value}{a0:AN}{W0:CW}{ρ0:CJ}
 {Iy:Option Nat} {n:Nat} {Q:Exit→Act→World→Prop}
theorem tc{AV:Array Bool}(OY:Ju P ops=true)(hs:AV.size=ops.size)(h:Region.ready .any ops AV=[]):∀i,i<ops.size→AV.getD i false=true:=by
 intro i
 induction i using Nat.strongRecOn with
 | _ i ih=>
  intro hi
  cases hl:AV.getD i false with
  |true=>rfl
  | false=>
   have ho:ops[i]?=some ops[i]:=by simp[hi]
   have:i∈Region.ready .any ops AV:=by
    refine mem_ready.2 ⟨?_,ops[i],ho,λe he hb=>?_⟩
    ·have LB:i<AV.size:=by omega
     simpa[aal,LB]using hl
    ·have hq:e.on∈iV ops i:=by
      simp only[iV,ho,aaM,aco];exact⟨e,⟨by simpa using he,hb⟩,rfl⟩
     have:=RF OY hi _ hq;exact ih _ this (by omega)
   rw[h]at this;cases this
theorem jd(hz:ZP P)(hR:RS P w0 wi R)
  (FJ:∀i o,ops[i]?=some o→GP P R ops fl nv i o (st i) (st (i+1)) (val i)) (h0:(st 0).a=a0) (nm:(st 0).ws=[]) (OY:Ju P ops=true) (Al:MP P a0.nt Iy.isSome ops.toList=true)
  (Ny:∀i,i∈Ho P ops→∃x,x∈fl∧x.1=i) (Yn:∀x,x∈fl→W0.sz≤nameOf x.2.1∧FK P ops x) (jb:fl.Pairwise (λx y=>nameOf x.2.1≠nameOf y.2.1))
  (xp:∀x,x∈fl→Dw ops x.1 (G' ops x.1) (λW=>DW (W.obj (nameOf x.2.1)) x.2.2) (st ops.size).ws (st ops.size).W=true)
  (J5:∀i o a v,(i,o,a,v)∈(st ops.size).rd→Dw ops i (G' ops i) (λW=>match Bm P o a.eval W with|some [(.value u,_)]=>R.eqv u v|_=>false) (st ops.size).ws (st ops.size).W=true)
  (hQ:(∀i,i<ops.size→nv i=false)→∀e a2 w2,MA P w0 ρ0 W0 a0.nt [(.normal,(st ops.size).a,(st ops.size).W)] e a2 w2→Q e a2 w2)
  (hN:∀{AV:Array Bool} {a':Act} {w:World} {ρ:CJ} {p:Nat} {i:Nat} {K:Act→World→Prop},OZ P w0 ops fl st val a0 W0 ρ0 AV a' w ρ p→(∀j,nv j=true→AV.getD j false=false)→i∈Region.ready .any ops AV→nv i=true→wpOpIn (C7 P Iy) n P ops Q i K a' w) :
  ∀(fuel:Nat) (AV:Array Bool) (a':Act) (w:World) (ρ:CJ) (p:Nat),OZ P w0 ops fl st val a0 W0 ρ0 AV a' w ρ p→(∀j,nv j=true→AV.getD j false=false)→((List.range ops.size).filter λi=>!AV.getD i false).length≤fuel→
   wpAnyIn (C7 P Iy) n P .any ops Q fuel AV a' w:=by
 have fin:∀(AV:Array Bool) (a':Act) (w:World) (ρ:CJ) (p:Nat),OZ P w0 ops fl st val a0 W0 ρ0 AV a' w ρ p→(∀j,nv j=true→AV.getD j false=false)→(∀i,i<ops.size→AV.getD i false=true)→Q .normal a' w:=by
  intro AV a' w ρ p h LU C3
  have hp:p=ops.size:=by
   rcases h.pw with e|hw
   ·exact e
   ·by_cases e:p=ops.size
    ·exact e
    ·have Ad:p<ops.size:=by have:=h.np;omega
     have:=(h.wrs p Ad hw).1 (C3 p Ad);omega
  subst hp;obtain⟨Nv,hdf⟩:=ACv FJ a0 h0 ops.size (aag _)
  refine hQ (λi hi=>by
   cases hn:nv i with
   |false=>rfl
   |true=>have:=LU i hn;rw[C3 i hi]at this;cases this) _ _ _ ⟨.normal,_,_,ρ,dy.2 rfl,h.grow,.normal,⟨λd=>?_,by rw[Nv];exact h.jZ,by rw[hdf];exact h.defers⟩,h.world,Nv⟩
  rw[xn FJ a0 h0 d ops.size (aag _)];have:=h.rB d
  rwa[SS (L':=λ_=>true) λj hj _=>C3 j hj]at this
 intro fuel
 induction fuel with
 | zero=>
  intro AV a' w ρ p h LU hc
  have C3:∀i,i<ops.size→AV.getD i false=true:=by
   intro i hi
   cases hl:AV.getD i false with
   |true=>rfl
   |false=>
    have hm:i∈(List.range ops.size).filter λi=>!AV.getD i false:=aco.2 ⟨aaT.2 hi,by rw[hl];rfl⟩;have:=List.length_pos_of_mem hm;omega
  refine⟨?_,fin _ _ _ _ _ h LU C3⟩
  cases hr:Region.ready .any ops AV with
  |nil=>rfl
  |cons i l=>
   obtain⟨h1,o,ho,_⟩:=mem_ready.1 (show i∈Region.ready .any ops AV by rw[hr];simp);have hi:i<ops.size:=(aao.1 ho).1;have h2:=C3 i hi;have LB:i<AV.size:=by rw[h.size];exact hi
   simp[LB]at h1 h2;rw[h1]at h2;cases h2
 | succ fuel ih=>
  intro AV a' w ρ p h LU hc;refine⟨λhr=>fin _ _ _ _ _ h LU (tc OY h.size hr),λi hi=>?_⟩
  by_cases wo:nv i=true
  ·exact hN h LU hi wo
  refine tY hz hR FJ h0 nm OY Al Ny Yn jb xp J5 h hi (λe=>(wo e).elim) λa2 w2 ρ2 p2 h2=>ih _ _ _ _ _ h2 (λj hj=>?_) ?_
  ·have D3:j≠i:=λe=>wo (e▸hj);have:=LU j hj;simp only[aal,aaV]at this ⊢;rw[aad (ab8 D3)];exact this
  obtain⟨h1,o,ho,_⟩:=mem_ready.1 hi;have tZ:i<ops.size:=(aao.1 ho).1;have LB:i<AV.size:=by rw[h.size];exact tZ
  have WD:AV.getD i false=false:=by simpa[aal,LB]using h1
  have:=xx (p:=λi=>!AV.getD i false) (q:=λj=>!(AV.setIfInBounds i true).getD j false) (i:=i) (by simp only[WD];rfl)
   (by simp only[(Gx LB (j:=i)).2 (.inr rfl)];rfl) (List.range ops.size) (λj _ hj=>by
    cases hl:AV.getD j false with
    |false=>rfl
    |true=>
     simp only[(Gx LB).2 (.inl hl)]at hj
     cases hj) (aaT.2 tZ)
  omega
theorem ABM{i q:Nat}(OY:Ju P ops=true)(hi:i<ops.size)(h:C_ (G' ops i) q=true):q<i :=
 IP (L:=λx=>x<i) (λj hj q hq=>by have:=RF OY (Nat.lt_trans hj hi) q hq;omega) (λq hq=>RF OY hi q hq) h
theorem xy(hz:ZP P)(hR:RS P w0 wi R){i0:Nat}{ch:List PanicEntry}{W2:CW}
  (FJ:∀i o,ops[i]?=some o→GP P R ops [] (N9 ops i0) i o (st i) (st (i+1)) (val i)) (h0:(st 0).a=a0) (nm:(st 0).ws=[]) (OY:Ju P ops=true) (Al:MP P a0.nt Iy.isSome ops.toList=true)
  (hwa:∀x,x∈(st ops.size).ws→C_ (G' ops i0) x.1=true) {o0:Oper} (ho0:ops[i0]?=some o0) (hp:FR P R ops [] i0 o0 (st i0)=some (ch,W2))
  (hQ:∀e a2 w2,MA P w0 ρ0 W0 a0.nt [(.panic ch,a0.bad,W2)] e a2 w2→Q e a2 w2)
  {AV:Array Bool} {a':Act} {w:World} {ρ:CJ} {p:Nat} {i:Nat} {K:Act→World→Prop} (h:OZ P w0 ops [] st val a0 W0 ρ0 AV a' w ρ p) (LU:∀j,N9 ops i0 j=true→AV.getD j false=false) (hi:i∈Region.ready .any ops AV) (wo:N9 ops i0 i=true):wpOpIn (C7 P Iy) n P ops Q i K a' w:=by
 obtain⟨AHF,o,ho,C3⟩:=mem_ready.1 hi;have tZ:i<ops.size:=(aao.1 ho).1;have WD:AV.getD i false=false:=LU i wo
 have OG:∀q,q∈iV ops i→AV.getD q false=true:=by
  intro q hq;simp only[iV,ho,aaM,aco]at hq;obtain⟨e,⟨he1,RD⟩,rfl⟩:=hq;exact C3 e (by simpa using he1) RD
 have self:N9 ops i0 i0=true:=by unfold N9;simp
 have hii:i=i0:=by
  by_cases e:i=i0
  ·exact e
  ·have hm:C_ (G' ops i) i0=true:=by
    unfold N9 at wo;simp only[aaU]at wo;have:=wo.resolve_left λhh=>e (aac hh);simp only[aab]at this;exact this.2
   have:=IP (L:=λx=>AV.getD x false=true) h.closed OG hm;rw[LU i0 self]at this;cases this
 subst hii;rw[ho0]at ho
 cases ho
 have hpe:p=ops.size:=by
  rcases h.pw with e|hw
  ·exact e
  ·by_cases e:p=ops.size
   ·exact e
   ·have Ad:p<ops.size:=by have:=h.np;omega
    obtain⟨A,h1,h2,_⟩:=Yl FJ (p:=p+1) ops.size (by omega) (aag _);have JJ:(p,(st p).W)∈(st ops.size).ws:=by rw[h1,hw];simp
    have hm:=hwa _ JJ;have:=IP (L:=λx=>AV.getD x false=true) h.closed OG hm;have:=(h.wrs p Ad hw).1 this;omega
 subst hpe;have AKu:∀q,C_ (G' ops i) q=true→q<i:=λq hq=>ABM OY tZ hq
 have hW:(st ops.size).W=(st i).W:=by
  obtain⟨A,h1,h2,h3⟩:=Yl FJ (p:=i) ops.size (by omega) (aag _)
  cases A with
  |nil=>exact h3
  |cons x A=>
   have:=h2 x (by simp);have h4:=AKu _ (hwa x (by rw[h1];simp));omega
 have ADf:(YP o0=true∧R_ P o0=true)∧i_ a0.nt o0=true∧(Iy=none∨∀c,o0.op≠.defer c):=by
  simp only[MP,aax,aab]at Al;have hm:o0∈ops.toList:=by simpa using acp ho0
  obtain⟨⟨k1,k2⟩,k3⟩:=Al o0 hm;refine⟨k1,k2,?_⟩;simp only[aaU,aaK]at k3
  rcases k3 with h1|h1
  ·left;cases Iy with
   |none=>rfl
   |some _=>cases h1
  ·right;intro c hc;unfold R' at h1;rw[hc]at h1;cases h1
 obtain⟨⟨LZ,tV⟩,bY,Ui⟩:=ADf;have jc:∀d,d∈o0.looksAt ops→AS ρ ((st i).a.at d) (a'.tmps.getD d undef):=λd hd=>h.look FJ h0 OY ho0 WD OG hd
 have NL:∀j want,o0.guard=some (j,want)→∀d,(ops[j]?).bind (·.dst)=some d→AS ρ ((st i).a.at d) (a'.tmps.getD d undef):=λj want hg d hdd=>
  jc d (by unfold Oper.looksAt;rw[hg];simp[hdd])
 have fP:∀x,x∈o0.op.operands→Av x=true→AS ρ ((st i).a.eval x) (a'.eval x):=by
  intro x hx hxo
  cases x with
  |tmp t=>
   rw[AN.SN];refine jc t ?_;unfold Oper.looksAt;refine acW _ (List.mem_filterMap.2 ⟨.tmp t,by simpa using hx,rfl⟩)
  |const v=>exact .SD ρ 8 v hxo
  |global g=>cases hxo
  |func f=>exact .func (.func f) rfl (λi hi=>by simp at hi) rfl (λi hi=>by simp at hi)
 have hS:∀{outs:List (B_×CW)},Bm P o0 (st i).a.eval (st ops.size).W=some outs→BU P w0 ρ (st ops.size).W ((execOp a'.eval o0).run P w) outs:=λhc=>SM hz LZ (λ_=>rfl) fP h.world hc;unfold FR at hp;simp only[List.find?_nil]at hp;split at hp
 rotate_left
 ·cases hp
 rename_i IM
 have out:∀{m:List (Ending×CW)} {W1:CW} {ρ1:CJ} {e2:Ending} {w2:World},m=[(.panicked ch,W2)]→FP (st ops.size).W ρ W1 ρ1→Wo P w0 ρ1 W1 m e2 w2→(∀v',e2=.returned v'→K (a'.put o0.dst v') w2)∧∀c',e2=.panicked c'→Q (.panic c') a' w2:=by
  intro m W1 ρ1 e2 w2 hm hg hE;subst hm;obtain⟨e,W3,ρ2,JJ,OF,hN,Hl⟩:=hE
  cases dy.1 JJ
  cases hN with
  |panicked Jt=>
   refine⟨λv' he=>(by cases he),λc' he=>?_⟩
   cases he
   refine hQ _ _ _ ⟨_,_,_,ρ2,dy.2 rfl,(h.grow.trans hg).trans OF,.panic Jt,⟨λhb=>(by rw[AN.ADc]at hb;cases hb),h.jZ,?_⟩,Hl,rfl⟩;exact forall₂_mono (λ_ _ x=>x.mono (hg.trans OF).1) h.defers
 unfold wpOpIn;rw[ho0];simp only;rw[H3 IM NL,aae rfl];rw[cond_eq_ite]at hp
 split at hp
 ·cases hp
 rw[cond_eq_ite]at hp
 split at hp
 ·cases hp
 split at hp
 ·rename_i f args W1 hc;split at hp
  rotate_left
  ·cases hp
  rename_i ch1 W3 hm
  cases hp
  rw[←hW]at hc
  refine Hz hR (OW hc LZ fP (λ{f' args' iZ} hm'=>by simp only[dy,aau,B_.enter.injEq]at hm';obtain⟨⟨rfl,_⟩,_⟩:=hm';exact hR.ex hm)) (hS hc) Ui ?_ ?_ ?_ ?_ ?_ ?_ ?_
  ·intros;simp_all
  ·intros;simp_all
  ·intros;simp_all
  ·intro f2 xv W3 RG;simp only[dy,aau,B_.enter.injEq]at RG;obtain⟨⟨rfl,rfl⟩,rfl⟩:=RG;exact⟨_,hm,λ{ρ1} hg e2 w2 hE=>out rfl hg hE⟩
  all_goals (intros;simp_all)
 ·rename_i l args W1 hc;split at hp
  rotate_left
  ·cases hp
  rename_i ch1 W3 hm
  cases hp
  rw[←hW]at hc
  refine Hz hR (OW hc LZ fP (λ{f args W1} hm=>by simp at hm)) (hS hc) Ui ?_ ?_ ?_ ?_ ?_ ?_ ?_
  ·intros;simp_all
  ·intros;simp_all
  ·intros;simp_all
  ·intros;simp_all
  ·intro l2 xv W3 RG;simp only[dy,aau,B_.round.injEq]at RG;obtain⟨⟨rfl,rfl⟩,rfl⟩:=RG;exact⟨_,hm,λ{ρ1} hg e2 w2 hE=>out rfl hg hE⟩
  all_goals (intros;simp_all)
 ·cases hp
theorem fV(hz:ZP P)(hR:RS P w0 wi R)(QA:P.follows .mixedOrders=true){id:Nat}{a:AN}{W:CW}{outs:List (Exit×AN×CW)}{ρ:CJ}{a':Act}{w:World}(h:Jv P R ops a W=some outs)
  (OY:Ju P ops=true) (Al:MP P a.nt Iy.isSome ops.toList=true) (ha:AR ρ a a') (hw:Aa P w0 ρ W w) (hQ:∀e a2 w2,MA P w0 ρ W a.nt outs e a2 w2→Q e a2 w2) :
  (Code.region id ops true).wpIn (C7 P Iy) n P Q a' w:=by
 refine wpIn_region_any QA ?_;unfold Jv at h
 split at h
 ·cases h
 rename_i fl W1 A5
 split at h
 ·split at h
  ·cases h
  rename_i i0 ch W2 Li
  split at h
  ·cases h
  rename_i s J4;rw[cond_eq_ite]at h;split at h
  rotate_left
  ·cases h
  rename_i OE;rw[cond_eq_ite]at h;split at h
  rotate_left
  ·cases h
  rename_i nu
  cases h
  simp only[aab]at OE;obtain⟨AKv,AKw⟩:=OE;have GY:fl=[]:=by simpa using AKv
  subst GY;obtain⟨Fi,KB,Yn,jb,Ny⟩:=QV A5 (λi hi=>WC hi) (hw.drew (w.drawn+1));obtain⟨st,val,s0,sn,FJ,hrt⟩:=Yj (fl:=[]) (nv:=N9 ops i0) nk J4;subst sn;have e0:(st 0).a=a:=by rw[s0]
  have e1:(st 0).W=W1:=by rw[s0]
  obtain⟨p,_,p2,p3,p4,p5⟩:=XC FJ ops.size 0 (by omega);rw[e1]at p5
  obtain⟨_,o0,s1,ho0,bU,Iu⟩:=QU (F:=Ix P R ops [] i0) (s0:=⟨a,W1,[],[]⟩) (λi o s hi=>by
   unfold Ix;have:N9 ops i0 i=false:=qq hi
   rw[this];rfl) ops.toList 0 _ rfl rfl Li
  have Fj:i0<ops.size:=(aao.1 ho0).1
  have AKx:s1=st i0:=by
   have:=hrt i0 (by omega);rw[bU]at this;exact abL this
  subst AKx
  refine jd (a0:=a) (W0:=W) (ρ0:=ρ) hz hR FJ e0 (by rw[s0]) OY Al Ny (λx hx=>by cases hx) .nil (λx hx=>by cases hx) (λi o a2 v hm=>(aax.1 nu) _ hm) (λhn=>?_) (λ{AV a' w ρ p i K} h LU hi wo=>xy hz hR FJ e0 (by rw[s0]) OY Al (λx hx=>(aax.1 AKw) x hx) ho0 Iu hQ h LU hi wo) ops.size _ a' _ ρ p ?_ (λj _=>JK _ _) ?_
  ·have:=hn i0 Fj;unfold N9 at this;simp at this
  ·refine⟨by simp,?_,?_,ha.size,ha.defers,p2,?_,p3,by rw[p5];exact Fi,⟨.refl _,λ_ _=>rfl,by rw[p5];exact KB⟩,λx hx=>by cases hx⟩
   ·intro i hi;rw[JK]at hi;cases hi
   ·intro d
    have:TT (Gk ops) val a.at (λi=>(Array.replicate ops.size false).getD i false) ops.size d=a.at d:=by
     rw[Yi (i:=0) (aa1 _) λj _ hj _=>JK _ _];rfl
    rw[this];exact ha.tmps d
   ·intro j hj ja
    constructor
    ·intro hh;rw[JK]at hh;cases hh
    ·intro hh;exact(p4 j (aa1 _) hh ja).elim
  ·refine aa5 (ab5 _ _) ?_;simp
 rename_i s J4;rw[cP]at J4;rw[cond_eq_ite]at h;split at h
 rotate_left
 ·cases h
 rename_i nu;rw[cond_eq_ite]at h;split at h
 rotate_left
 ·cases h
 rename_i ABN
 cases h
 obtain⟨Fi,KB,Yn,jb,Ny⟩:=QV A5 (λi hi=>WC hi) (hw.drew (w.drawn+1));obtain⟨st,val,s0,sn,FJ,_⟩:=Yj (nv:=λ_=>false) (λi o s s' h=>QR h) J4;subst sn;have e0:(st 0).a=a:=by rw[s0]
 have e1:(st 0).W=W1:=by rw[s0]
 obtain⟨p,_,p2,p3,p4,p5⟩:=XC FJ ops.size 0 (by omega);rw[e1]at p5
 refine jd (a0:=a) (W0:=W) (ρ0:=ρ) hz hR FJ e0 (by rw[s0]) OY Al Ny (λx hx=>⟨(Yn x hx).1,(Yn x hx).2.2⟩) jb ?_ ?_ (λ_=>hQ) (λ{AV a' w ρ p i K} h LU hi wo=>by cases wo) ops.size _ a' _ ρ p ?_ (λj hj=>by cases hj) ?_
 ·intro x hx;have hk:=(aax.1 ABN) x hx;obtain⟨_,_,o,_,_,BV⟩:=Yn x hx;obtain⟨i,v,ob⟩:=x;simp only at hk BV ⊢
  rcases BV with⟨t,z,s,b,_,_,_,hv,_⟩|⟨t,b,_,hv,_⟩|⟨t,l,c,b,n,m,_,hv⟩
  ·rw[hv]at hk ⊢;exact hk
  ·rw[hv]at hk ⊢;exact hk
  ·rw[hv]at hk ⊢;exact hk
 ·intro i o a2 v hm;exact(aax.1 nu) _ hm
 ·refine⟨by simp,?_,?_,ha.size,ha.defers,p2,?_,p3,by rw[p5];exact Fi,⟨.refl _,λ_ _=>rfl,by rw[p5];exact KB⟩,?_⟩
  ·intro i hi;rw[JK]at hi;cases hi
  ·intro d
   have:TT (Gk ops) val a.at (λi=>(Array.replicate ops.size false).getD i false) ops.size d=a.at d:=by
    rw[Yi (i:=0) (aa1 _) λj _ hj _=>JK _ _];rfl
   rw[this];exact ha.tmps d
  ·intro j hj ja
   constructor
   ·intro hh;rw[JK]at hh;cases hh
   ·intro hh;exact(p4 j (aa1 _) hh ja).elim
  ·intro x hx _;obtain⟨k1,k2,_⟩:=Yn x hx;refine⟨?_,by rw[p5];exact k2⟩
   cases hr:ρ (nameOf x.2.1)with
   |none=>rfl
   |some y=>have:=hw.Wi _ _ hr;omega
 ·refine aa5 (ab5 _ _) ?_;simp
end
inductive QB(ρ:CJ):FrameMode→FrameMode→Prop
 |returning:QB ρ .returning .returning
 |panicking {c c':List PanicEntry}:SO ρ c c'→QB ρ (.panicking c) (.panicking c')
theorem QB.mono{ρ ρ':CJ}{u u':FrameMode}(h:QB ρ u u')(e:Ext ρ ρ'):QB ρ' u u':=by
 cases h with
 |returning=>exact .returning
 |panicking h=>exact .panicking (h.mono e)
def ADg(P:Program)(w0:World)(ρ:CJ)(W:CW)(outs:List (Ending×FrameMode×CW)):Ending→FrameMode→World→Prop :=
 λe' u' w'=>∃e u W2 ρ2,(e,u,W2)∈outs∧FP W ρ W2 ρ2∧ABK ρ2 e e'∧QB ρ2 u u'∧Aa P w0 ρ2 W2 w'
structure Yr(P:Program)(w0:World)(k:Nat)(R:Dl):Prop extends RS P w0 (codeOk P) R where
 loop:∀{ro Iy:Option Nat} {fn:FuncId} {b:Code} {a:AN} {W:CW} {outs:List (Exit×AN×CW)} {ρ:CJ} {w:World} {a':Act},R.code ro fn (.loop b) a W=some outs→Lj ρ ro Iy→AR ρ a a'→Aa P w0 ρ W w→
  codeOk P a.nt ro.isSome b=true→∀n (Q:Exit→Act→World→Prop),(∀e a2 w2,MA P w0 ρ W a.nt outs e a2 w2→Q e a2 w2)→Code.roundsIn (C7 P Iy) n P b Q k a' w
 exd:∀{f:FuncId} {args:List Value} {u:FrameMode} {W:CW} {outs:List (Ending×FrameMode×CW)},R.IJ f args u W=some outs→Ex P f
 IJ:∀{f:FuncId} {args:List Value} {u u':FrameMode} {W:CW} {outs:List (Ending×FrameMode×CW)} {ρ:CJ} {w:World} {args':Array Value},R.IJ f args u W=some outs→A4 ρ args args'.toList→QB ρ u u'→Aa P w0 ρ W w→
  (callFunc f args').run P w=.ok (.enter f args') w∧∀n,CallsDIn (F0 P) n P f args' u' w (ADg P w0 ρ W outs)
section
variable {P:Program}{w0:World}{k:Nat}{R:Dl}
theorem Lj.isSome{ρ:CJ}{ro Iy:Option Nat}(h:Lj ρ ro Iy):Iy.isSome=ro.isSome:=by cases h<;>rfl
theorem Lj.mono{ρ ρ':CJ}{ro Iy:Option Nat}(h:Lj ρ ro Iy)(e:Ext ρ ρ'):Lj ρ' ro Iy:=by
 cases h with
 |none=>exact .none
 |some h=>exact .some (h.mono e)
theorem Uk(hS:Yr P w0 k R){ro Iy:Option Nat}{fn:FuncId}{x:Code}{a:AN}{W:CW}{outs:List (Exit×AN×CW)}{ρ:CJ}{w:World}{a':Act}{f:AN→CW→RB}{n:Nat}{K:Act→World→Prop}{Q:Exit→Act→World→Prop}
  (h:SB (R.code ro fn x a W) f=some outs) (hr:Lj ρ ro Iy) (ha:AR ρ a a') (hw:Aa P w0 ρ W w) (Al:codeOk P a.nt ro.isSome x=true) (hQ:∀e a2 w2,MA P w0 ρ W a.nt outs e a2 w2→Q e a2 w2)
  (hK:∀{a1 W1 m ρ1 a1' w1},f a1 W1=some m→Lj ρ1 ro Iy→AR ρ1 a1 a1'→Aa P w0 ρ1 W1 w1→a1.nt=a.nt→(∀e a2 w2,MA P w0 ρ1 W1 a1.nt m e a2 w2→Q e a2 w2)→K a1' w1) :
  x.wpIn (C7 P Iy) n P (Exit.then K Q) a' w:=by
 obtain⟨l,hl,C3⟩:=C5 h;refine wpIn_mono (hS.code hl hr ha hw Al n) λe' a2 w2 hc=>?_;obtain⟨e,a1,W1,ρ1,hm,hg,hx,DS,Fi,Nv⟩:=hc;obtain⟨m,CU,Dg⟩:=C3 _ hm;have other:(∀a2,e'≠.normal→m=[(e,a1,W1)]→Q e' a2 w2)∨True:=.inr trivial
 cases hx with
 |normal=>
  exact hK CU (hr.mono hg.1) DS Fi Nv λe a2 w2 hc=>hQ e a2 w2 (MA.mono (by rw[←Nv];exact hc) hg Dg)
 |exit id=>
  cases CU
  exact hQ _ _ _ ⟨_,a1,W1,ρ1,Dg _ (dy.2 rfl),hg,.exit id,DS,Fi,Nv⟩
 |ret=>
  cases CU
  exact hQ _ _ _ ⟨_,a1,W1,ρ1,Dg _ (dy.2 rfl),hg,.ret,DS,Fi,Nv⟩
 |panic Jt=>
  cases CU
  exact hQ _ _ _ ⟨_,a1,W1,ρ1,Dg _ (dy.2 rfl),hg,.panic Jt,DS,Fi,Nv⟩
theorem Ys(hS:Yr P w0 k R){ro Iy:Option Nat}{fn:FuncId}{b:Code}{a:AN}{W:CW}{outs:List (Exit×AN×CW)}{ρ:CJ}{w:World}{a':Act}{n:Nat}{Q:Exit→Act→World→Prop}
  (h:SB (R.code ro fn b a W) (R.code ro fn (.loop b))=some outs) (hr:Lj ρ ro Iy) (ha:AR ρ a a') (hw:Aa P w0 ρ W w) (Al:codeOk P a.nt ro.isSome b=true) (hQ:∀e a2 w2,MA P w0 ρ W a.nt outs e a2 w2→Q e a2 w2) :
  Code.roundsIn (C7 P Iy) n P b Q (k+1) a' w :=
 Uk hS h hr ha hw Al hQ λ{a1 W1 m ρ1 a1' w1} h1 MU DS Fi Nv hQ1=>hS.loop h1 MU DS Fi (by rw[Nv];exact Al) n Q hQ1
theorem je{l:Nat}{r:Loop}{w:World}(h:w.heap[l]?=some (.loop r))(hb:r.state≠.busy):(Instr.endLoop l).run P w=.ok r.pending {w with heap:=w.heap.setIfInBounds l (.loop {r with state:=.exhausted})}:=by
 have hb:(r.state== .busy)=false:=by cases hs:r.state<;>simp_all
 simp only[Instr.endLoop,Instr.getLoop,aaf,A6 h (by simp),aaa,aai,hb,aaD,abf,Dz h (by simp)]
theorem Wp(hS:Yr P w0 k R){ro Iy:Option Nat}{fn:FuncId}{f:Operand}{ps:Array Tmp}{as bd:Code}{a:AN}{W:CW}{outs:List (Exit×AN×CW)}{ρ:CJ}{w:World}{a':Act}{n:Nat}{Q:Exit→Act→World→Prop}
  (h:CS P R ro fn (.rangeFunc f ps as bd) a W=some outs) (hr:Lj ρ ro Iy) (ha:AR ρ a a') (hw:Aa P w0 ρ W w) (Al:codeOk P a.nt ro.isSome (.rangeFunc f ps as bd)=true) (hQ:∀e a2 w2,MA P w0 ρ W a.nt outs e a2 w2→Q e a2 w2) :
  (Code.rangeFunc f ps as bd).wpIn (C7 P Iy) n P Q a' w:=by
 simp only[codeOk,aab]at Al;obtain⟨⟨⟨LZ,bY⟩,Ui⟩,AKy⟩:=Al;refine wpIn_rangeFunc λXD ADh=>?_;have ADh:=nh ADh;rw[QO];simp only[CS]at h
 have A5:∀{dl:Nat} {mark:List Deferred} {W1:CW},YR ro W=some (dl,mark,W1)→
   ∃dl' WH w1 ρ1,FP W ρ W1 ρ1∧Aa P w0 ρ1 W1 w1∧OL ρ1 dl dl'∧LY (MQ ρ1) mark WH∧
    (∀o:Loop,(Instr.enterLoop XD a'.tmps ps as bd Iy).run P w=.ok (w1.heap.size,WH) {w1 with heap:=w1.heap.push (.loop {state:=.ready,pending:=none,fn:=XD,tmps:=a'.tmps,params:=ps,assign:=as,body:=bd,defers:=dl'})}):=by
  intro dl mark W1 hm;unfold YR at hm
  cases hr with
  |none=>
   simp only[aam,aau]at hm;obtain⟨rfl,rfl,rfl⟩:=hm;obtain⟨hg,Fi⟩:=hw.new (o:=.deferred) (o':=.deferred (some [])) ⟨w.heap.size,0,0,0,0⟩ rfl .deferred;refine⟨w.heap.size,[{target:=.collected w.heap.size,args:=#[]}],_,_,hg,Fi,⟨⟨w.heap.size,0,0,0,0⟩,by simp,rfl⟩,.cons (.collected ⟨⟨w.heap.size,0,0,0,0⟩,by simp,rfl⟩) .nil,λ_=>?_⟩;simp only[Instr.enterLoop,aaf,run_newObj,aaa,aai]
  | @some l l' hb=>
   simp only at hm
   split at hm
   ·rename_i st pd f0 t nt rF as0 bd0 d CH;simp only[aam,aau]at hm;obtain⟨rfl,rfl,rfl⟩:=hm;obtain⟨x,hx,rfl⟩:=hb;obtain⟨o',Jx,DZ⟩:=hw.obj CH (by simp) hx rfl
    cases DZ with
    | @loop _ _ _ f0' _ t' _ _ _ _ d' h1 h2 h3 h4=>
     refine⟨d',[],w,ρ,.refl _,hw,h2,.nil,λ_=>?_⟩;simp only[Instr.enterLoop,Instr.getLoop,aaf,A6 Jx (by simp),run_newObj,aaa,aai]
   ·cases hm
 split at h
 ·cases h
 rename_i dl mark W1 hm;obtain⟨dl',WH,w1,ρ1,hg1,Fi,hb1,hmk,fW⟩:=A5 hm;have fW:=fW {state:=.ready,pending:=none,fn:=XD,tmps:=a'.tmps,params:=ps,assign:=as,body:=bd,defers:=dl'};split at h
 rotate_left
 ·cases h
 rename_i g args Fo;obtain⟨ANI,xz,C3⟩:=C5 h;have DS:=ha.mono hg1.1
 have AKz:ρ1 W1.sz=none:=by
  cases hq:ρ1 W1.sz with
  |none=>rfl
  |some y=>have:=Fi.Wi _ _ hq;omega
 obtain⟨OF,Hl⟩:=Fi.new (o:=.loop .ready none fn a.t a.nt ps as bd dl) (o':=.loop {state:=.ready,pending:=none,fn:=XD,tmps:=a'.tmps,params:=ps,assign:=as,body:=bd,defers:=dl'}) ⟨w1.heap.size,0,0,0,0⟩ rfl (by
  have Dy:Ext ρ1 (λi=>if i=W1.sz then some (⟨w1.heap.size,0,0,0,0⟩:Info)else ρ1 i):=λi y hy=>by
   show(if i=W1.sz then _ else ρ1 i)=some y
   by_cases e:i=W1.sz
   ·subst e;rw[AKz]at hy;cases hy
   ·rw[aad e];exact hy
  have:=Jw.loop (P:=P) (ρ:=λi=>if i=W1.sz then some (⟨w1.heap.size,0,0,0,0⟩:Info)else ρ1 i) (x:=⟨w1.heap.size,0,0,0,0⟩) (st:=.ready) (pd:=none) (f:=fn) (f':=XD) (t:=a.t) (t':=a'.tmps) (ps:=ps) (as:=as) (bd:=bd) (d:=dl) (d':=dl') (λi=>(DS.tmps i).mono Dy) (hb1.mono Dy) (by rw[ha.size];exact⟨bY,Ui,AKy⟩) ADh;rw[ha.size]at this
  exact this)
 have MV:(λi=>if i=W1.sz then some (⟨w1.heap.size,0,0,0,0⟩:Info)else ρ1 i) W1.sz=some ⟨w1.heap.size,0,0,0,0⟩:=by simp
 generalize (λi=>if i=W1.sz then some (⟨w1.heap.size,0,0,0,0⟩:Info)else ρ1 i)=ρ2 at OF Hl MV;generalize ({w1 with heap:=w1.heap.push (.loop {state:=.ready,pending:=none,fn:=XD,tmps:=a'.tmps,params:=ps,assign:=as,body:=bd,defers:=dl'})}:World)=w2 at Hl fW;have ADi:=hg1.trans OF;unfold KA at Fo
 split at Fo
 ·rename_i fid first cap hfe;simp only[aam,B_.enter.injEq]at Fo;obtain⟨rfl,rfl⟩:=Fo;have wZ:=(ha.mono ADi.1).eval f LZ;rw[hfe]at wZ;generalize Fh:a'.eval f=vf at wZ
  cases wZ with
  | @func _ f' _ x' _ y' fI h1 h2 h3 h4=>
   cases fI
   have hy:AS ρ2 (.func (.yield W1.sz) #[] #[]) (.func (.yield w1.heap.size) #[] #[]):=.func (.yield ⟨_,MV,rfl⟩) rfl (λi hi=>by simp at hi) rfl (λi hi=>by simp at hi)
   have Dr:A4 ρ2 (first.toList++[Value.func (.yield W1.sz) #[] #[]]++cap.toList) (x'++#[Value.func (.yield w1.heap.size) #[] #[]]++y').toList:=by
    have e1:=A4.arr.2 ⟨h1,h2⟩;have e2:=A4.arr.2 ⟨h3,h4⟩
    simpa using(e1.append (.cons hy (.nil _))).append e2
   obtain⟨Hx,ADj⟩:=hS.call xz Dr Hl
   refine⟨w1.heap.size,WH,w2,{target:=.fn (.func fid) y',args:=x'++#[Value.func (.yield w1.heap.size) #[] #[]]},w2,fid,x'++#[Value.func (.yield w1.heap.size) #[] #[]]++y',w2,fW,?_,λf' mi=>JI _ (by simp only[Target.leads,aam]at mi;subst mi;exact hS.ex xz),?_,by rw[QP];simp,?_⟩
   ·have em:#[Operand.const (Value.func (.yield w1.heap.size) #[] #[])].map a'.eval=#[Value.func (.yield w1.heap.size) #[] #[]]:=by simp[Act.eval]
    simp only[resolve,Fh,Deferred.ofValue,aai,em]
   ·simp only[invoke];exact Hx
   ·refine QQ ((ADj (n-1)).mono λe2 w3 hE=>?_);obtain⟨e,W3,ρ3,JJ,hg3,hN,hw3⟩:=hE;obtain⟨m,CU,Dg⟩:=C3 _ JJ
    cases hN with
    | panicked Jt=>
     cases CU
     have Oa:=ADi.trans hg3;have h3:=ha.mono Oa.1;refine hQ _ _ _ ⟨_,_,_,ρ3,Dg _ (dy.2 rfl),Oa,.panic Jt,⟨λ_=>h3.tmps,h3.size,?_⟩,hw3,rfl⟩;have ADk:LY (MQ ρ3) mark WH:=forall₂_mono (λ_ _ x=>x.mono (OF.trans hg3).1) hmk
     have key:∀{l l':List Deferred},LY (MQ ρ3) l l'→LY (MQ ρ3) (l++a.defers) (l'++a'.defers):=by
      intro l l' hl
      induction hl with
      |nil=>exact h3.defers
      |cons hx _ ih=>exact .cons hx ih
     exact key ADk
    | returned _=>
     simp only at CU;split at CU
     rotate_left
     ·cases CU
     rename_i st pd lf lt ln lp la lb ld CH;have hx3:ρ3 W1.sz=some ⟨w1.heap.size,0,0,0,0⟩:=hg3.1 _ _ MV;obtain⟨o',Jx,DZ⟩:=hw3.obj CH (by simp) hx3 rfl;have Oa:=ADi.trans hg3
     cases DZ with
     | @loop _ _ _ f0' _ t' _ _ _ _ d' k1 k2 k3 k4=>
      have hA:AR ρ3 {a with defers:=mark++a.defers} {a' with defers:=WH++a'.defers}:=by
       have h3:=ha.mono Oa.1;refine⟨h3.tmps,h3.size,?_⟩;have ADk:LY (MQ ρ3) mark WH:=forall₂_mono (λ_ _ x=>x.mono (OF.trans hg3).1) hmk
       have key:∀{l l':List Deferred},LY (MQ ρ3) l l'→LY (MQ ρ3) (l++a.defers) (l'++a'.defers):=by
        intro l l' hl
        induction hl with
        |nil=>exact h3.defers
        |cons hx _ ih=>exact .cons hx ih
       exact key ADk
      have hnb:st≠.busy:=by
       intro e;subst e;cases CU
      have hw4:=hw3.Ba CH rfl hx3 (Jw.loop (P:=P) (st:=.exhausted) (pd:=pd) (f:=lf) (f':=f0') k1 k2 k3 k4);refine⟨pd,_,je Jx hnb,?_⟩;have hg4:FP W3 ρ3 (W3.Ba W1.sz (.loop .exhausted pd lf lt t'.size lp la lb ld)) ρ3:=.refl _
      have finish:∀{e:Exit},jR ρ3 e e→(e,{a with defers:=mark++a.defers},W3.Ba W1.sz (.loop .exhausted pd lf lt t'.size lp la lb ld))∈m→Q e {a' with defers:=WH++a'.defers} {w3 with heap:=w3.heap.setIfInBounds w1.heap.size (.loop {state:=.exhausted,pending:=pd,fn:=f0',tmps:=t',params:=lp,assign:=la,body:=lb,defers:=d'})}:=by
       intro e hx RG;exact hQ _ _ _ ⟨e,_,_,ρ3,Dg _ RG,Oa.trans hg4,hx,hA.x e,hw4,rfl⟩
      cases st with
      |busy=>cases CU
      | ready=>
       cases pd with
       |none=>cases CU;exact finish .normal (dy.2 rfl)
       |some c=>
        cases c<;>first|(cases CU;done)|skip
        ·cases CU;exact wpIn_exit (finish (.exit _) (dy.2 rfl))
        ·cases CU;exact wpIn_ret (finish .ret (dy.2 rfl))
      | done=>
       cases pd with
       |none=>cases CU;exact finish .normal (dy.2 rfl)
       |some c=>
        cases c<;>first|(cases CU;done)|skip
        ·cases CU;exact wpIn_exit (finish (.exit _) (dy.2 rfl))
        ·cases CU;exact wpIn_ret (finish .ret (dy.2 rfl))
      | exhausted=>
       cases pd with
       |none=>cases CU;exact finish .normal (dy.2 rfl)
       |some c=>
        cases c<;>first|(cases CU;done)|skip
        ·cases CU;exact wpIn_exit (finish (.exit _) (dy.2 rfl))
        ·cases CU;exact wpIn_ret (finish .ret (dy.2 rfl))
 ·cases Fo
 ·cases Fo
end
section
variable {P:Program}{w0:World}{k:Nat}{R:Dl}
def noGoto(Q:Exit→Act→World→Prop):Exit→Act→World→Prop
 | .goto _,_,_=>False
 |e,a,w=>Q e a w
theorem H4{b:Frame}{a:Act}{k:List Item}{cs:List Frame}{w:World}{c:Code}:step P (lone (b.atR a (.code (.scope c)::k)) cs w)=.next (lone (b.atR a (.code c::.inScope c::k)) cs w) :=
 step_lone_go (by simp[stepG,stepG.exec,Frame.atR])
theorem bZ{b:Frame}{a:Act}{k:List Item}{cs:List Frame}{w:World}{c:Code}:step P (lone (b.atR a (.inScope c::k)) cs w)=.next (lone (b.atR a k) cs w) :=
 step_lone_go (by simp[stepG,stepG.exec,Frame.atR])
theorem nz{F:Fence}{n:Nat}{c:Code}{Q:Exit→Act→World→Prop}{a:Act}{w:World}(h:c.wpIn F n P (noGoto Q) a w):(Code.scope c).wpIn F n P Q a w:=by
 intro b k cs hro hb hr;have h0:(lone (b.atR a (.code (.scope c)::k)) cs w).fenced P F:=fenced_calm hb hr rfl;obtain⟨e,a₁,w₁,hq,Ul⟩:=h b (.inScope c::k) cs hro hb hr
 cases e with
 |normal=>exact⟨.normal,a₁,w₁,hq,.head h0 H4 (abV Ul (.one (fenced_calm hb hr rfl) bZ))⟩
 | exit id=>exact⟨.exit id,a₁,w₁,hq,λk' hk=>.head h0 H4 (Ul.1 k' (by simp[exitTo,hk])),
   λJY hk=>let ⟨k₁,h1,h2⟩:=Ul.2 JY (by simp[exitTo,hk]);⟨k₁,h1,.head h0 H4 h2⟩⟩
 |goto l=>exact hq.elim
 |ret=>exact⟨_,a₁,w₁,hq,.of_steps (.one h0 H4) Ul⟩
 |panic ch=>exact⟨_,a₁,w₁,hq,.of_steps (.one h0 H4) Ul⟩
 |outgrown=>exact⟨_,a₁,w₁,hq,.of_steps (.one h0 H4) Ul⟩
theorem td(hz:ZP P)(QA:P.follows .mixedOrders=true)(hS:Yr P w0 k R){ro Iy:Option Nat}{fn:FuncId}{c:Code}{a:AN}{W:CW}{outs:List (Exit×AN×CW)}{ρ:CJ}{w:World}{a':Act}{n:Nat}{Q:Exit→Act→World→Prop}
  (h:CS P R ro fn c a W=some outs) (hr:Lj ρ ro Iy) (ha:AR ρ a a') (hw:Aa P w0 ρ W w) (Al:codeOk P a.nt ro.isSome c=true) (hQ:∀e a2 w2,MA P w0 ρ W a.nt outs e a2 w2→Q e a2 w2) :
  c.wpIn (C7 P Iy) n P Q a' w:=by
 have one:∀{e:Exit},jR ρ e e→outs=[(e,a,W)]→Q e a' w:=λ{e} hx ho=>hQ _ _ _ ⟨e,a,W,ρ,by rw[ho];simp,.refl _,hx,ha.x e,hw,rfl⟩
 cases c with
 |skip=>cases h;exact wpIn_skip (one .normal rfl)
 |label l=>cases h;exact wpIn_label (one .normal rfl)
 |exit id=>cases h;exact wpIn_exit (one (.exit id) rfl)
 |ret=>cases h;exact wpIn_ret (one .ret rfl)
 | region id ops d=>
  simp only[codeOk,aab,aaU,aaK]at Al;rw[←hr.isSome]at Al
  cases d with
  |false=>
   simp only[CS]at h;refine wpIn_region ?_;have:=jU hz hS.toRS ops.toList 0 a W outs ρ a' w Q rfl h Al.1 ha hw hQ (n:=n);rw[List.range_eq_range']
   simpa using this
  |true=>
   simp only[CS]at h;exact fV hz hS.toRS QA h (Al.2.resolve_left (by simp)) Al.1 ha hw hQ
 |seq x y=>
  simp only[codeOk,aab]at Al;simp only[CS]at h;exact wpIn_seq (Uk hS h hr ha hw Al.1 hQ λ{a1 W1 m ρ1 a1' w1} h1 MU DS Fi Nv hQ1=>wpIn_mono (hS.code h1 MU DS Fi (by rw[Nv];exact Al.2) n) hQ1)
 | cond c x y=>
  simp only[codeOk,aab]at Al;simp only[CS]at h
  split at h
  ·rename_i b hb;have hv:=ha.eval c Al.1;rw[hb]at hv;generalize Fh:a'.eval c=v at hv
   cases hv
   refine wpIn_cond Fh ?_
   cases b with
   |true=>exact wpIn_mono (hS.code h hr ha hw Al.2.1 n) hQ
   |false=>exact wpIn_mono (hS.code h hr ha hw Al.2.2 n) hQ
  ·cases h
 | block id b=>
  simp only[codeOk]at Al;simp only[CS]at h;obtain⟨l,hl,C3⟩:=C5 h;refine wpIn_block (wpIn_mono (hS.code hl hr ha hw Al n) λe' a2 w2 hc=>?_);obtain⟨e,a1,W1,ρ1,hm,hg,hx,DS,Fi,Nv⟩:=hc;obtain⟨m,CU,Dg⟩:=C3 _ hm
  cases hx with
  |normal=>cases CU;exact hQ _ _ _ ⟨_,a1,W1,ρ1,Dg _ (dy.2 rfl),hg,.normal,DS,Fi,Nv⟩
  | exit Vx=>
   simp only[cond_eq_ite]at CU;unfold Exit.inBlock
   split at CU
   ·rename_i hid;have hid:=aac hid
    cases CU
    simp only[aae hid];exact hQ _ _ _ ⟨_,a1,W1,ρ1,Dg _ (dy.2 rfl),hg,.normal,DS,Fi,Nv⟩
   ·rename_i hid;have hid:¬Vx=id:=by simpa using hid
    cases CU
    simp only[aad hid];exact hQ _ _ _ ⟨_,a1,W1,ρ1,Dg _ (dy.2 rfl),hg,.exit Vx,DS,Fi,Nv⟩
  |ret=>cases CU;exact hQ _ _ _ ⟨_,a1,W1,ρ1,Dg _ (dy.2 rfl),hg,.ret,DS,Fi,Nv⟩
  |panic Jt=>cases CU;exact hQ _ _ _ ⟨_,a1,W1,ρ1,Dg _ (dy.2 rfl),hg,.panic Jt,DS,Fi,Nv⟩
 |loop b=>
  simp only[codeOk]at Al;simp only[CS]at h;exact wpIn_loop_rounds (k+1) (Ys hS h hr ha hw Al hQ)
 |rangeFunc f ps as bd=>exact Wp hS h hr ha hw Al hQ
 |scope b=>
  simp only[codeOk]at Al;simp only[CS]at h;refine nz (wpIn_mono (hS.code h hr ha hw Al n) λe' a2 w2 hc=>?_);have:=hQ _ _ _ hc;obtain⟨e,a1,W1,ρ1,hm,hg,hx,DS,Fi,Nv⟩:=hc
  cases hx<;>exact this
 |goto l=>simp[codeOk]at Al
 |refuse=>simp[codeOk]at Al
theorem fX{l:Nat}{r:Loop}{w:World}(h:w.heap[l]?=some (.loop r))(j:Option Code):(Instr.endRound l j).run P w=.ok (.bool j.isNone) {w with heap:=w.heap.setIfInBounds l (.loop {r with state:=if j.isNone then .ready else .done,pending:=j})}:=by
 simp only[Instr.endRound,Instr.getLoop,aaf,A6 h (by simp),aaa,aai,Dz h (by simp)]
theorem Yt{l:Nat}{r:Loop}{w:World}(h:w.heap[l]?=some (.loop r))(hs:r.state=.ready):(Instr.beginRound l).run P w=.ok () {w with heap:=w.heap.setIfInBounds l (.loop {r with state:=.busy})}:=by
 simp only[Instr.beginRound,Instr.getLoop,aaf,A6 h (by simp),aaa,aai,Dz h (by simp),hs]
theorem RH{l l':Nat}{j:Option Code}{W W1:CW}{v:Value}{m:List (Ending×CW)}{ρ ρ0:CJ}{w:World}(h:YS l j W=some m)(hb:OL ρ l l')(hw:Aa P w0 ρ W w)(hg:FP W1 ρ0 W ρ){outs:List (Ending×CW)}(Dg:∀x,x∈m→x∈outs) :
  ∃v w',(Instr.endRound l' j).run P w=.ok v w'∧Wo P w0 ρ0 W1 outs (.returned v) w':=by
 unfold YS at h
 split at h
 ·rename_i st pd f t nt ps as bd ld CH
  cases h
  obtain⟨x,hx,rfl⟩:=hb;obtain⟨o',Jx,DZ⟩:=hw.obj CH (by simp) hx rfl
  cases DZ with
  | @loop _ _ _ f0' _ t' _ _ _ _ d' k1 k2 k3 k4=>
   refine⟨_,_,fX Jx j,.returned (.bool j.isNone),_,ρ,Dg _ (dy.2 rfl),hg.trans (.refl _),.returned (.bool _),?_⟩;have:=hw.Ba CH rfl hx (Jw.loop (P:=P) (st:=if j.isNone then .ready else .done) (pd:=j) (f:=f) (f':=f0') k1 k2 k3 k4)
   cases j<;>exact this
 ·cases h
theorem cQ{ρ:CJ}{nt:Nat}:∀(ps:List Tmp) (args args':List Value) (t:Tr Value) (t':Array Value),A4 ρ args args'→(∀i,AS ρ ((t.get i).getD undef) (t'.getD i undef))→t'.size=nt→(ps.all λp=>Nat.blt p nt)=true→
  (∀i,AS ρ ((((ps.zip args).foldl (λt (p:Tmp×Value)=>t.set p.1 p.2) t).get i).getD undef) (((ps.zip args').foldl (λt (p:Tmp×Value)=>t.setIfInBounds p.1 p.2) t').getD i undef))∧((ps.zip args').foldl (λt (p:Tmp×Value)=>t.setIfInBounds p.1 p.2) t').size=nt
 |[],_,_,t,t',_,h,hs,_=>⟨h,hs⟩
 |p::ps,[],[],t,t',_,h,hs,_=>⟨h,hs⟩
 |p::ps,[],_::_,_,_,hl,_,_,_=>by have:=hl.1;simp at this
 |p::ps,_::_,[],_,_,hl,_,_,_=>by have:=hl.1;simp at this
 | p::ps,x::xs,y::ys,t,t',hl,h,hs,hp=>by
  simp only[abv,aab]at hp;have Ad:p<nt:=aaj hp.1;simp only[abp,acm];refine cQ ps xs ys _ _ hl.tail (λi=>?_) (by simp[hs]) hp.2;rw[Tr.CI];simp only[aal,aaV]
  by_cases e:i=p
  ·have Yu:p<t'.size:=by rw[hs];exact Ad
   rw[aae e,aae e.symm,aae Yu];exact hl.head
  ·rw[aad e,aad (ab8 e),←aal];exact h i
def n5(P:Program)(l:Nat)(R:Ending→World→Prop):Exit→Act→World→Prop
 | .panic chain,a,w=>a.defers=[]∧R (.panicked chain) w
 |e,a,w=>roundPost P l R e a w
theorem Um{F:Fence}{n:Nat}{l:Nat}{f:FuncId}{tmps:Array Value}{assign body:Code}{w:World}{R:Ending→World→Prop}(hF:F.fn f){fn:Func}(fI:P.funcs[f]?=some fn)
  (h:assign.wpIn (F.inRound l) n P (Exit.then (λa₁ w₁=>∃w₂,(Instr.beginRound l).run P w₁=.ok () w₂∧body.wpIn (F.inRound l) n P (n5 P l R) a₁ w₂) (λ_ _ _=>False))
   {tmps:=tmps,defers:=[]} w) :
  RoundIn F n P l f tmps assign body w R:=by
 refine⟨hF,λc cs hr=>?_⟩
 let b:Frame:={(default:Frame)with fn:=f,kind:=.normal,roundOf:=some l}
 have cC:Frame.round l f tmps assign body .normal=b.atR {tmps:=tmps,defers:=[]} [.code assign,.beginRound,.code body]:=by
  simp[Frame.round,Frame.atR,b]
 have JY:(F.inRound l).room ((c::cs).length+1+n):=hr;have hF':(F.inRound l).fn b.fn:=hF;obtain⟨e,a₁,w₁,hq,Ul⟩:=h b [.beginRound,.code body] (c::cs) rfl hF' JY;rw[←cC]at Ul
 cases e with
 | normal=>
  obtain⟨w₂,hbr,jf⟩:=hq
  have s1:StepsIn (Machine.fenced P (F.inRound l)) P (lone (b.atR a₁ [.beginRound,.code body]) (c::cs) w₁) (lone (b.atR a₁ [.code body]) (c::cs) w₂) :=
   .one (fenced_calm (fr:=b.atR a₁ [.beginRound,.code body]) hF' JY rfl) (stepR_beginRound rfl hbr)
  obtain⟨e₂,a₂,w₃,hq₂,harr₂⟩:=jf b [] (c::cs) rfl hF' JY
  cases e₂ with
  |normal=>
   obtain⟨v,w₄,Ef,hR⟩:=hq₂;exact⟨.returned v,w₄,hR,(abV Ul s1).trans (abV harr₂ (.one (fenced_calm (fr:=b.atR a₂ []) hF' JY rfl) (stepR_round_end rfl rfl Ef)))⟩
  |ret=>
   obtain⟨v,w₄,Ef,hR⟩:=hq₂;obtain⟨k₁,hs⟩:=harr₂.2 rfl;exact⟨.returned v,w₄,hR,(abV Ul s1).trans (abV hs (.one (fenced_calm (fr:=b.atR a₂ (.code .ret::k₁)) hF' JY rfl) (stepR_round_ret rfl rfl Ef)))⟩
  |exit id=>
   obtain⟨v,w₄,Ef,hR⟩:=hq₂;obtain⟨k₁,hk,hs⟩:=harr₂.2 rfl rfl;exact⟨.returned v,w₄,hR,(abV Ul s1).trans (abV hs (.one (fenced_calm (fr:=b.atR a₂ (.code (.exit id)::k₁)) hF' JY rfl) (stepR_round_exit rfl rfl hk Ef)))⟩
  |goto t=>
   obtain⟨v,w₄,Ef,hR⟩:=hq₂;obtain⟨k₁,hk,hs⟩:=harr₂.2 rfl rfl;exact⟨.returned v,w₄,hR,(abV Ul s1).trans (abV hs (.one (fenced_calm (fr:=b.atR a₂ (.code (.goto t)::k₁)) hF' JY rfl) (stepR_round_goto rfl rfl hk Ef)))⟩
  |panic chain=>
   obtain⟨hd,hR⟩:=hq₂;obtain⟨k₁,hs⟩:=harr₂;have hl:((b.atR a₂ k₁).raise chain).leaving P w₃ (.panicked chain):=⟨rfl,hd,fn,fI⟩
   exact⟨.panicked chain,w₃,hR,(abV Ul s1).trans (abV hs (.one (fenced_leaving (F:=F.inRound l) hF' JY hl) (step_leave_panicked hl)))⟩
  |outgrown=>exact hq₂.elim
 |exit id=>exact hq.elim
 |goto t=>exact hq.elim
 |ret=>exact hq.elim
 |panic chain=>exact hq.elim
 |outgrown=>exact hq.elim
theorem n9{L:List FuncId}(hS:Yr P w0 k R){l l':Nat}{args:List Value}{W:CW}{outs:List (Ending×CW)}{ρ:CJ}{w:World}{args':Array Value}(h:(DY P L R).round l args W=some outs)(hb:OL ρ l l')(Dr:A4 ρ args args'.toList)(hw:Aa P w0 ρ W w) :
  ∃f t as bd,(Instr.yield l' args').run P w=.ok (.round l' f t as bd) w∧∀(r:Option Nat) n,RoundIn (C7 P r) n P l' f t as bd w (Wo P w0 ρ W outs):=by
 simp only[DY]at h;split at h
 rotate_left
 ·cases h
 rename_i pd0 f t nt ps as bd ld0 CH;rw[cond_eq_ite]at h;split at h
 rotate_left
 ·cases h
 rename_i hlen;have hlen:=aac hlen;obtain⟨l1,XE,C3⟩:=C5 h;have cC:=hb;obtain⟨x,hx,rfl⟩:=hb;obtain⟨o',Jx,DZ⟩:=hw.obj CH (by simp) hx rfl
 cases DZ with
 | @loop _ _ _ f0' _ t' _ _ _ _ d' k1 k2 k3 k4=>
  have KB:args'.size=ps.size:=by have:=Dr.1;simp at this;omega
  obtain⟨hT,hTs⟩:=cQ ps.toList args args'.toList t t' Dr k1 rfl k3.1
  refine⟨f0',(ps.zip args').foldl (λtmps (t,a)=>tmps.setIfInBounds t a) t',as,bd,?_,λr n=>?_⟩
  ·simp only[Instr.yield,Instr.getLoop,aaf,A6 Jx (by simp),aaa,aai,KB,ne_eq,not_true,abf]
  ·have AHG:(ps.zip args').foldl (λtmps (x:Tmp×Value)=>match x with|(t,a)=>tmps.setIfInBounds t a) t'=(ps.toList.zip args'.toList).foldl (λt (p:Tmp×Value)=>t.setIfInBounds p.1 p.2) t':=by
    rw[←ac2,Array.toList_zip]
   rw[AHG];have hF:(C7 P r).inRound x.b=C7 P (some x.b):=by cases r<;>rfl
   obtain⟨fnn,AHH⟩:=k4;refine Um (JI _ ⟨fnn,AHH⟩) AHH ?_;rw[hF];have hA:AR ρ ⟨(ps.toList.zip args).foldl (λt (p:Tmp×Value)=>t.set p.1 p.2) t,t'.size,[]⟩ {tmps:=(ps.toList.zip args'.toList).foldl (λt (p:Tmp×Value)=>t.setIfInBounds p.1 p.2) t',defers:=[]}:=⟨hT,hTs,.nil⟩
   refine wpIn_mono (hS.code XE (.some cC) hA hw k3.2.1 n) λe' a2 w2 hc=>?_;obtain⟨e,a1,W1,ρ1,hm,hg,hxr,DS,Fi,Nv⟩:=hc;obtain⟨m,CU,Dg⟩:=C3 _ hm
   cases hxr with
   |exit id=>cases CU
   |ret=>cases CU
   |panic _=>cases CU
   | normal=>
    simp only at CU;split at CU
    rotate_left
    ·cases CU
    rename_i pd1 f1 t1 nt1 ps1 as1 bd1 wq ACz;have NK:=hg.1 _ _ hx;obtain⟨o1',AK0,AHI⟩:=Fi.obj ACz (by simp) NK rfl
    cases AHI with
    | @loop _ _ _ f1' _ t1' _ _ _ _ d1' q1 q2 q3 q4=>
     have Hl:=Fi.Ba ACz rfl NK (Jw.loop (P:=P) (st:=.busy) (pd:=pd1) (f:=f1) (f':=f1') q1 q2 q3 q4);refine⟨_,Yt AK0 rfl,?_⟩;obtain⟨l2,MV,AHJ⟩:=C5 CU;have OF:FP W ρ (W1.Ba l (.loop .busy pd1 f1 t1 t1'.size ps1 as1 bd1 wq)) ρ1:=hg.trans (.refl _);refine wpIn_mono (hS.code MV (.some ⟨x,NK,rfl⟩) DS Hl (by rw[Nv];exact k3.2.2) n) λe' a3 w3 hc=>?_;obtain⟨e,a4,W4,ρ4,xi,hg4,hx4,ha4,hw4,ANZ⟩:=hc;obtain⟨m4,hm5,AHK⟩:=AHJ _ xi;have hb4:OL ρ4 l x.b:=⟨x,hg4.1 _ _ NK,rfl⟩
     have fY:∀y,y∈m4→y∈outs:=λy hy=>Dg _ (AHK _ hy)
     cases hx4 with
     |normal=>exact RH (v:=undef) hm5 hb4 hw4 (OF.trans hg4) fY
     |ret=>exact RH (v:=undef) hm5 hb4 hw4 (OF.trans hg4) fY
     |exit id=>exact RH (v:=undef) hm5 hb4 hw4 (OF.trans hg4) fY
     |panic Jt=>
      simp only[cond_eq_ite]at hm5;split at hm5
      rotate_left
      ·cases hm5
      rename_i hde
      cases hm5
      refine⟨?_,_,W4,ρ4,fY _ (dy.2 rfl),OF.trans hg4,.panicked Jt,hw4⟩;have hA:=ha4.defers;generalize a3.defers=D at hA
      cases hq:a4.defers with
      |nil=>rw[hq]at hA;cases hA;rfl
      |cons _ _=>rw[hq]at hde;cases hde
end
section
variable {P:Program}{w0:World}{k:Nat}{R:Dl}
def Un(tmps:Array Value)(r:ResultVar):Sem Value :=
 match r with
 | .tmp t=>pure (tmps.getD t undef)
 | .cell s t=>do loadVar t (←asAddr (tmps.getD s undef))
theorem n_(fn:Func)(tmps:Array Value):results fn tmps=(do let vs←fn.results.mapM (Un tmps);pure (if h:vs.size=1 then vs[0]else .tuple vs)):=by
 have:(λr:ResultVar=>match r with| .tmp t=>(pure (tmps.getD t undef):Sem Value)| .cell a t=>do loadVar t (←asAddr (tmps.getD a undef)))=Un tmps:=by
  funext r;cases r<;>rfl
 unfold results;rw[←this];rfl
theorem NM{ρ:CJ}{a:AN}{a':Act}{W:CW}{w:World}(ha:∀i,AS ρ (a.at i) (a'.tmps.getD i undef))(hw:Aa P w0 ρ W w):∀{rs:List ResultVar} {vs:List Value},rs.mapM (JV P a W)=some vs→
  ∃vs',(rs.mapM (Un a'.tmps)).run P w=.ok vs' w∧A4 ρ vs vs'
 |[],vs,h=>by simp at h;subst h;exact⟨[],by simp,.nil _⟩
 | r::rs,vs,h=>by
  rw[acL]at h
  cases hr:JV P a W r with
  |none=>simp[hr]at h
  | some v=>
   simp only[hr,Option.bind_eq_bind,acf]at h
   cases mj:rs.mapM (JV P a W)with
   |none=>simp[mj]at h
   | some vs2=>
    simp only[mj,acf,Option.pure_def,aam]at h;subst h;obtain⟨vs',ID,hl⟩:=NM ha hw mj
    have Jz:∃v',(Un a'.tmps r).run P w=.ok v' w∧AS ρ v v':=by
     cases r with
     |tmp t=>
      refine⟨_,rfl,?_⟩;have:=ha t;simp only[JV,aam]at hr;rw[←hr];simp only[AN.at]at this
      cases hq:a.t.get t<;>(rw[hq]at this;exact this)
     | cell s t=>
      have:=ha s;simp only[JV]at hr
      split at hr
      ·rename_i p hp;simp only[AN.at,hp,aaX]at this;generalize Fh:a'.tmps.getD s undef=q at this
       cases this with
       |ptr hpp=>
        obtain⟨v',JY,ID⟩:=V0 hw hpp hr;exact⟨v',by simp only[Un,Fh,asAddr,aaf,aai,aaa];exact JY,ID⟩
      ·cases hr
    obtain⟨v',Uo,OH⟩:=Jz;refine⟨v'::vs',?_,.cons OH hl⟩;rw[acL];simp only[aaf,Uo,aaa,ID,aai]
theorem MB{fn:Func}{ρ:CJ}{a:AN}{a':Act}{W:CW}{w:World}{v:Value}(ha:∀i,AS ρ (a.at i) (a'.tmps.getD i undef))(hw:Aa P w0 ρ W w)(h:Gg P fn a W=some v) :
  ∃v',(results fn a'.tmps).run P w=.ok v' w∧AS ρ v v':=by
 unfold Gg at h
 have run:∀{vs'},(fn.results.toList.mapM (Un a'.tmps)).run P w=.ok vs' w→(results fn a'.tmps).run P w=.ok (if h:vs'.toArray.size=1 then vs'.toArray[0]else .tuple vs'.toArray) w:=by
  intro vs' hv;rw[n_];rw[←Array.toArray_toList (xs:=fn.results),List.mapM_toArray];simp only[aaf,Sem.run_map];rw[hv];rfl
 split at h
 ·rename_i v0 hm
  cases h
  obtain⟨vs',hv,hl⟩:=NM ha hw hm
  have:∃y,vs'=[y]:=by
   have:=hl.1
   cases vs' with
   |nil=>simp at this
   |cons y ys=>exact⟨y,by have:ys=[]:=(by simpa using this);rw[this]⟩
  obtain⟨y,rfl⟩:=this;exact⟨y,by rw[run hv];rfl,hl.head⟩
 ·rename_i vs q1 q2;have hm:fn.results.toList.mapM (JV P a W)=some vs:=by first|exact q1|exact q2
  have D3:∀v,vs=[v]→False:=by first|exact q1|exact q2
  cases h
  obtain⟨vs',hv,hl⟩:=NM ha hw hm;refine⟨.tuple vs'.toArray,?_,.tuple' (by simpa using hl)⟩;rw[run hv,dif_neg];intro h1;have XE:vs.length=1:=by rw[hl.1];simpa using h1
  obtain⟨x,hx⟩:=List.length_eq_one_iff.1 XE;exact D3 x hx
 ·cases h
end
section
variable {P:Program}{w0:World}{k:Nat}{R:Dl}
theorem LY.dropWhile{ρ:CJ}:∀{c c':List PanicEntry},SO ρ c c'→SO ρ (c.dropWhile (!·.goexit)) (c'.dropWhile (!·.goexit))
 |[],[],.nil=>.nil
 |x::c,y::c',.cons h hs=>by
  simp only[List.dropWhile_cons,h.g]
  cases y.goexit with
  |true=>simpa using .cons h hs
  |false=>simpa using LY.dropWhile hs
theorem oA{ρ:CJ}{u u':FrameMode}(h:QB ρ u u'):QB ρ (settle u) (settle u'):=by
 cases h with
 |returning=>exact .returning
 | @panicking c c' hc=>
  cases hc with
  |nil=>exact .panicking .nil
  | @cons x y xs ys hx ml=>
   obtain⟨v,r,g⟩:=x;obtain⟨v',r',g'⟩:=y;have hr:r=r':=hx.r;subst hr
   cases r with
   |false=>exact .panicking (.cons hx ml)
   |true=>
    simp only[settle];have hd:=LY.dropWhile ml;generalize List.dropWhile (λx=>!x.goexit) xs=A at hd;generalize List.dropWhile (λx=>!x.goexit) ys=B at hd
    cases hd with
    |nil=>exact .returning
    |cons a b=>exact .panicking (.cons a b)
theorem Aa.drop{ρ:CJ}{W:CW}{w:World}(h:Aa P w0 ρ W w){i:Nat}{o:BF}{x:Info}(ho:W.obj i=some o)(hd:o.mut=true)(hx:ρ i=some x)(u':Obj) :
  Aa P w0 ρ (W.Ba i .dead) {w with heap:=w.heap.setIfInBounds x.b u'}:=by
 have hk:=h.kill ho;obtain⟨o',Jx,_,mb,_⟩:=h.live i o x ho (BF.JG hd) hx;have mb:=mb hd
 refine⟨hk.Wi,hk.top,λj v y hv OD hy=>?_,hk.inj,?_⟩
 ·obtain⟨v',ID,hrv,wZ⟩:=hk.live j v y hv OD hy;refine⟨v',?_,hrv,wZ⟩
  have hji:W.h.get j=some v∧j≠i:=by
   simp only[CW.Ba,Tr.CI]at hv
   split at hv
   ·cases hv;exact(OD rfl).elim
   ·rename_i e;exact⟨hv,e⟩
  have D3:x.b≠y.b:=λhb=>by
   cases bB:v.mut with
   |true=>exact hji.2 (h.inj j i v o y x hji.1 bB ho hd hy hx hb.symm)
   |false=>have:=wZ.2 bB;omega
  show(w.heap.setIfInBounds x.b u')[y.b]?=_;rw[aa8 D3];exact ID
 ·exact⟨h.below.os,h.below.tape,h.below.output,by show w0.heap.size≤(w.heap.setIfInBounds x.b u').size;rw[abG];exact h.below.size,λq hq=>by
   show(w.heap.setIfInBounds x.b u')[q]?=_
   rw[aa8 (by omega)];exact h.below.block q hq⟩
theorem NN(hS:Yr P w0 k R){fn:Func}{a:AN}{a':Act}{ρ0:CJ}{W0:CW}{n:Nat}{outs:List (Ending×CW)}:∀(ds:List Deferred) {EK:List Deferred} {u u':FrameMode} {W:CW} {ρ:CJ} {w:World} {m:List (Ending×CW)},
  leaves P R fn a ds u W=some m→LY (MQ ρ) ds EK→QB ρ u u'→(∀i,AS ρ (a.at i) (a'.tmps.getD i undef))→Aa P w0 ρ W w→FP W0 ρ0 W ρ→(∀x,x∈m→x∈outs)→
  LeavesInM (F0 P) n P fn a'.tmps (Wo P w0 ρ0 W0 outs) EK u' w:=by
 intro ds
 induction ds with
 | nil=>
  intro EK u u' W ρ w m h iY hu ha hw hg Dg
  cases iY
  cases hu with
  | returning=>
   simp only[leaves]at h
   split at h
   ·rename_i v hv
    cases h
    obtain⟨v',hr,hvr⟩:=MB ha hw hv;exact⟨v',hr,_,W,ρ,Dg _ (dy.2 rfl),hg,.returned hvr,hw⟩
   ·cases h
  |panicking hc=>
   simp only[leaves]at h
   cases h
   exact⟨_,W,ρ,Dg _ (dy.2 rfl),hg,.panicked hc,hw⟩
 | cons d ds ih=>
  intro EK u u' W ρ w m h iY hu ha hw hg Dg
  cases iY with
  | @cons _ d' _ EK hd iY=>
   have J4:u'≠.run:=by cases hu<;>simp
   cases hd with
   | @collected r r' hb=>
    simp only[leaves]at h
    split at h
    ·rename_i CH;obtain⟨x,hx,rfl⟩:=hb;obtain⟨o',Jx,DZ⟩:=hw.obj CH (by simp) hx rfl
     cases DZ
     have Hl:=hw.drop CH rfl hx (.deferred none);refine⟨J4,.inl ⟨x.b,_,rfl,?_,ih h iY hu ha Hl (hg.trans (.refl _)) Dg⟩⟩;simp only[Instr.takeDeferred,aaf,A6 Jx (by simp),aaa,Dz Jx (by simp),aai]
    ·cases h
   | @fn f cap cap' args args' hc Dr=>
    simp only[leaves]at h;obtain⟨l,hl,C3⟩:=C5 h;have MV:A4 ρ (args.toList++cap.toList) (args'++cap').toList:=by simpa using Dr.append hc
    obtain⟨Hx,hD⟩:=hS.IJ hl MV hu hw;refine⟨J4,.inr ⟨(λh=>by cases h),.func f,cap',f,args'++cap',rfl,by simp only[invoke];exact Hx,λf' mi=>(by simp only[Target.leads,aam]at mi;subst mi;exact hS.exd hl),(hD (n-1)).mono λe2 u2 w2 hE=>?_⟩⟩;obtain⟨e,u1,W2,ρ2,hm,OF,hN,hU,Hl⟩:=hE;obtain⟨m2,CU,AHL⟩:=C3 _ hm
    cases hN with
    |returned _=>
     exact ih CU (forall₂_mono (λ_ _ x=>x.mono OF.1) iY) (oA hU) (λi=>(ha i).mono OF.1) Hl (hg.trans OF) λx hx=>Dg _ (AHL _ hx)
    |panicked _=>cases CU
theorem bb{fn:Func}{tm:Array Value}{ρ0:CJ}{W0:CW}{n:Nat}{outs:List (Ending×CW)}:∀(ds:List Deferred) {EK:List Deferred} {c c':List PanicEntry} {W:CW} {ρ:CJ} {w:World} {m:List (Ending×CW)},
  Hj ds c W=some m→LY (MQ ρ) ds EK→SO ρ c c'→Aa P w0 ρ W w→FP W0 ρ0 W ρ→(∀x,x∈m→x∈outs)→
  LeavesInM (F0 P) n P fn tm (Wo P w0 ρ0 W0 outs) EK (.panicking c') w:=by
 intro ds
 induction ds with
 |nil=>
  intro EK c c' W ρ w m h iY hc hw hg Dg
  cases iY
  simp only[Hj]at h
  cases h
  exact⟨_,W,ρ,Dg _ (dy.2 rfl),hg,.panicked hc,hw⟩
 | cons d ds ih=>
  intro EK c c' W ρ w m h iY hc hw hg Dg
  cases iY with
  | @cons _ d' _ EK hd iY=>
   cases hd with
   | @collected r r' hb=>
    simp only[Hj]at h
    split at h
    ·rename_i CH;obtain⟨x,hx,rfl⟩:=hb;obtain⟨o',Jx,DZ⟩:=hw.obj CH (by simp) hx rfl
     cases DZ
     have Hl:=hw.drop CH rfl hx (.deferred none);refine⟨by simp,.inl ⟨x.b,_,rfl,?_,ih h iY hc Hl (hg.trans (.refl _)) Dg⟩⟩;simp only[Instr.takeDeferred,aaf,A6 Jx (by simp),aaa,Dz Jx (by simp),aai]
    ·cases h
   | @fn f cap cap' args args' hc Dr=>simp only[Hj]at h;cases h
theorem Up{ρ:CJ}{fn:Func}{args:List Value}{args':Array Value}(h:A4 ρ args args'.toList)(hle:args.length≤fn.ntmps) :
  AR ρ (JE fn args) {tmps:=args'++Array.replicate (fn.ntmps-args'.size) undef,defers:=[]}:=by
 have hs:args'.size=args.length:=by have:=h.1;simp at this;omega
 refine⟨λi=>?_,by simp[JE,hs];omega,.nil⟩;simp only[AN.at,JE,Tr.Lh,aa1,true_and,aaL,acP,Tr.get_nil];rw[aal]
 by_cases hi:i<args.length
 ·rw[aae hi,Array.getElem?_append_left (by omega)];have:=h.2 i hi;rw[aah,aah]at this;have e1:args'.toList[i]?=args'[i]?:=abj ..;rw[e1]at this;exact this
 ·rw[aad hi,Array.getElem?_append_right (by omega),Array.getElem?_replicate];split<;>exact .undef _
def CK(P:Program)(L:List FuncId):Prop:=(∀f fn c,C_ L f=true→P.funcs[f]?=some fn→fn.body=some c→codeOk P fn.ntmps false c=true)∧
 ∀f,C_ L (f+2000000)=true→(∃fn,P.funcs[f]?=some fn∧fn.body.isSome=true)∧∀(w:World) (n:Nat),CallsIn (F0 P) n P f #[] w λe w'=>e=.returned (.bool true)∧Below w.heap.size w w'
theorem CK.of{L:List FuncId}(h:ep P L=true)(hL:(L.all λf=>Nat.blt f 2000000)=true):CK P L:=by
 refine⟨λf fn c hm hf hc=>?_,λf hm=>?_⟩
 ·have:=aax.1 h f (Jg.1 hm);rw[hf]at this;simp only[hc]at this;exact this
 ·have:=aax.1 hL _ (Jg.1 hm);have:=aaj this;omega
theorem CK.add{L:List FuncId}(h:CK P L){g:FuncId}(hg:Nat.blt g 1000000=true)(hL:(L.all λf=>Nat.blt f 2000000)=true){fn:Func}(hf:P.funcs[g]?=some fn)(hb:fn.body.isSome=true)(KB:Nat.ble P.funcs.size 2000000=true)
  (hc:∀(w:World) (n:Nat),CallsIn (F0 P) n P g #[] w λe w'=>e=.returned (.bool true)∧Below w.heap.size w w'):CK P ((g+2000000)::L):=by
 have KB:=aaj KB
 refine⟨λf fn c hm hf hc=>?_,λf hm=>?_⟩
 ·rcases aaJ.1 (Jg.1 hm)with rfl|hm
  ·have:=(aao.1 hf).1;omega
  ·exact h.1 f fn c (Jg.2 hm) hf hc
 ·rcases aaJ.1 (Jg.1 hm)with he|hm
  ·have:f=g:=by omega
   subst this;exact⟨⟨fn,hf,hb⟩,hc⟩
  ·have:=aax.1 hL _ hm;have:=aaj this;omega
theorem Aa.behind{ρ:CJ}{W:CW}{w w':World}(h:Aa P w0 ρ W w)(hb:Below w.heap.size w w'):Aa P w0 ρ W w' :=
 ⟨h.Wi,h.top,λi o x ho hd hx=>by
   obtain⟨o',Jx,hr,hf⟩:=h.live i o x ho hd hx;have Ad:=(aao.1 Jx).1
   exact⟨o',by rw[hb.block _ Ad];exact Jx,hr,hf⟩,h.inj,h.below.trans (hb.mono h.below.size)⟩
theorem Yv(bc:EN P){L:List FuncId}(Yw:CK P L)(hS:Yr P w0 k R){f:FuncId}{args:List Value}{W:CW}{outs:List (Ending×CW)}{ρ:CJ}{w:World}{args':Array Value}(h:(match P.funcs[f]? with
  | some fn=>match fn.body with
   |some c=>cond (Nat.ble args.length fn.ntmps) (EO (R.code none f c (JE fn args) W) λ(e,a,W)=>
    match e with
    | .normal=>leaves P R fn a a.defers .returning W
    | .ret=>leaves P R fn a a.defers .returning W
    | .panic ch=>cond a.Nu (Hj a.defers ch W) (leaves P R fn a a.defers (.panicking ch) W)
    |_=>none) none
   |_=>none
  |_=>none)=some outs) (hm:C_ L f=true)
  (Dr:A4 ρ args args'.toList) (hw:Aa P w0 ρ W w):(callFunc f args').run P w=.ok (.enter f args') w∧∀n,CallsIn (F0 P) n P f args' w (Wo P w0 ρ W outs):=by
 split at h
 rotate_left
 ·cases h
 rename_i fn hf;split at h
 rotate_left
 ·cases h
 rename_i c hc;rw[cond_eq_ite]at h;split at h
 rotate_left
 ·cases h
 rename_i hle;have hle:=aaj hle;obtain⟨l,hl,C3⟩:=C5 h;refine⟨bc f fn hf (by rw[hc];rfl) _ _,λn=>callsIn_of_wp_marks hf hc ⟨fn,hf⟩ ?_⟩;refine wpIn_mono (hS.code (Iy:=none) hl .none (Up Dr hle) hw (Yw.1 f fn c hm hf hc) n) λe' a2 w2 hC=>?_;obtain⟨e,a1,W1,ρ1,JJ,hg,hx,DS,Fi,_⟩:=hC;obtain⟨m,CU,Dg⟩:=C3 _ JJ
 cases hx with
 |normal=>exact NN hS _ CU DS.defers .returning DS.tmps Fi hg Dg
 |ret=>exact NN hS _ CU DS.defers .returning DS.tmps Fi hg Dg
 |panic Jt=>
  simp only[cond_eq_ite]at CU
  split at CU
  ·exact bb _ CU DS.defers Jt Fi hg Dg
  ·rename_i hb;exact NN hS _ CU DS.defers (.panicking Jt) (DS.tmps (by simpa using hb)) Fi hg Dg
 |exit id=>cases CU
theorem fZ{m outs:List (Ending×CW)}(h:merged (some m)=some outs):outs=m∨∃v W2,outs=[(.returned v,W2)]:=by
 unfold merged at h
 split at h
 ·split at h
  ·cases h;exact .inr ⟨_,_,rfl⟩
  ·rename_i heq _ _
   cases h
   cases heq
   exact .inl rfl
 ·cases h;exact .inl rfl
theorem te(bc:EN P){L:List FuncId}(Yw:CK P L)(hS:Yr P w0 k R){f:FuncId}{args:List Value}{W:CW}{outs:List (Ending×CW)}{ρ:CJ}{w:World}{args':Array Value}(h:(DY P L R).call f args W=some outs)
  (Dr:A4 ρ args args'.toList) (hw:Aa P w0 ρ W w):(callFunc f args').run P w=.ok (.enter f args') w∧∀n,CallsIn (F0 P) n P f args' w (Wo P w0 ρ W outs):=by
 simp only[DY]at h
 cases hm:C_ L f with
 |false=>rw[hm]at h;cases h
 | true=>
  rw[hm]at h;simp only[aav,cond_false]at h;rw[cond_eq_ite]at h
  split at h
  ·rename_i ho;simp only[aab]at ho;have GY:args=[]:=by simpa using ho.2
   subst GY
   have AHM:args'=#[]:=by
    have:=Dr.1;apply acE;exact aaG.1 this.symm
   subst AHM;obtain⟨⟨fn,hf,hb⟩,hc⟩:=Yw.2 f ho.1
   cases h
   refine⟨bc f fn hf hb _ _,λn=>(hc w n).mono λe w' hE=>?_⟩;obtain⟨rfl,tf⟩:=hE;exact⟨_,W,ρ,dy.2 rfl,.refl _,.returned (.bool _),hw.behind tf⟩
  cases RG:C_ L (f+1000000)with
  |false=>
   rw[RG]at h;exact Yv bc Yw hS h hm Dr hw
  |true=>
   rw[RG]at h;simp only[cond_true]at h;obtain⟨m,tJ⟩:=Ll h;obtain⟨h1,h2⟩:=Yv bc Yw hS tJ hm Dr hw;refine⟨h1,λn=>(h2 n).mono λe w' hE=>?_⟩;rw[tJ]at h
   rcases fZ h with rfl|⟨v,W2,rfl⟩
   ·exact hE
   ·obtain⟨v',ρ2,rfl,hg,hv,Hl⟩:=NJ h hE;exact⟨_,_,ρ2,dy.2 rfl,hg,.returned hv,Hl⟩
end
section
variable {P:Program}{w0:World}{k:Nat}{R:Dl}
def jg(P:Program)(w0:World)(ρ:CJ)(W:CW)(nt:Nat)(c₀:Frame)(cs:List Frame)(outs:List (Exit×AN×FrameMode×CW)):Exit→Act→List Frame→World→Prop :=
 λe' a' iW w'=>∃e a u W2 ρ2 u',(e,a,u,W2)∈outs∧FP W ρ W2 ρ2∧jR ρ2 e e'∧ARx ρ2 e a a'∧QB ρ2 u u'∧Aa P w0 ρ2 W2 w'∧a.nt=nt∧iW={c₀ with mode:=u'}::cs
theorem jg.mono{ρ ρ1:CJ}{W W1:CW}{nt:Nat}{c₀:Frame}{cs iW:List Frame}{m outs:List (Exit×AN×FrameMode×CW)}{e':Exit}{a':Act}{w':World}(h:jg P w0 ρ1 W1 nt c₀ cs m e' a' iW w')
  (hg:FP W ρ W1 ρ1) (hs:∀x,x∈m→x∈outs):jg P w0 ρ W nt c₀ cs outs e' a' iW w' :=
 let ⟨e,a,u,W2,ρ2,u',h1,h2,h3,h4,h5,h6,h7,h8⟩:=h
 ⟨e,a,u,W2,ρ2,u',hs _ h1,hg.trans h2,h3,h4,h5,h6,h7,h8⟩
theorem fa(hz:ZP P){ops:Array Oper}{n:Nat}{c₀:Frame}{cs:List Frame}:∀(rest:List Oper) (i:Nat) (a:AN) (u u':FrameMode) (W:CW) (outs:List (Exit×AN×FrameMode×CW)) (ρ:CJ) (a':Act) (w:World) (Q:Exit→Act→List Frame→World→Prop),
  ops.toList.drop i=rest→DX P R ops rest a u W=some outs→MP P a.nt false rest=true→AR ρ a a'→QB ρ u u'→Aa P w0 ρ W w→(∀e a2 mm w2,jg P w0 ρ W a.nt c₀ cs outs e a2 mm w2→Q e a2 mm w2)→
  wpOpsSIn (F0 P) n P ops Q (List.range' i rest.length) a' ({c₀ with mode:=u'}::cs) w:=by
 intro rest
 induction rest with
 |nil=>
  intro i a u u' W outs ρ a' w Q _ h _ ha hu hw hQ;simp only[DX,aam]at h;subst h;exact hQ _ _ _ _ ⟨_,_,_,_,ρ,u',dy.2 rfl,.refl _,.normal,ha,hu,hw,rfl,rfl⟩
 | cons o rest ih=>
  intro i a u u' W outs ρ a' w Q SQ h Al ha hu hw hQ
  have ho:ops[i]?=some o:=by
   have:ops.toList[i]?=some o:=by
    have:=ab3 (·[0]?) SQ
    simpa[abq]using this
   simpa using this
  have NI:ops.toList.drop (i+1)=rest:=by simpa using ab3 List.tail SQ
  simp only[MP,abv,aab]at Al;obtain⟨⟨⟨⟨LZ,tV⟩,bY⟩,_⟩,Uj⟩:=Al;have Uj:∀{nt:Nat},nt=a.nt→MP P nt false rest=true:=λe=>by subst e;exact Uj
  have hd:=RE bY;simp only[aaw,List.range'_succ,wpOpsSIn,ho];rw[DX]at h
  refine⟨λf hf=>?_,?_⟩
  ·cases IM:Du ops o a with
   |false=>exact OV LZ tV (OX IM) f hf
   | true=>
    rw[IM]at h;simp only at h;obtain⟨l,hl,C3⟩:=C5 h
    exact OW (w:=w) (e':=a'.eval) hl LZ (λx _ hx=>ha.eval x hx) (λ{f args W1} hm=>by
     obtain⟨m,CU,_⟩:=C3 _ hm
     cases CU) f hf
  rw[ha.wanted ops o]
  cases IM:Du ops o a with
  |false=>
   rw[IM]at h;simp only at h;rw[aad (by simp)];refine ih (i+1) _ _ _ _ _ ρ _ _ Q NI h (Uj (AN.B9 _ _ _)) (ha.put hd (.undef _)) hu hw λe a2 mm w2 hc=>hQ e a2 mm w2 ?_
   rwa[AN.B9]at hc
  | true=>
   rw[IM]at h;simp only at h;rw[aae rfl];obtain⟨l,hl,C3⟩:=C5 h;obtain⟨n0,W1,ρ1,hm,hg,hn⟩:=SM (o:=o) hz LZ (e:=a.eval) (e':=a'.eval) (λ_=>rfl) (λx _ hx=>ha.eval x hx) hw hl;obtain⟨m,CU,Dg⟩:=C3 _ hm
   have go:∀{v v':Value} {u1 x_:FrameMode} {w1:World},DX P R ops rest (a.put o.dst v) u1 W1=some m→AS ρ1 v v'→QB ρ1 u1 x_→Aa P w0 ρ1 W1 w1→wpOpsSIn (F0 P) n P ops Q (List.range' (i+1) rest.length) (a'.put o.dst v') ({c₀ with mode:=x_}::cs) w1:=by
    intro v v' u1 x_ w1 he hv cR Fi;refine ih (i+1) _ _ _ _ _ ρ1 _ _ Q NI he (Uj (AN.B9 _ _ _)) ((ha.mono hg.1).put hd hv) cR Fi λe a2 mm w2 hc=>hQ e a2 mm w2 (jg.mono ?_ hg Dg)
    rwa[AN.B9]at hc
   cases hn with
   |value hr hv Fi=>rw[hr];exact go CU hv (hu.mono hg.1) Fi
   |skip hr Fi=>rw[hr];exact go CU (.undef _) (hu.mono hg.1) Fi
   |enter _ _ _=>cases CU
   |round _ _ _ _=>cases CU
   |defer _ _ _=>cases CU
   |panic hr hv Fi=>
    rw[hr];simp only[aam]at CU;subst CU;exact hQ _ _ _ _ ⟨_,_,_,_,ρ1,u',Dg _ (dy.2 rfl),hg,.panic (.cons ⟨hv,rfl,rfl⟩ .nil),(ha.mono hg.1).w,hu.mono hg.1,Fi,rfl,rfl⟩
   | recover hr Fi=>
    rw[hr];simp only[recoverD];have cR:=hu.mono hg.1
    cases cR with
    |returning=>exact go CU .nilIface .returning Fi
    | @panicking c c' hc=>
     cases hc with
     |nil=>exact go CU .nilIface (.panicking .nil) Fi
     | @cons x y xs ys hx ml=>
      obtain⟨v,r,g⟩:=x;obtain⟨v',r',g'⟩:=y;have e1:r=r':=hx.r;have e2:g=g':=hx.g;subst e1;subst e2
      cases r<;>cases g
      ·exact go CU hx.v (.panicking (.cons ⟨hx.v,rfl,rfl⟩ ml)) Fi
      ·exact go CU .nilIface (.panicking (.cons ⟨hx.v,rfl,rfl⟩ ml)) Fi
      ·exact go CU .nilIface (.panicking (.cons ⟨hx.v,rfl,rfl⟩ ml)) Fi
      ·exact go CU .nilIface (.panicking (.cons ⟨hx.v,rfl,rfl⟩ ml)) Fi
theorem jh(hS:Yr P w0 k R){fn:FuncId}{n:Nat}{c₀:Frame}{cs:List Frame}{c:Code}{a:AN}{u u':FrameMode}{W:CW}{outs:List (Exit×AN×FrameMode×CW)}{ρ:CJ}{a':Act}{w:World}{Q:Exit→Act→List Frame→World→Prop}
  (h:(EO (R.code none fn c a W) λ(e,a,W)=>some [(e,a,u,W)])=some outs) (Al:codeOk P a.nt false c=true) (ha:AR ρ a a') (hu:QB ρ u u') (hw:Aa P w0 ρ W w) (hQ:∀e a2 mm w2,jg P w0 ρ W a.nt c₀ cs outs e a2 mm w2→Q e a2 mm w2) :
  c.wpSIn (F0 P) n P Q a' ({c₀ with mode:=u'}::cs) w:=by
 obtain⟨l,hl,C3⟩:=C5 h;refine wpSIn_of_wpIn rfl (wpIn_mono (hS.code (Iy:=none) hl .none ha hw Al n) λe' a2 w2 hC=>?_);obtain⟨e,a1,W1,ρ1,hm,hg,hx,DS,Fi,Nv⟩:=hC;obtain⟨m,CU,Dg⟩:=C3 _ hm
 cases CU
 exact hQ _ _ _ _ ⟨_,_,_,_,ρ1,u',Dg _ (dy.2 rfl),hg,hx,DS,hu.mono hg.1,Fi,Nv,rfl⟩
theorem th(hz:ZP P)(hS:Yr P w0 k R){fn:FuncId}{n:Nat}{c₀:Frame}{cs:List Frame}:∀(c:Code) (a:AN) (u u':FrameMode) (W:CW) (outs:List (Exit×AN×FrameMode×CW)) (ρ:CJ) (a':Act) (w:World) (Q:Exit→Act→List Frame→World→Prop),
  Wg P R fn c a u W=some outs→codeOk P a.nt false c=true→AR ρ a a'→QB ρ u u'→Aa P w0 ρ W w→(∀e a2 mm w2,jg P w0 ρ W a.nt c₀ cs outs e a2 mm w2→Q e a2 mm w2)→
  c.wpSIn (F0 P) n P Q a' ({c₀ with mode:=u'}::cs) w:=by
 intro c
 induction c with
 | region id ops d=>
  intro a u u' W outs ρ a' w Q h Al ha hu hw hQ
  cases d with
  |true=>exact jh hS (by simpa only[Wg]using h) Al ha hu hw hQ
  |false=>
   simp only[Wg]at h;simp only[codeOk,aab]at Al;refine wpSIn_region ?_;have:=fa (R:=R) (n:=n) (c₀:=c₀) (cs:=cs) hz ops.toList 0 a u u' W outs ρ a' w Q rfl h Al.1 ha hu hw hQ;rw[List.range_eq_range']
   simpa using this
 |seq x y bN bO=>
  intro a u u' W outs ρ a' w Q h Al ha hu hw hQ;simp only[Wg]at h;simp only[codeOk,aab]at Al;obtain⟨l,hl,C3⟩:=C5 h;refine wpSIn_seq (bN a u u' W l ρ a' w _ hl Al.1 ha hu hw λe' a2 mm w2 hC=>?_);obtain⟨e,a1,u1,W1,ρ1,x_,hm,hg,hx,DS,cR,Fi,Nv,rfl⟩:=hC;obtain⟨m,CU,Dg⟩:=C3 _ hm
  cases hx with
  |normal=>exact bO _ _ _ _ _ ρ1 _ _ _ CU (by rw[Nv];exact Al.2) DS cR Fi λe a2 mm w2 hc=>hQ e a2 mm w2 (jg.mono (by rw[←Nv];exact hc) hg Dg)
  |exit id=>cases CU;exact hQ _ _ _ _ ⟨_,_,_,_,ρ1,x_,Dg _ (dy.2 rfl),hg,.exit id,DS,cR,Fi,Nv,rfl⟩
  |ret=>cases CU;exact hQ _ _ _ _ ⟨_,_,_,_,ρ1,x_,Dg _ (dy.2 rfl),hg,.ret,DS,cR,Fi,Nv,rfl⟩
  |panic Jt=>cases CU;exact hQ _ _ _ _ ⟨_,_,_,_,ρ1,x_,Dg _ (dy.2 rfl),hg,.panic Jt,DS,cR,Fi,Nv,rfl⟩
 | cond c x y bN bO=>
  intro a u u' W outs ρ a' w Q h Al ha hu hw hQ;simp only[Wg]at h;simp only[codeOk,aab]at Al;have hv:=ha.eval c Al.1
  split at h
  ·rename_i hb;rw[hb]at hv;generalize Fh:a'.eval c=v at hv
   cases hv
   exact wpSIn_cond (t:=true) Fh (bN _ _ _ _ _ ρ _ _ _ h Al.2.1 ha hu hw hQ)
  ·rename_i hb;rw[hb]at hv;generalize Fh:a'.eval c=v at hv
   cases hv
   exact wpSIn_cond (t:=false) Fh (bO _ _ _ _ _ ρ _ _ _ h Al.2.2 ha hu hw hQ)
  ·cases h
 |_=>
  intro a u u' W outs ρ a' w Q h Al ha hu hw hQ;exact jh hS (by simpa only[Wg]using h) Al ha hu hw hQ
theorem oB(hz:ZP P)(bc:EN P){L:List FuncId}(Yw:CK P L)(hS:Yr P w0 k R){f:FuncId}{args:List Value}{u u':FrameMode}{W:CW}{outs:List (Ending×FrameMode×CW)}{ρ:CJ}{w:World}{args':Array Value}(h:(DY P L R).IJ f args u W=some outs)
  (Dr:A4 ρ args args'.toList) (hu:QB ρ u u') (hw:Aa P w0 ρ W w):(callFunc f args').run P w=.ok (.enter f args') w∧∀n,CallsDIn (F0 P) n P f args' u' w (ADg P w0 ρ W outs):=by
 simp only[DY]at h
 cases hm:C_ L f with
 |false=>rw[hm]at h;cases h
 | true=>
  rw[hm]at h;simp only[aav,cond_false]at h;split at h
  rotate_left
  ·cases h
  rename_i fn hf;split at h
  rotate_left
  ·cases h
  rename_i c hc;rw[cond_eq_ite]at h;split at h
  rotate_left
  ·cases h
  rename_i hle;have hle:=aaj hle;obtain⟨l,hl,C3⟩:=C5 h;refine⟨bc f fn hf (by rw[hc];rfl) _ _,λn=>callsDIn_of_wpSIn hf hc ⟨fn,hf⟩ λc₀ cs AHN=>?_⟩;subst AHN;refine th (c₀:=c₀) (cs:=cs) hz hS c _ u c₀.mode W l ρ _ w _ hl (Yw.1 f fn c hm hf hc) (Up Dr hle) hu hw λe' a2 mm w2 hC=>?_;obtain⟨e,a1,u1,W1,ρ1,x_,JJ,hg,hx,DS,cR,Fi,_,rfl⟩:=hC;obtain⟨m,CU,Dg⟩:=C3 _ JJ;simp only[cond_eq_ite]at CU;split at CU
  rotate_left
  ·cases CU
  rename_i hd
  have hd:a2.defers=[]:=by
   have hA:LY (MQ ρ1) a1.defers a2.defers:=by cases e<;>exact DS.defers
   generalize a2.defers=D at hA
   cases hq:a1.defers with
   |nil=>rw[hq]at hA;cases hA;rfl
   |cons _ _=>rw[hq]at hd;cases hd
  have fin:AR ρ1 a1 a2→∀{v:Value},Gg P fn a1 W1=some v→m=[(.returned v,u1,W1)]→∃v',(results fn a2.tmps).run P w2=.ok v' w2∧ADg P w0 ρ W outs (.returned v') x_ w2:=by
   intro SX v hv RG;obtain⟨v',hr,hvr⟩:=MB SX.tmps Fi hv;exact⟨v',hr,_,u1,W1,ρ1,Dg _ (by rw[RG];simp),hg,.returned hvr,cR,Fi⟩
  cases hx with
  | normal=>
   simp only at CU
   split at CU
   ·rename_i v hv
    cases CU
    exact⟨hd,x_,rfl,fin DS hv rfl⟩
   ·cases CU
  | ret=>
   simp only at CU
   split at CU
   ·rename_i v hv
    cases CU
    exact⟨hd,x_,rfl,fin DS hv rfl⟩
   ·cases CU
  |exit id=>cases CU
  |panic _=>cases CU
theorem ABO{eqv:Value→Value→Bool}(he:∀u v,eqv u v=true→u=v):Yr P w0 0 (Dl.base eqv) where
 eqv:=he
 code h:=by cases h
 call h:=by cases h
 round h:=by cases h
 ex h:=by cases h
 exd h:=by cases h
 loop h:=by cases h
 IJ h:=by cases h
theorem ABP(hz:ZP P)(QA:P.follows .mixedOrders=true)(bc:EN P){L:List FuncId}(Yw:CK P L)(hS:Yr P w0 k R):Yr P w0 (k+1) (DY P L R) where
 eqv:=hS.eqv
 ex {f args W outs} h:=by
  simp only[DY]at h
  cases hm:C_ L f with
  |false=>rw[hm]at h;cases h
  | true=>
   rw[hm]at h;simp only[aav,cond_false]at h
   cases ho:(C_ L (f+2000000)&&args.isEmpty)with
   |true=>
    simp only[aab]at ho;obtain⟨⟨fn,hf,_⟩,_⟩:=Yw.2 f ho.1;exact⟨fn,hf⟩
   | false=>
    rw[ho]at h;simp only[cond_false]at h
    cases hf:P.funcs[f]? with
    |some fn=>exact⟨fn,hf⟩
    |none=>
     rw[hf]at h
     cases RG:C_ L (f+1000000)<;>(rw[RG]at h;cases h)
 exd {f args u W outs} h:=by
  simp only[DY]at h
  cases hm:C_ L f with
  |false=>rw[hm]at h;cases h
  |true=>
   rw[hm]at h
   cases hf:P.funcs[f]? with
   |some fn=>exact⟨fn,hf⟩
   |none=>rw[hf]at h;cases h
 code h hr ha hw Al n:=td hz QA hS h hr ha hw Al λ_ _ _ h=>h
 call h Dr hw:=te bc Yw hS h Dr hw
 round h hb Dr hw:=n9 hS h hb Dr hw
 loop h hr ha hw Al n Q hQ:=Ys hS (by simpa only[DY,CS]using h) hr ha hw Al hQ
 IJ h Dr hu hw:=oB hz bc Yw hS h Dr hu hw
theorem fb{eqv:Value→Value→Bool}(he:∀u v,eqv u v=true→u=v)(hz:ZP P)(QA:P.follows .mixedOrders=true)(bc:EN P){L:List FuncId}(Yw:CK P L):∀n,Yr P w0 n (evB P eqv L n)
 |0=>ABO he
 |n+1=>ABP hz QA bc Yw (fb he hz QA bc Yw n)
theorem ADl(hz:ZP P)(QA:P.follows .mixedOrders=true)(bc:EN P){L:List FuncId}(Yw:CK P L)(n:Nat):Yr P w0 n (bM P L n):=fb (H0 8) hz QA bc Yw n
end
theorem Below.AC0(w:World):Below w.heap.size w w:=⟨rfl,rfl,rfl,aag _,λ_ _=>rfl⟩
end Go.Ce
namespace Go.Ce
structure Dl.Le(R S:Dl):Prop where
 code:∀{ro fn c a W o},R.code ro fn c a W=some o→S.code ro fn c a W=some o
 call:∀{f args W o},R.call f args W=some o→S.call f args W=some o
 round:∀{l args W o},R.round l args W=some o→S.round l args W=some o
 IJ:∀{f args u W o},R.IJ f args u W=some o→S.IJ f args u W=some o
 eqv:∀{u v},R.eqv u v=true→S.eqv u v=true
theorem Yx{α β:Type}{f g:α→Option (List β)}(h:∀x r,f x=some r→g x=some r):∀{l:List α} {r:List β},R9 f l=some r→R9 g l=some r
 |[],r,e=>e
 | x::xs,r,e=>by
  simp only[R9]at e ⊢
  split at e
  ·cases e
  ·rename_i l hl
   split at e
   ·cases e
   ·rename_i m hm;rw[h _ _ hl,Yx h hm];exact e
theorem Dq{α β:Type}{o o':Option (List α)}{f g:α→Option (List β)}{r:List β}(ho:∀l,o=some l→o'=some l)(h:∀x r,f x=some r→g x=some r)(e:EO o f=some r):EO o' g=some r:=by
 unfold EO at e ⊢
 split at e
 ·cases e
 ·rename_i l;rw[ho l rfl];exact Yx h e
theorem WJ{ops:Array Oper}{i:Nat}{an:List Nat}{ok ok':CW→Bool}(h:∀W,ok W=true→ok' W=true):∀{ws:List (Nat×CW)} {W:CW},Dw ops i an ok ws W=true→Dw ops i an ok' ws W=true
 |[],W,e=>h W e
 | (j,Wj)::before,W,e=>by
  simp only[Dw,aab,aaU]at e ⊢;refine⟨e.1.imp id (h W),?_⟩;have e2:=e.2
  cases hm:C_ an j with
  |true=>rfl
  |false=>
   rw[hm]at e2;exact WJ h e2
section
variable {P:Program}{R S:Dl}
theorem cS{ops:Array Oper}:∀{rest:List Oper} {a:AN} {u:FrameMode} {W:CW},DX P R ops rest a u W=DX P S ops rest a u W
 |[],a,u,W=>rfl
 |x::rest,a,u,W=>by
  simp only[DX];have ih:∀{a:AN} {u:FrameMode} {W:CW},DX P R ops rest a u W=DX P S ops rest a u W:=λ{a u W}=>cS;simp only[ih]
end
section
variable {P:Program}{R S:Dl}(LV:R.Le S)
include LV
theorem Gl{ops:Array Oper}:∀{rest:List Oper} {a:AN} {W:CW} {o:List (Exit×AN×CW)},GO P R ops rest a W=some o→GO P S ops rest a W=some o
 |[],a,W,o,h=>h
 | x::rest,a,W,o,h=>by
  simp only[GO]at h ⊢
  split at h
  ·rename_i hg;refine Dq (λl hl=>hl) (λy r hy=>?_) h;obtain⟨n,W1⟩:=y
   cases n with
   |value v=>exact Gl hy
   |skip=>exact Gl hy
   |defer d=>exact Gl hy
   |enter f args=>
    refine Dq (λl hl=>LV.call hl) (λz r hz=>?_) hy;obtain⟨e,W2⟩:=z
    cases e with
    |returned v=>exact Gl hz
    |panicked ch=>exact hz
    |outgrown=>exact hz
   |round l args=>
    refine Dq (λl hl=>LV.round hl) (λz r hz=>?_) hy;obtain⟨e,W2⟩:=z
    cases e with
    |returned v=>exact Gl hz
    |panicked ch=>exact hz
    |outgrown=>exact hz
   |recover=>exact hy
   |panic v=>exact hy
  ·exact Gl h
theorem Ob{o o':Ends}(h:∀l,o=some l→o'=some l){r:List (Ending×CW)}(hm:merged o=some r):merged o'=some r:=by
 obtain⟨m,CU⟩:=Ll hm;rw[h m CU,←CU];exact hm
theorem MC{ops:Array Oper}{fl:List (Nat×Value×Option BF)}{i:Nat}{o:Oper}{s s':F1}(h:Bz P R ops fl i o s=some s'):Bz P S ops fl i o s=some s':=by
 unfold Bz at h ⊢
 split at h
 ·exact h
 ·split at h
  ·cases h
  ·exact h
  ·rename_i hw
   cases hp:Dv P o with
   |true=>
    rw[hp]at h;simp only[cond_true]at h ⊢;exact h
   | false=>
    rw[hp]at h;simp only[cond_false]at h ⊢
    cases hr:EP P o with
    |true=>
     rw[hr]at h;simp only[cond_true]at h ⊢;exact h
    | false=>
     rw[hr]at h;simp only[cond_false]at h ⊢
     split at h
     ·exact h
     ·exact h
     ·rename_i f args W1 hc
      split at h
      ·rename_i v W2 hm;rw[Ob LV (λl hl=>LV.call hl) hm];exact h
      ·cases h
     ·rename_i l args W1 hc
      split at h
      ·rename_i v W2 hm;rw[Ob LV (λl hl=>LV.round hl) hm];exact h
      ·cases h
     ·cases h
theorem KT{ops:Array Oper}{fl:List (Nat×Value×Option BF)}:∀{rest:List Oper} {i:Nat} {s s':F1},Ey P R ops fl i rest s=some s'→Ey P S ops fl i rest s=some s'
 |[],i,s,s',h=>h
 |o::rest,i,s,s',h=>by
  simp only[Ey]at h ⊢
  split at h
  ·rename_i s1 h1;rw[MC LV h1];exact KT h
  ·cases h
theorem fc{ops:Array Oper}{fl:List (Nat×Value×Option BF)}{i:Nat}{o:Oper}{s:F1}{x:List PanicEntry×CW}(h:FR P R ops fl i o s=some x):FR P S ops fl i o s=some x:=by
 unfold FR at h ⊢
 split at h
 ·cases h
 ·split at h
  ·cases hp:Dv P o with
   |true=>rw[hp]at h;cases h
   | false=>
    rw[hp]at h;simp only[cond_false]at h ⊢
    cases hr:EP P o with
    |true=>rw[hr]at h;cases h
    | false=>
     rw[hr]at h;simp only[cond_false]at h ⊢
     split at h
     ·split at h
      ·rename_i hm;rw[LV.call hm];exact h
      ·cases h
     ·split at h
      ·rename_i hm;rw[LV.round hm];exact h
      ·cases h
     ·cases h
  ·cases h
omit LV in
theorem NO{ops:Array Oper}{fl:List (Nat×Value×Option BF)}{i:Nat}{o:Oper}{s:F1}{x:List PanicEntry×CW}(h:FR P R ops fl i o s=some x):Bz P R ops fl i o s=none:=by
 unfold FR at h;unfold Bz
 split at h
 ·cases h
 ·rename_i hf;simp only[hf]
  split at h
  ·rename_i hw;rw[hw];simp only
   cases hp:Dv P o with
   |true=>rw[hp]at h;cases h
   | false=>
    rw[hp]at h;simp only[cond_false]at h ⊢
    cases hr:EP P o with
    |true=>rw[hr]at h;cases h
    | false=>
     rw[hr]at h;simp only[cond_false]at h ⊢
     split at h
     ·rename_i hc;rw[hc]
      split at h
      ·rename_i hm;simp only[hm];rfl
      ·cases h
     ·rename_i hc;rw[hc]
      split at h
      ·rename_i hm;simp only[hm];rfl
      ·cases h
     ·cases h
  ·cases h
theorem MD{ops:Array Oper}{fl:List (Nat×Value×Option BF)}:∀{rest:List Oper} {i:Nat} {s:F1} {x:Nat×List PanicEntry×CW},Ez P R ops fl i rest s=some x→Ez P S ops fl i rest s=some x
 |[],i,s,x,h=>h
 | o::rest,i,s,x,h=>by
  simp only[Ez]at h ⊢
  cases hp:FR P R ops fl i o s with
  |some y=>
   rw[hp]at h;rw[fc LV hp];exact h
  | none=>
   rw[hp]at h;simp only at h
   cases hs:Bz P R ops fl i o s with
   |none=>rw[hs]at h;cases h
   |some s1=>
    rw[hs]at h;have UJ:=MC LV hs
    cases hq:FR P S ops fl i o s with
    |some y=>have:=NO hq;rw[UJ]at this;cases this
    |none=>simp only[UJ];exact MD h
omit LV in
theorem ME{ops:Array Oper}{fl:List (Nat×Value×Option BF)}:∀{rest:List Oper} {i:Nat} {s:F1} {x:Nat×List PanicEntry×CW},Ez P R ops fl i rest s=some x→Ey P R ops fl i rest s=none
 |[],i,s,x,h=>by cases h
 | o::rest,i,s,x,h=>by
  simp only[Ez]at h;simp only[Ey]
  cases hp:FR P R ops fl i o s with
  |some y=>rw[NO hp]
  | none=>
   rw[hp]at h;simp only at h
   cases hs:Bz P R ops fl i o s with
   |none=>rfl
   |some s1=>
    rw[hs]at h;exact ME h
omit LV in
theorem MF{F G:Nat→Oper→F1→Option F1}(hFG:∀i o s s',F i o s=some s'→G i o s=some s'):∀{rest:List Oper} {i:Nat} {s s':F1},Dm F i rest s=some s'→Dm G i rest s=some s'
 |[],i,s,s',h=>h
 |o::rest,i,s,s',h=>by
  simp only[Dm]at h ⊢
  split at h
  ·rename_i s1 h1;rw[hFG _ _ _ _ h1];exact MF hFG h
  ·cases h
theorem Yy{ops:Array Oper}{fl:List (Nat×Value×Option BF)}{i0:Nat}:∀i o s s',Ix P R ops fl i0 i o s=some s'→Ix P S ops fl i0 i o s=some s':=by
 intro i o s s' h;unfold Ix at h ⊢
 cases hn:N9 ops i0 i with
 |true=>rw[hn]at h;exact h
 |false=>rw[hn]at h;exact MC LV h
theorem ji{ops:Array Oper}{a:AN}{W:CW}{o:List (Exit×AN×CW)}(h:Jv P R ops a W=some o):Jv P S ops a W=some o:=by
 have win:∀{s:F1},(s.rd.all λ(i,o,a,v)=>Dw ops i (G' ops i) (λW=>match Bm P o a.eval W with|some [(.value u,_)]=>R.eqv u v|_=>false) s.ws s.W)=true→
   (s.rd.all λ(i,o,a,v)=>Dw ops i (G' ops i) (λW=>match Bm P o a.eval W with|some [(.value u,_)]=>S.eqv u v|_=>false) s.ws s.W)=true:=by
  intro s h1;rw[aax]at h1 ⊢;intro x hx;refine WJ (λW hW=>?_) (h1 x hx)
  split at hW
  ·exact LV.eqv hW
  ·cases hW
 unfold Jv at h ⊢
 split at h
 ·cases h
 ·split at h
  ·split at h
   ·cases h
   ·rename_i Li;have yA:=MD LV Li;rw[ME yA,yA];simp only
    split at h
    ·cases h
    ·rename_i s hs;rw[MF (Yy LV) hs];simp only[cond_eq_ite]at h ⊢
     split at h
     ·rename_i h1;rw[aae h1]
      split at h
      ·rename_i h2;exact(aae (win h2)).trans h
      ·cases h
     ·cases h
  ·rename_i s hs;rw[KT LV hs];simp only[cond_eq_ite]at h ⊢
   split at h
   ·rename_i h1;exact(aae (win h1)).trans h
   ·cases h
theorem E0{fn:Func}{a:AN}:∀{ds:List Deferred} {u:FrameMode} {W:CW} {o:List (Ending×CW)},leaves P R fn a ds u W=some o→leaves P S fn a ds u W=some o
 |[],u,W,o,h=>by cases u<;>exact h
 | d::ds,u,W,o,h=>by
  cases u<;>(
   simp only[leaves]at h ⊢
   split at h
   ·split at h
    ·exact E0 h
    ·cases h
   ·refine Dq (λl hl=>LV.IJ hl) (λz r hz=>?_) h;obtain⟨e,u2,W2⟩:=z
    cases e with
    |returned v=>exact E0 hz
    |panicked ch=>exact hz
    |outgrown=>exact hz
   ·cases h)
theorem QY{fn:FuncId}{c:Code}{a:AN}{u:FrameMode}{W:CW}{o:List (Exit×AN×FrameMode×CW)}(h:(EO (R.code none fn c a W) λ(e,a,W)=>some [(e,a,u,W)])=some o) :
  (EO (S.code none fn c a W) λ(e,a,W)=>some [(e,a,u,W)])=some o :=
 Dq (λl hl=>LV.code hl) (λ_ _ h=>h) h
theorem Yz{fn:FuncId}:∀{c:Code} {a:AN} {u:FrameMode} {W:CW} {o:List (Exit×AN×FrameMode×CW)},Wg P R fn c a u W=some o→Wg P S fn c a u W=some o:=by
 intro c
 induction c with
 |region id ops d=>
  intro a u W o h
  cases d with
  |false=>simp only[Wg]at h ⊢;rw[cS (S:=R)];exact h
  |true=>exact QY LV h
 |seq x y bN bO=>
  intro a u W o h;simp only[Wg]at h ⊢;refine Dq (λl hl=>bN hl) (λz r hz=>?_) h;obtain⟨e,a2,u2,W2⟩:=z
  cases e with
  |normal=>exact bO hz
  |_=>exact hz
 |cond c x y bN bO=>
  intro a u W o h;simp only[Wg]at h ⊢
  split at h
  ·exact bN h
  ·exact bO h
  ·cases h
 |_=>intro a u W o h;exact QY LV h
theorem cT{o o':RB}{f g:AN→CW→RB}{r:List (Exit×AN×CW)}(ho:∀l,o=some l→o'=some l)(hf:∀a W r,f a W=some r→g a W=some r)(h:SB o f=some r):SB o' g=some r:=by
 unfold SB at h ⊢;refine Dq ho (λz r hz=>?_) h;obtain⟨e,a,W⟩:=z
 cases e with
 |normal=>exact hf _ _ _ hz
 |_=>exact hz
theorem bg{ro:Option Nat}{fn:FuncId}{c:Code}{a:AN}{W:CW}{o:List (Exit×AN×CW)}(h:CS P R ro fn c a W=some o):CS P S ro fn c a W=some o:=by
 cases c with
 |region id ops d=>cases d with
  |false=>exact Gl LV h
  |true=>exact ji LV h
 |seq x y=>exact cT LV (λl hl=>LV.code hl) (λ_ _ _ hr=>LV.code hr) h
 |cond c x y=>
  simp only[CS]at h ⊢
  split at h
  ·exact LV.code h
  ·cases h
 |block id b=>
  simp only[CS]at h ⊢;exact Dq (λl hl=>LV.code hl) (λ_ _ hz=>hz) h
 |scope b=>exact LV.code h
 |loop b=>exact cT LV (λl hl=>LV.code hl) (λ_ _ _ hr=>LV.code hr) h
 | rangeFunc f ps as bd=>
  simp only[CS]at h ⊢
  split at h
  ·cases h
  ·rename_i dl mark W1 ha
   split at h
   ·rename_i g args hc;exact Dq (λl hl=>LV.call hl) (λ_ _ hz=>hz) h
   ·cases h
 |_=>exact h
theorem fe{L:List FuncId}:(DY P L R).Le (DY P L S) where
 eqv:=LV.eqv
 code h:=bg LV h
 call {f args W o} h:=by
  simp only[DY]at h ⊢
  cases hm:C_ L f with
  |false=>rw[hm]at h;cases h
  | true =>
   rw[hm]at h;simp only[aav,cond_false]at h ⊢
   cases ho:(C_ L (f+2000000)&&args.isEmpty)with
   |true=>rw[ho]at h;exact h
   | false=>
    rw[ho]at h;simp only[cond_false]at h ⊢
    have key:∀{o:List (Ending×CW)},(match P.funcs[f]? with
      | some fn=>match fn.body with
       |some c=>cond (Nat.ble args.length fn.ntmps) (EO (R.code none f c (JE fn args) W) λ(e,a,W)=>
        match e with
        | .normal=>leaves P R fn a a.defers .returning W
        | .ret=>leaves P R fn a a.defers .returning W
        | .panic ch=>cond a.Nu (Hj a.defers ch W) (leaves P R fn a a.defers (.panicking ch) W)
        |_=>none) none
       |_=>none
      |_=>none)=some o→(match P.funcs[f]? with
      | some fn=>match fn.body with
       |some c=>cond (Nat.ble args.length fn.ntmps) (EO (S.code none f c (JE fn args) W) λ(e,a,W)=>
        match e with
        | .normal=>leaves P S fn a a.defers .returning W
        | .ret=>leaves P S fn a a.defers .returning W
        | .panic ch=>cond a.Nu (Hj a.defers ch W) (leaves P S fn a a.defers (.panicking ch) W)
        |_=>none) none
       |_=>none
      |_=>none)=some o:=by
     intro o h
     split at h
     ·rename_i fn hf
      split at h
      ·rename_i c hc
       cases hle:Nat.ble args.length fn.ntmps with
       |false=>rw[hle]at h;cases h
       | true=>
        rw[hle]at h;simp only[cond_true]at h ⊢;refine Dq (λl hl=>LV.code hl) (λz r hz=>?_) h;obtain⟨e,a,W⟩:=z
        cases e with
        |normal=>exact E0 LV hz
        |ret=>exact E0 LV hz
        |panic ch=>
         simp only[cond_eq_ite]at hz ⊢
         split at hz
         ·rename_i hb;rw[aae hb];exact hz
         ·rename_i hb;rw[aad hb];exact E0 LV hz
        |exit id=>exact hz
        |goto id=>exact hz
        |outgrown=>exact hz
      ·cases h
     ·cases h
    cases RG:C_ L (f+1000000)with
    |false=>
     rw[RG]at h;simp only[cond_false]at h ⊢;exact key h
    |true=>
     rw[RG]at h;simp only[cond_true]at h ⊢;exact Ob LV (λl hl=>key hl) h
 IJ {f args u W o} h:=by
  simp only[DY]at h ⊢
  cases hm:C_ L f with
  |false=>rw[hm]at h;cases h
  | true=>
   rw[hm]at h;simp only[aav,cond_false]at h ⊢
   split at h
   ·rename_i fn hf
    split at h
    ·rename_i c hc
     cases hle:Nat.ble args.length fn.ntmps with
     |false=>rw[hle]at h;cases h
     |true=>
      rw[hle]at h;simp only[cond_true]at h ⊢;exact Dq (λl hl=>Yz LV hl) (λ_ _ hz=>hz) h
    ·cases h
   ·cases h
 round {l args W o} h:=by
  simp only[DY]at h ⊢
  split at h
  ·rename_i ER f t nt ps assign body ld CH
   cases hq:Nat.beq args.length ps.size with
   |false=>rw[hq]at h;cases h
   | true=>
    rw[hq]at h;simp only[cond_true]at h ⊢;refine Dq (λl hl=>LV.code hl) (λz r hz=>?_) h;obtain⟨e,a,W1⟩:=z
    cases e with
    |normal=>
     simp only at hz ⊢
     split at hz
     ·exact Dq (λl hl=>LV.code hl) (λ_ _ hz=>hz) hz
     ·cases hz
    |_=>exact hz
  ·cases h
end
theorem jj{P:Program}{eqv:Value→Value→Bool}{L:List FuncId}:∀n,(evB P eqv L n).Le (evB P eqv L (n+1))
 |0=>⟨λ{_ _ _ _ _ _} h=>(by cases h),λ{_ _ _ _} h=>(by cases h),λ{_ _ _ _} h=>(by cases h),λ{_ _ _ _ _} h=>(by cases h),λh=>h⟩
 |n+1=>fe (jj n)
theorem Dl.Le.refl(R:Dl):R.Le R:=⟨λh=>h,λh=>h,λh=>h,λh=>h,λh=>h⟩
theorem Dl.Le.trans{R S T:Dl}(h:R.Le S)(k:S.Le T):R.Le T:=⟨λx=>k.code (h.code x),λx=>k.call (h.call x),λx=>k.round (h.round x),λx=>k.IJ (h.IJ x),λx=>k.eqv (h.eqv x)⟩
theorem ES{P:Program}{eqv:Value→Value→Bool}{L:List FuncId}{n m:Nat}(h:n≤m):(evB P eqv L n).Le (evB P eqv L m):=by
 induction h with
 |refl=>exact .refl _
 |step _ ih=>exact ih.trans (jj _)
end Go.Ce
namespace Go.Ce
open Go.RowKit (Below)
def AK1(P:Program):Bool:=(List.range P.types.size).all λt=>match Is P t with|some z=>Gf 8 z|none=>true
def AK2 (P:Program):Bool:=P.funcs.toList.all fun fn=>!(fn.body.isNone && fn.name == "maps.clone")
theorem EX.of{P:Program}(h:AK2 P=true):EX P:=by
 intro f fn hf hb hn;have hm:fn∈P.funcs.toList:=by simpa using acp hf
 have:=aax.1 h fn hm;simp[hb,hn]at this
theorem ZP.of{P:Program}(h:AK1 P=true)(hx:EX P):ZP P:=by
 refine⟨?_,hx⟩;intro t z hz
 have Ad:t<P.types.size:=by
  unfold Is at hz;rw[cond_eq_ite]at hz
  split at hz
  ·rename_i h1;exact aaj h1
  ·cases hz
 have:=aax.1 h t (aaT.2 Ad);rw[hz]at this;exact⟨8,this⟩
def AK3 (P:Program):Bool:=P.funcs.toList.all fun fn=>!(fn.name == "runtime.NumGoroutine")
theorem EN.of{P:Program}(h:AK3 P=true):EN P:=by
 intro f fn hf hb args w;have hm:fn∈P.funcs.toList:=by simpa using acp hf
 have hn:=List.all_eq_true.1 h fn hm; have hn:(fn.name == "runtime.NumGoroutine")=false:=by simpa using hn
 have hb:fn.body.isNone=false:=by cases hx:fn.body<;>simp_all
 simp only[callFunc,aaf,run_program,aaa,hf,hn,hb,aaD,abf,aai]
theorem Aa.yB{P:Program}{ρ:CJ}{W:CW}{w:World}(h:Aa P w ρ W w)(x:Info){f:Nat→Value}{e e':TypeId}{c':Array Value}{fr:Nat×Nat}(hb:w.heap[x.b]?=some (.cells c' e' fr))(hn:c'.size=x.n')
  (hle:x.o+x.n≤x.n') (he:(P.info? e).map (·.size)=some x.sz) (hc:∀k,k<x.n→AS ρ (f k) (c'.getD (k+x.o) undef)) :
  FP W ρ (W.new (.fixed f x.n e)) (λi=>if i=W.sz then some x else ρ i)∧Aa P w (λi=>if i=W.sz then some x else ρ i) (W.new (.fixed f x.n e)) w:=by
 have Dy:Ext ρ (λi=>if i=W.sz then some x else ρ i):=λi y hy=>by
  have:=h.Wi i y hy;show(if i=W.sz then some x else ρ i)=some y;rw[aad (by omega)];exact hy
 have Ad:x.b<w.heap.size:=(aao.1 hb).1
 refine⟨⟨Dy,λi hi=>by show(if i=W.sz then some x else ρ i)=ρ i;rw[aad (by omega)],Nat.le_succ _⟩,?_,?_,?_,?_,h.below⟩
 ·intro i y hy;show i<W.sz+1
  by_cases e:i=W.sz
  ·omega
  ·have:ρ i=some y:=by simpa[e]using hy
   have:=h.Wi i y this;omega
 ·intro i u hu;show i<W.sz+1;simp only[CW.new,Tr.CI]at hu
  split at hu
  ·omega
  ·have:=h.top i u hu;omega
 ·intro i u y hu hd hy;simp only[CW.new,Tr.CI]at hu
  split at hu
  ·rename_i e0
   cases hu
   have hy:some x=some y:=by simpa[e0]using hy
   cases hy
   exact⟨_,hb,.fixed he hn hle λk hk=>(hc k hk).mono Dy,(λhm=>by cases hm),λ_=>Ad⟩
  ·rename_i e0;have hy:ρ i=some y:=by simpa[e0]using hy
   obtain⟨u',YT,hru,mb⟩:=h.live i u y hu hd hy;exact⟨u',YT,hru.mono Dy,mb⟩
 ·intro i j u v y z hu wY hv OD hy hz xG;simp only[CW.new,Tr.CI]at hu hv
  by_cases ei:i=W.sz
  ·simp only[aae ei,aam]at hu;subst hu;cases wY
  ·simp only[aad ei]at hu hy
   by_cases ej:j=W.sz
   ·simp only[aae ej,aam]at hv;subst hv;cases OD
   ·simp only[aad ej]at hv hz;exact h.inj i j u v y z hu wY hv OD hy hz xG
section
variable (P:Program)
def cU(mn:TypeId→Bool):List Field→Nat→Nat→Bool
 |[],off,total=>Nat.beq off total
 |f::fs,off,total=>Nat.beq f.offset off&&mn f.type&&cU mn fs (off+P.cellsOf f.type) total
def mn:Nat→TypeId→Bool
 |0,_=>false
 |n+1,t=>match P.underlying t with
  |some .bool=>true
  |some (.int _)=>true
  |some .string=>true
  |some (.slice e)=>(match EM P e with|some s=>Nat.blt 0 s|none=>false)&&mn n e
  |some (.struct fs)=>cU P (mn n) fs.toList 0 (P.cellsOf t)
  |some (.array k e)=>mn n e&&Nat.beq (P.cellsOf t) (k*P.cellsOf e)
  |_=>false
def CT:Nat→TypeId→CW→List Value→Prop
 |0=>λ_ _ _=>False
 |n+1=>λt W vs=>match P.underlying t with
  |some .bool=>∃b,vs=[.bool b]
  |some (.int k)=>∃x,vs=[.int k x]∧(Lit.int k x).wf=true
  |some .string=>∃s:ByteArray,vs=[.string s]∧s.size≤maxLen
  | some (.slice e)=>vs=[.slice none 0 0]∨vs=[.slice (some ⟨0,0,some 0⟩) 0 0]∨∃k len cap f,vs=[.slice (some ⟨k,0,none⟩) len cap]∧0<cap∧len≤cap∧cap≤maxLen∧
    W.obj k=some (.fixed f (len*P.cellsOf e) e)∧∀i,i<len→CT n e W (Fx f (P.cellsOf e) (i*P.cellsOf e))
  |some (.struct fs)=>vs.length=P.cellsOf t∧∀f,f∈fs.toList→CT n f.type W ((vs.drop f.offset).take (P.cellsOf f.type))
  |some (.array k e)=>vs.length=P.cellsOf t∧∀i,i<k→CT n e W ((vs.drop (i*P.cellsOf e)).take (P.cellsOf e))
  |_=>False
end
def fg(W W':CW):Prop:=∀i o,W.obj i=some o→W'.obj i=some o
theorem fg.refl(W:CW):fg W W:=λ_ _ h=>h
theorem fg.trans{W W1 W2:CW}(h:fg W W1)(k:fg W1 W2):fg W W2:=λi o e=>k i o (h i o e)
section
variable {P:Program}
theorem CT.mono{W W':CW}(hk:fg W W'):∀{n:Nat} {t:TypeId} {vs:List Value},CT P n t W vs→CT P n t W' vs:=by
 intro n
 induction n with
 |zero=>intro t vs h;exact h
 | succ n ih=>
  intro t vs h;simp only[CT]at h ⊢
  split at h<;>try exact h
  ·rcases h with h|h|⟨k,len,cap,f,h1,h2,h3,h4,h5,h6⟩
   ·exact .inl h
   ·exact .inr (.inl h)
   ·exact .inr (.inr ⟨k,len,cap,f,h1,h2,h3,h4,hk _ _ h5,λi hi=>ih (h6 i hi)⟩)
  ·exact⟨h.1,λf hf=>ih (h.2 f hf)⟩
  ·exact⟨h.1,λi hi=>ih (h.2 i hi)⟩
def Laid(P:Program)(w:World)(ρ:CJ)(W:CW)(cs:List Value)(Q:CW→List Value→Prop):Prop :=
 ∃vs ρ' W',FP W ρ W' ρ'∧fg W W'∧A4 ρ' vs cs∧Aa P w ρ' W' w∧Q W' vs
theorem jk{mn:TypeId→Bool}:∀{fs:List Field} {off total:Nat},cU P mn fs off total=true→off≤total∧∀f,f∈fs→off≤f.offset∧f.offset+P.cellsOf f.type≤total
 |[],off,total,h=>⟨Nat.le_of_eq (aac h),λf hf=>by cases hf⟩
 |g::fs,off,total,h=>by
  simp only[cU,aab]at h;have h1:=aac h.1.1;obtain⟨h2,h3⟩:=jk h.2;refine⟨by omega,λf hf=>?_⟩
  rcases aaJ.1 hf with rfl|hf
  ·omega
  ·have:=h3 f hf;omega
theorem Y0{w:World}{n:Nat}{ADm:TypeId→Bool}{cs:List Value}{total:Nat}(UZ:cs.length=total):∀(fs:List Field) (off:Nat),cU P ADm fs off total=true→
  (∀f,f∈fs→ADm f.type=true→∀ρ W,Aa P w ρ W w→Laid P w ρ W ((cs.drop f.offset).take (P.cellsOf f.type)) (CT P n f.type))→∀ρ W,Aa P w ρ W w→
  Laid P w ρ W (cs.drop off) λW' vs=>∀f,f∈fs→CT P n f.type W' ((vs.drop (f.offset-off)).take (P.cellsOf f.type))
 |[],off,h,_,ρ,W,hw=>by
  have:=aac h;have GY:cs.drop off=[]:=acJ (by omega);rw[GY];exact⟨[],ρ,W,.refl _,.refl _,.nil _,hw,λf hf=>by cases hf⟩
 | g::fs,off,h,hp,ρ,W,hw=>by
  simp only[cU,aab]at h;have h1:=aac h.1.1;obtain⟨h2,h3⟩:=jk h.2;obtain⟨v1,ρ1,W1,g1,k1,l1,w1,c1⟩:=hp g (by simp) h.1.2 ρ W hw;obtain⟨v2,ρ2,W2,g2,k2,l2,w2,c2⟩:=Y0 UZ fs _ h.2 (λf hf=>hp f (by simp[hf])) ρ1 W1 w1
  have Uo:v1.length=P.cellsOf g.type:=by
   have:=l1.1;simp only[aaE,abm]at this;omega
  refine⟨v1++v2,ρ2,W2,g1.trans g2,k1.trans k2,?_,w2,λf hf=>?_⟩
  ·have:=(l1.mono g2.ext).append l2;rw[h1,←acz,ab6]at this;exact this
  ·rcases aaJ.1 hf with rfl|hf
   ·rw[h1,abn,ab9,←Uo,List.take_left']
    ·exact c1.mono k2
    ·rfl
   ·have h4:=(h3 f hf).1;have:=c2 f hf;have e:f.offset-off=v1.length+(f.offset-(off+P.cellsOf g.type)):=by omega
    rw[e,←acz,List.drop_left];exact this
theorem fh{w:World}{n:Nat}{e:TypeId}{s:Nat}{cs:List Value}:∀(m i:Nat),(i+m)*s≤cs.length→
  (∀j,i≤j→j<i+m→∀ρ W,Aa P w ρ W w→Laid P w ρ W ((cs.drop (j*s)).take s) (CT P n e))→∀ρ W,Aa P w ρ W w→
  Laid P w ρ W ((cs.drop (i*s)).take (m*s)) λW' vs=>∀j,j<m→CT P n e W' ((vs.drop (j*s)).take s)
 |0,i,h,_,ρ,W,hw=>by
  rw[abe,acM];exact⟨[],ρ,W,.refl _,.refl _,.nil _,hw,λj hj=>by omega⟩
 | m+1,i,h,hp,ρ,W,hw=>by
  obtain⟨v1,ρ1,W1,g1,k1,l1,w1,c1⟩:=hp i (aag _) (by omega) ρ W hw;have hh:(i+1+m)*s≤cs.length:=by rw[show i+1+m=i+(m+1) by omega];exact h
  obtain⟨v2,ρ2,W2,g2,k2,l2,w2,c2⟩:=fh m (i+1) hh (λj h1 h2=>hp j (by omega) (by omega)) ρ1 W1 w1;have hm:(i+1)*s≤cs.length:=aa5 (aaZ _ (by omega)) h
  have Uo:v1.length=s:=by
   have:=l1.1;simp only[aaE,abm]at this;rw[abx,acD]at hm;omega
  refine⟨v1++v2,ρ2,W2,g1.trans g2,k1.trans k2,?_,w2,λj hj=>?_⟩
  ·have:=(l1.mono g2.ext).append l2
   have e:(cs.drop (i*s)).take ((m+1)*s)=(cs.drop (i*s)).take s++(cs.drop ((i+1)*s)).take (m*s):=by
    rw[abx i 1 s,acD,←acz,abx m 1 s,acD,ac3 (m*s) s,List.take_add]
   rw[e];exact this
  ·cases j with
   |zero=>
    rw[abe,ab9,←Uo,List.take_left']
    ·exact c1.mono k2
    ·rfl
   |succ j=>
    have:=c2 j (by omega);have e:(j+1)*s=v1.length+j*s:=by rw[abx,acD,Uo];omega
    rw[e,←acz,List.drop_left];exact this
theorem tj{e:TypeId}{s:Nat}(h:EM P e=some s):P.cellsOf e=s:=by
 unfold EM at h;simp[Program.cellsOf,h]
theorem cV{w:World}{a:Addr}{v:Value}(h:w.cell? a=some v):a.spot=none∧∃c e fr,w.heap[a.block]?=some (.cells c e fr)∧c[a.off]?=some v:=by
 unfold World.cell? at h
 split at h
 ·rename_i c e fr hb
  split at h
  ·cases h
  ·rename_i hs;exact⟨by simpa using hs,c,e,fr,hb,h⟩
 ·cases h
theorem place{H:Type}{enc:TypeId×Value→H}{w:World}{held:Bool}:∀(n:Nat) (t:TypeId) (fuel:Nat) (cs:List Value) (x:DataW H×List MemPlace),mn P n t=true→DataW.trod enc P w 0 (λ_=>true) held fuel t cs=some x→
  ∀ρ W,Aa P w ρ W w→Laid P w ρ W cs (CT P n t):=by
 intro n
 induction n with
 |zero=>intro t fuel cs x h;cases h
 | succ n ih=>
  intro t fuel cs x Al h ρ W hw;simp only[mn]at Al
  split at Al
  ·rename_i ht;obtain⟨b,rfl,_⟩:=DataW.trod_bool ht h;exact⟨[.bool b],ρ,W,.refl _,.refl _,.cons (.bool _) (.nil _),hw,by simp only[CT,ht];exact⟨b,rfl⟩⟩
  ·rename_i k ht;obtain⟨i,rfl,_,hwf⟩:=DataW.trod_int ht h;exact⟨[.int k i],ρ,W,.refl _,.refl _,.cons (.int _ _) (.nil _),hw,by simp only[CT,ht];exact⟨i,rfl,hwf⟩⟩
  ·rename_i ht;obtain⟨s,rfl,_,hl⟩:=DataW.trod_string ht h;exact⟨[.string s],ρ,W,.refl _,.refl _,.cons (.string _) (.nil _),hw,by simp only[CT,ht];exact⟨s,rfl,hl⟩⟩
  ·rename_i e ht;simp only[aab]at Al;obtain⟨h1,hoe⟩:=Al;split at h1
   rotate_left
   ·cases h1
   rename_i s hs;have cJ:0<s:=by have:=aaj h1;omega
   have UZ:=tj hs
   rcases DataW.trod_slice ht h with⟨rfl,_⟩|⟨a,len,cap,elems,rest,m,_,rfl,_,_,hlc,hcm,NG,yC,Y1,_⟩
   ·exact⟨[.slice none 0 0],ρ,W,.refl _,.refl _,.cons (.jA _ _) (.nil _),hw,by simp only[CT,ht];exact .inl trivial⟩
   ·obtain⟨WK,Y1⟩:=Y1 rfl;rw[UZ]at yC Y1
    by_cases qz:cap=0
    ·subst qz;have:len=0:=by omega
     subst this;exact⟨[.slice (some ⟨0,0,some 0⟩) 0 0],ρ,W,.refl _,.refl _,.cons (.KQ rfl) (.nil _),hw,by simp only[CT,ht];exact .inr (.inl trivial)⟩
    ·
     have reads:∀i,i<cap→∃l,w.cells? 0 (a.add (i*s)) s=some l∧(i<len→∃y,DataW.trod enc P w 0 (λ_=>true) held m e l=some y):=by
      intro i hi
      by_cases La:i<len
      ·have:=yC i La;rw[ck (by omega)]at this;obtain⟨l,hl,hy⟩:=acG.1 this;exact⟨l,hl,λ_=>⟨_,hy⟩⟩
      ·have:=Y1 (i-len) (by omega);rw[ck (by omega),show len+(i-len)=i by omega]at this;obtain⟨l,hl,hy⟩:=acG.1 this;exact⟨l,hl,λh=>absurd h La⟩
     have cell:∀i j,i<cap→j<s→∃v,w.cell? ((a.add (i*s)).add j)=some v:=by
      intro i j hi hj;obtain⟨l,hl,_⟩:=reads i hi;unfold World.cells? at hl;rw[aae (aa1 _)]at hl;have:=mapM_some_get hl j j (by simp[hj]);have hlen:=mapM_some_length hl;rw[List.length_range]at hlen;rw[ck (by omega)]at this;exact⟨_,this⟩
     obtain⟨v0,hv0⟩:=cell 0 0 (by omega) cJ;have oC:(a.add (0*s)).add 0=a:=by simp[Addr.add]
     rw[oC]at hv0;obtain⟨Js,c',e',fr,hb,_⟩:=cV hv0;obtain⟨ab,ao,asp⟩:=a;simp only at Js hb;subst Js
     have AHO:∀i j,((⟨ab,ao,none⟩:Addr).add i).add j=⟨ab,ao+(i+j),none⟩:=by
      intro i j;rw[OM,OM];congr 1;omega
     have AHP:∀k,k<cap*s→∃v,c'[ao+k]?=some v:=by
      intro k hk;have h1:k/s<cap:=Nat.div_lt_of_lt_mul (by rw[ace];exact hk);have h2:k%s<s:=ac8 _ cJ;obtain⟨v,hv⟩:=cell (k/s) (k%s) h1 h2;rw[AHO]at hv;have e:k/s*s+k%s=k:=by rw[ace];exact Nat.div_add_mod k s
      rw[e]at hv;obtain⟨_,c2,e2,f2,UY,OH⟩:=cV hv;simp only at UY OH;rw[hb]at UY;cases UY;exact⟨v,OH⟩
     have KB:ao+cap*s≤c'.size:=by
      have hp:0<cap*s:=Nat.mul_pos (by omega) cJ;obtain⟨v,hv⟩:=AHP (cap*s-1) (by omega);have:=(aao.1 hv).1;omega
     have hls:len*s≤cap*s:=aaZ _ hlc
     let C:List Value:=(List.range (len*s)).map λk=>c'.getD (ao+k) undef
     have hC:C.length=len*s:=by simp[C]
     have hCg:∀k,k<len*s→C[k]?=some (c'.getD (ao+k) undef):=λk hk=>by simp[C,hk]
     obtain⟨V,ρ1,W1,g1,k1,l1,w1,c1⟩:=fh (P:=P) (w:=w) (n:=n) (e:=e) (s:=s) (cs:=C) len 0 (by rw[hC,aaL];exact aag _) (λj _ hj ρ W hw=>by
      have hj:j<len:=by omega
      obtain⟨l,hl,hy⟩:=reads j (by omega);obtain⟨y,hy⟩:=hy hj
      have:(C.drop (j*s)).take s=l:=by
       unfold World.cells? at hl;rw[aae (aa1 _)]at hl;have hlen:=mapM_some_length hl;rw[List.length_range]at hlen;have hjs:(j+1)*s≤len*s:=aaZ _ hj;rw[abx,acD]at hjs;apply aaN;intro i
       by_cases hi:i<s
       ·have h1:=mapM_some_get hl i i (by simp[hi]);rw[AHO]at h1;rw[aaW,aae hi,abq,hCg _ (by omega),←h1];unfold World.cell?;simp only[hb];have:ao+(j*s+i)<c'.size:=by omega
        simp[Array.getD,this]
       ·rw[aaW,aad hi,aa0 (by omega)]
      rw[this]
      exact ih e m l y hoe hy ρ W hw) ρ W hw
     have AHQ:(C.drop (0*s)).take (len*s)=C:=by
      rw[abe,ab9,abO (by omega)]
     rw[AHQ]at l1;have hV:V.length=len*s:=by rw[l1.1,hC]
     obtain⟨g2,w2⟩:=w1.yB (e:=e) (f:=λk=>V.getD k undef) ⟨ab,ao,s,len*s,c'.size⟩ hb rfl (by show ao+len*s≤c'.size;omega) (by exact hs) (λk hk=>by
      have hk:k<len*s:=hk;have:=l1.2 k (by omega);rw[aah (l:=C),hCg k hk]at this;show AS ρ1 (V.getD k undef) (c'.getD (k+ao) undef)
      rw[ac3 k ao];exact this)
     have AC1:fg W1 (W1.new (.fixed (λk=>V.getD k undef) (len*s) e)):=λi o ho=>by
      have:=w1.top i o ho;simp only[CW.obj,CW.new,Tr.CI];rw[aad (by omega)];exact ho
     refine⟨[.slice (some ⟨W1.sz,0,none⟩) len cap],_,_,g1.trans g2,k1.trans AC1,.cons (.slice _ ⟨rfl,⟨ab,ao,s,len*s,c'.size⟩,by simp,by simp⟩ (.inl rfl)) (.nil _),w2,?_⟩;simp only[CT,ht];refine .inr (.inr ⟨W1.sz,len,cap,λk=>V.getD k undef,rfl,by omega,hlc,hcm,by simp[CW.obj,CW.new,Tr.CI,UZ],λi hi=>?_⟩);rw[UZ]
     have AHR:Fx (λk=>V.getD k undef) s (i*s)=(V.drop (i*s)).take s:=by
      have his:(i+1)*s≤len*s:=aaZ _ hi;rw[abx,acD]at his;apply aaN;intro j
      by_cases hj:j<s
      ·rw[aaW,aae hj,abq];have h1:=ON (λk=>V.getD k undef) s (i*s) j hj;rw[aah,ck (by rw[FW];exact hj),aaX]at h1;rw[ck (by rw[FW];exact hj),h1,ck (by omega)];simp[aah,show i*s+j<V.length by omega]
      ·rw[aa0 (by rw[FW];omega),aaW,aad hj]
     rw[AHR];exact(c1 i hi).mono AC1
  ·rename_i fs ht;obtain⟨xs,m,_,_,hl,hxl,hf⟩:=DataW.trod_struct ht h
   obtain⟨vs,ρ1,W1,g1,k1,l1,w1,c1⟩:=Y0 (P:=P) (w:=w) (n:=n) (ADm:=mn P n) (cs:=cs) hl fs.toList 0 Al (λf mi hof ρ W hw=>by
    obtain⟨i,hi,he⟩:=abQ mi;have LB:i<fs.size:=by simpa using hi
    have:=hf i f (by rw[←he];simp[LB]);rw[ck (by omega)]at this
    exact ih f.type m _ _ hof this ρ W hw) ρ W hw
   rw[ab9]at l1;refine⟨vs,ρ1,W1,g1,k1,l1,w1,?_⟩;simp only[CT,ht];exact⟨by rw[l1.1];exact hl,λf hf=>by have:=c1 f hf;simpa using this⟩
  ·rename_i k e ht;simp only[aab]at Al;have ADn:=aac Al.2;obtain⟨xs,m,_,_,hl,hxl,hf⟩:=DataW.trod_array ht h
   obtain⟨vs,ρ1,W1,g1,k1,l1,w1,c1⟩:=fh (P:=P) (w:=w) (n:=n) (e:=e) (s:=P.cellsOf e) (cs:=cs) k 0 (by rw[hl,ADn,aaL];exact aag _) (λj _ hj ρ W hw=>by
    have:=hf j (by omega);rw[ck (by omega)]at this
    exact ih e m _ _ Al.1 this ρ W hw) ρ W hw
   rw[abe,ab9,abO (by rw[hl,ADn];exact aag _)]at l1;refine⟨vs,ρ1,W1,g1,k1,l1,w1,?_⟩;simp only[CT,ht];exact⟨by rw[l1.1];exact hl,λi hi=>c1 i hi⟩
  ·cases Al
end
end Go.Ce
namespace Go.Ce
open Go.RowKit Go.ChangeShapes Go.WideShapes
section
variable {P:Program}
def UO(P:Program)(t:TypeId)(cs:List Value):Value :=
 match P.underlying t with
 |some (.struct _)=>.agg cs.toArray
 |some (.array _ _)=>.agg cs.toArray
 |_=>cs.getD 0 undef
def CTs(P:Program):List TypeId→CW→List Value→Prop
 |[],_,[]=>True
 |t::ts,W,v::vs=>(∃cs,v=UO P t cs∧CT P 20 t W cs)∧CTs P ts W vs
 |_,_,_=>False
theorem yD{ρ:CJ}{w:World}{t:TypeId}{v:Value}{vs:List Value}(Al:mn P 20 t=true){base:Nat}(Ir:Value.okWide P w .any base t v)(h:A4 ρ vs v.cells.toList):AS ρ (UO P t vs) v:=by
 unfold UO;unfold mn at Al;unfold Value.okWide at Ir
 have one:v.cells=#[v]→AS ρ (vs.getD 0 undef) v:=λe=>by
  rw[e]at h;have:=h.2 0 (by rw[h.1];simp)
  simpa using this
 split at Al<;>(try (rename_i ht;rw[ht]at Ir ⊢;simp only at Ir ⊢))
 ·refine one ?_;unfold Cell.okWide Cell.ok at Ir;rw[ht]at Ir
  cases v<;>first|rfl|(simp at Ir;done)
 ·refine one ?_;unfold Cell.okWide Cell.ok at Ir;rw[ht]at Ir
  cases v<;>first|rfl|(simp at Ir;done)
 ·refine one ?_;unfold Cell.okWide Cell.ok at Ir;rw[ht]at Ir
  cases v<;>first|rfl|(simp at Ir;done)
 ·refine one ?_;unfold Cell.okWide Cell.ok at Ir;rw[ht]at Ir
  cases v<;>first|rfl|(simp at Ir;done)
 ·obtain⟨cs,rfl,_⟩:=Ir;have h:A4 ρ vs cs.toList:=h;exact .jB (by simpa using h)
 ·obtain⟨cs,rfl,_⟩:=Ir;have h:A4 ρ vs cs.toList:=h;exact .jB (by simpa using h)
 ·cases Al
theorem cW{H:Type}{enc:TypeId×Value→H}{w:World}{held:Bool}{base:Nat}:∀{ts:List TypeId} {args:List Value} {ds:List (DataW H)} {ps:List MemPlace},(∀t,t∈ts→mn P 20 t=true)→DataW.TrodAll enc P w 0 (λ_=>true) held ts args ds ps→
  (∀(j:Nat) t v,ts[j]?=some t→args[j]?=some v→Value.okWide P w .any base t v)→∀ρ W,Aa P w ρ W w→Laid P w ρ W args (CTs P ts)
 |[],args,ds,ps,_,h,_,ρ,W,hw=>by
  obtain⟨rfl,rfl,rfl⟩:=trodAll_nil h;exact⟨[],ρ,W,.refl _,.refl _,.nil _,hw,trivial⟩
 |t::ts,args,ds,ps,Al,h,Ir,ρ,W,hw=>by
  obtain⟨v,vs,d,EK,p,q,rfl,rfl,rfl,h1,h2⟩:=trodAll_cons h;obtain⟨fuel,h1⟩:=h1;obtain⟨v1,ρ1,W1,g1,k1,l1,w1,c1⟩:=place 20 t fuel _ _ (Al t (by simp)) h1 ρ W hw;have hv:=yD (Al t (by simp)) (Ir 0 t v rfl rfl) l1;obtain⟨v2,ρ2,W2,g2,k2,l2,w2,c2⟩:=cW (λt ht=>Al t (by simp[ht])) h2 (λj t v hj hv=>Ir (j+1) t v (by simpa using hj) (by simpa using hv)) ρ1 W1 w1;exact⟨UO P t v1::v2,ρ2,W2,g1.trans g2,k1.trans k2,.cons (hv.mono g2.ext) l2,w2,⟨⟨v1,rfl,c1.mono k2⟩,c2⟩⟩
theorem MG{H:Type}{enc:TypeId×Value→H}{W W':World}{sp':Nat→Bool}(hl:laidOutB P=true):∀{ts:List TypeId} {args:List Value} {ds:List (DataW H)} {ps:List MemPlace},(∀t,t∈ts→P.readableRec t=true∧t<P.types.size)→
  DataW.TrodAll enc P W 0 (λ_=>true) true ts args ds ps→(∀p∈ps,W.sameAt W' p)→(∀p∈ps,sp' p.block=true)→DataW.TrodAll enc P W' 0 sp' true ts args ds ps
 |[],args,ds,ps,_,h,_,_=>by
  obtain⟨rfl,rfl,rfl⟩:=trodAll_nil h;exact rfl
 | t::ts,args,ds,ps,M5,h,hs,hp=>by
  obtain⟨v,vs,d,EK,p,q,rfl,rfl,rfl,h1,h2⟩:=trodAll_cons h
  exact⟨p,q,WideElems.Trod_stays hl (M5 t (by simp)).1 (M5 t (by simp)).2 h1 (λx hx=>hs x (by simp[hx])) (λx hx=>hp x (by simp[hx])),
   MG hl (λt ht=>M5 t (by simp[ht])) h2 (λx hx=>hs x (by simp[hx])) (λx hx=>hp x (by simp[hx])),rfl⟩
theorem Oc{H:Type}{enc:TypeId×Value→H}{W:World}{sp:Nat→Bool}{held:Bool}:∀{ts:List TypeId} {args:List Value} {ds:List (DataW H)} {ps:List MemPlace},DataW.TrodAll enc P W 0 sp held ts args ds ps→ds.length=ts.length
 |[],args,ds,ps,h=>by
  obtain⟨rfl,rfl,rfl⟩:=trodAll_nil h;rfl
 |t::ts,args,ds,ps,h=>by
  obtain⟨v,vs,d,EK,p,q,rfl,rfl,rfl,h1,h2⟩:=trodAll_cons h;simp[Oc h2]
theorem yE(hl:laidOutB P=true){F:FuncId}{fn:Func}{s:ChangeSpec}{apart fresh handsOn again:Bool}(jl:s.vars=[])
  (jm:∀(H:Type) (ds:List (DataW H)),ds.length=fn.params.size→s.fn H ds={results:=[.lit (.bool true)],args:=ds})
  (M5:∀t,t∈fn.params.toList→P.readableRec t=true∧t<P.types.size) {tb:TypeId} (MW:fn.resultTypes=#[tb]) (hb:P.underlying tb=some .bool)
  {H:Type} {enc:TypeId×Value→H} {W:World} {args:Array Value} {ds gs:List (DataW H)} {before:List MemPlace} (hW:DataW.Whole enc P fn.params.toList s.vars apart W args.toList ds gs before)
  (hc:Calls P F args W λe w'=>e=.returned (.bool true)∧Below W.heap.size W w') :
  Calls P F args W λe W'=>∃v,e=.returned v∧s.post enc P fn apart fresh handsOn again W args v W':=by
 have hW':=hW;obtain⟨p,q,hA,hV,rfl,hfz,WG⟩:=hW;rw[jl]at hV;obtain⟨rfl,rfl⟩:=trodVars_none hV;refine hc.mono λe w' hE=>?_;obtain⟨rfl,tf⟩:=hE;refine⟨_,rfl,ds,[],p++[],[],p,[],hW',?_,?_,?_,?_,λ_=>?_⟩
 all_goals have hlen:ds.length=fn.params.size:=by simpa using Oc hA
 all_goals simp only[abl]at hW' hfz WG ⊢
 ·rw[jm H ds hlen,MW];exact trodAll_cons_mk (shut_bool hb true) trodAll_mk0
 ·rw[jm H ds hlen];have Ad:=hW'.lt;exact MG hl M5 hA (λx hx=>tf.same (Ad x hx)) (λx hx=>by simpa using Ad x hx)
 ·rw[jm H ds hlen,jl];exact rfl
 ·exact tf.frame _
 ·have Ad:=hW'.lt
  refine⟨ok_one MW rfl (Go.RowKit.okWide_bool_mk hb _),[.lit (.bool true)]++ds,[],[]++p++[],⟨[]++p,[],trodAll_append (MG (sp':=λ_=>true) hl M5 hA (λx hx=>tf.same (Ad x hx)) (λ_ _=>rfl)) (by rw[MW];exact trodAll_cons_mk (shut_bool hb true) trodAll_mk0),by rw[jl];exact rfl,rfl,?_,?_⟩,?_⟩
  ·intro b off hp;have hp:MemPlace.cell b off∈p:=by simpa using hp
   rw[tf.frozen (p:=⟨b,off,none⟩) (Ad _ hp)];exact hfz b off hp
  ·intro ha;simpa using WG ha
  ·intro x hx _;simpa using hx
noncomputable def EL(P:Program)(L:List FuncId):Nat→Dl:=evB P (λu v=>@decide (u=v) (Classical.propDecidable _)) L
theorem ABQ{w0:World}(hz:ZP P)(QA:P.follows .mixedOrders=true)(bc:EN P){L:List FuncId}(Yw:CK P L)(n:Nat):Yr P w0 n (EL P L n):=fb (λu v h=>@of_decide_eq_true _ (Classical.propDecidable _) h) hz QA bc Yw n
theorem tF(hz:ZP P)(QA:P.follows .mixedOrders=true)(bc:EN P){L:List FuncId}(Yw:CK P L)(hl:laidOutB P=true){F:FuncId}{fn:Func}{s:ChangeSpec}{apart fresh handsOn again:Bool}(jl:s.vars=[])
  (jm:∀(H:Type) (ds:List (DataW H)),ds.length=fn.params.size→s.fn H ds={results:=[.lit (.bool true)],args:=ds})
  (M5:(fn.params.toList.all λt=>P.readableRec t&&mn P 20 t&&decide (t<P.types.size))=true) {tb:TypeId} (MW:fn.resultTypes=#[tb]) (hb:P.underlying tb=some .bool)
  (J4:∀(vs:List Value) (W:CW),CTs P fn.params.toList W vs→(∀i o,W.obj i=some o→i<W.sz)→∃n,eu ((EL P L n).call F vs W)=true)
  {H:Type} {enc:TypeId×Value→H} (W:World) (base:Nat) (args:Array Value) (ds gs:List (DataW H)) (before:List MemPlace)
  (Ir:∀(j:Nat) t v,fn.params[j]?=some t→args[j]?=some v→Value.okWide P W .any base t v) (hW:DataW.Whole enc P fn.params.toList s.vars apart W args.toList ds gs before) :
  Calls P F args W λe W'=>∃v,e=.returned v∧s.post enc P fn apart fresh handsOn again W args v W':=by
 have ADo:∀t,t∈fn.params.toList→P.readableRec t=true∧mn P 20 t=true∧t<P.types.size:=λt ht=>by
  have:=aax.1 M5 t ht;simp only[aab,decide_eq_true_eq]at this;exact⟨this.1.1,this.1.2,this.2⟩
 refine yE hl jl jm (λt ht=>⟨(ADo t ht).1,(ADo t ht).2.2⟩) MW hb hW ?_;obtain⟨p,q,hA,_,_,_,_⟩:=hW;have hw:Aa P W (λ_=>none) (W0 0) W:=⟨(λi x hx=>by cases hx),(λi o ho=>by cases ho),(λi o x ho=>by cases ho),(λi j o u x y ho=>by cases ho),Below.AC0 W⟩
 obtain⟨vs,ρ,W1,_,_,hvs,Fi,hct⟩:=cW (λt ht=>(ADo t ht).2.1) hA (λj t v hj hv=>Ir j t v (by simpa using hj) (by simpa using hv)) _ _ hw;obtain⟨n,hn⟩:=J4 vs W1 hct (λi o ho=>Fi.top i o ho)
 cases ho:(EL P L n).call F vs W1 with
 |none=>rw[ho]at hn;cases hn
 | some outs=>
  rw[ho]at hn;obtain⟨_,hc⟩:=(ABQ (w0:=W) hz QA bc Yw n).call ho hvs Fi;refine bX ((hc 0).mono λe w' hE=>?_);obtain⟨e0,W2,ρ2,hm,_,hN,Hl⟩:=hE;have:=aax.1 hn _ hm;simp only at this
  cases hN with
  |panicked _=>cases this
  | returned hv=>
   split at this
   ·rename_i heq
    cases heq
    cases hv
    exact⟨rfl,Hl.below⟩
   ·cases this
end
end Go.Ce
namespace Go.Ce
abbrev Env:=Nat→Value
def Env.put(e:Env)(d:Option Tmp)(v:Value):Env:=match d with
 |some d=>λt=>cond (Nat.beq t d) v (e t)
 |none=>e
def Env.ev(e:Env):Operand→Value
 | .tmp t=>e t
 | .const v=>v
 | .global _=>.complex .f32 0 0
 | .func f=>.func (.func f) #[] #[]
def wV{α:Type}(x:Option α)(K:α→Prop):Prop:=match x with
 |some v=>K v
 |none=>False
def KE(x:Option (Value×CW))(K:Value→CW→Prop):Prop:=match x with
 |some (v,W)=>K v W
 |none=>False
def wI(v:Value)(X Y:Prop):Prop:=match v with
 | .bool true=>X
 | .bool false=>Y
 |v=>∃b,v=.bool b∧(b=true→X)∧(b=false→Y)
section
variable (P:Program)
def ld(t:TypeId)(v:Value)(W:CW):Option Value:=match v with
 | .pointer (some a)=>MO P t a W
 |_=>none
def M6(t:TypeId)(a v:Value)(W:CW):Option CW:=match a with
 | .pointer (some a)=>L7 P t a v W
 |_=>none
def rG(t:TypeId)(W:CW):Option (Value×CW):=match Is P t with
 |some z=>match EM P t with
  |some _=>some (.pointer (some ⟨W.sz,0,none⟩),W.new (.cells .nil z.cells.size z.cells t))
  |none=>none
 |none=>none
def bxw(t:TypeId)(v:Value)(W:CW):Option (Value×CW):=match EM P t with
 |some _=>some (W_ t v W)
 |none=>none
def pck(c a b:Value):Option Value:=match c with
 | .bool b0=>some (cond b0 a b)
 |_=>none
def wu(t:TypeId)(parts:List (Nat×Value)):Option Value:=match Is P t,P.underlying t with
 |some z,some (.struct fields)=>match fields.toList.mapM λf=>(EM P f.type).map λs=>(f.offset,s)with
  |some RA=>(Instr.fill (RA[·]?) z.cells parts).map .agg
  |none=>none
 |some z,some (.array _ elem)=>match EM P elem with
  |some s=>(Instr.fill (λi=>some (i*s,s)) z.cells parts).map .agg
  |none=>none
 |_,_=>none
def tk(t:TypeId)(len:Nat)(parts:List (Nat×Value))(W:CW):Option (Value×CW):=match P.underlying t with
 | some (.slice elem)=>DI (EM P elem) λs=>DI (Is P elem) λz=>
  cond (Nat.ble (len*s) 65536&&Nat.beq z.cells.size s) (match Instr.fill (λi=>some (i*s,s)) ((Bj .nil z.cells (len*s) 0).toArray) parts with
   |some cs=>some (.slice (some ⟨W.sz,0,none⟩) len len,W.new (.cells (Tr.nil.AW 0 cs.toList) cs.size #[] elem))
   |none=>none) none
 |_=>none
def nck(x:Value):Option Value:=match x with
 | .pointer (some a)=>some (.pointer (some a))
 | .iface t v=>some (.iface t v)
 | .func (.func f) a b=>some (.func (.func f) a b)
 | .func (.yield f) a b=>some (.func (.yield f) a b)
 |_=>none
def ngt(x:Value):Option Value:=match x with| .bool b=>some (.bool (!b))|_=>none
def neg(x:Value):Option Value:=match x with| .int k n=>some (.int k (k.wrap (0-n)))|_=>none
def jn(s d:TypeId)(x:Value):Option Value:=match P.underlying s,P.underlying d,x with
 |some _,some (.int k),.int _ n=>some (.int k (k.wrap n))
 |some _,some .string,.string s=>some (.string s)
 |_,_,_=>none
def cvb(s d:TypeId)(x:Value)(W:CW):Option Value:=match P.underlying s,P.underlying d,x with
 |some (.slice _),some .string,.string s=>some (.string s)
 |some (.slice el),some .string,x=>xE P el x W
 |_,_,_=>none
def cvs(s d:TypeId)(x:Value)(W:CW):Option (Value×CW):=match P.underlying s,P.underlying d,x with
 |some .string,some (.slice el),.string s=>ABC P el s W
 |_,_,_=>none
def mki(t:TypeId)(x:Value):Option Value:=match P.underlying t with|some (.interface _)|none=>none|_=>some (.iface t x)
def mks(t:TypeId)(l c:Value)(W:CW):Option (Value×CW):=match P.underlying t,l,c with
 | some (.slice elem),.int _ l,.int _ c=>DI (EM P elem) λs=>DI (Is P elem) λz=>
  cond (decide (0≤l)&&decide (l≤c)&&decide (c≤2000000)&&Nat.ble ((P.info? elem).map (·.bytes)|>.getD 0) 1024&&Nat.beq z.cells.size s&&Nat.blt 0 s)
   (some (.slice (some ⟨W.sz,0,none⟩) l.toNat c.toNat,W.new (.cells .nil (c.toNat*s) z.cells elem))) none
 |_,_,_=>none
def N'(t:TypeId)(x:Value)(lo hi mx:Option Value)(W:CW):Option Value:=match P.underlying t,x with
 |some .string,.string s=>DI (bound hi s.size s.size) λh=>DI (bound lo 0 h) λl=>cond mx.isSome none (some (.string (s.extract l h)))
 |_,x=>JD P W t x lo hi mx
def Uq(s:TypeId)(x:Value)(f:Nat):Option Value:=match P.underlying s,x with
 | some (.struct fs),.pointer (some a)=>match fs[f]? with
  |some fd=>match EM P fd.type with
   |some m=>cond (Nat.beq m 0) none (some (.pointer (some ⟨a.block,a.off+fd.offset,none⟩)))
   |none=>none
  |none=>none
 |_,_=>none
def fld(t:TypeId)(x:Value)(f:Nat):Option Value:=match P.underlying t,x with
 | some (.struct fs),.agg cs=>match fs[f]? with
  |some fd=>match agg? P fd.type,EM P fd.type with
   |some true,some m=>some (.agg (cs.extract fd.offset (fd.offset+m)))
   |some false,_=>cs[fd.offset]?
   |_,_=>none
  |none=>none
 |_,_=>none
def UK(t:TypeId)(x ix:Value):Option Value:=match ix with
 | .int _ i=>match P.underlying t,x with
  |some (.array len elem),.pointer (some a)=>DI (EM P elem) λs=>cond (decide (0≤i)&&decide (i<len)) (some (.pointer (some ⟨a.block,a.off+i.toNat*s,none⟩))) none
  |some (.slice elem),.slice (some a) len _=>DI (EM P elem) λs=>cond (decide (0≤i)&&decide (i<len)) (some (.pointer (some ⟨a.block,a.off+i.toNat*s,none⟩))) none
  |_,_=>none
 |_=>none
def idx(t:TypeId)(x ix:Value):Option Value:=match ix with
 | .int _ i=>match P.underlying t,x with
  |some (.array len elem),.agg cs=>cond (decide (0≤i)&&decide (i<len)) (match agg? P elem,EM P elem with
   |some true,some m=>some (.agg (cs.extract (i.toNat*m) (i.toNat*m+m)))
   |some false,some m=>cs[i.toNat*m]?
   |_,_=>none) none
  |some .string,.string s=>cond (decide (0≤i)) ((s[i.toNat]?).map λb=>.int .u8 b.toNat) none
  |_,_=>none
 |_=>none
def Y2(t:TypeId)(m k:Value)(ok:Bool)(W:CW):Option Value:=match P.underlying t,m with
 | some (.map kt elem),m=>DI (Is P elem) λz=>DI (match m with
   | .map none=>some []
   | .map (some r)=>match W.obj r with|some (.map es _)=>some es|_=>none
   |_=>none) λes=>DI (QJ P kt k es) λr=>match r with
    |some (_,x)=>some (cond ok (.tuple #[x,.bool true]) x)
    |none=>some (cond ok (.tuple #[z,.bool false]) z)
 |_,_=>none
def rH(t:TypeId)(m k x:Value)(W:CW):Option CW:=match P.underlying t,m with
 | some (.map kt _),.map (some r)=>match W.obj r with
  |some (.map es Fz)=>DI (QJ P kt k es) λf=>match f with
   |some (i,_)=>some (W.Ba r (.map (Lf x k i es) Fz))
   |none=>some (W.Ba r (.map (es++[{key:=k,val:=x,born:=Fz}]) (Fz+1)))
  |_=>none
 |_,_=>none
def rng(t:TypeId)(x:Value)(W:CW):Option (Value×CW):=match P.underlying t,x with
 |some (.map _ _),.map none=>some (.pointer (some ⟨W.sz,0,none⟩),W.new (.iter none 0 [] 0))
 |some (.map _ _),.map (some r)=>match W.obj r with
  |some (.map _ Fz)=>some (.pointer (some ⟨W.sz,0,none⟩),W.new (.iter (some r) Fz [] Fz))
  |_=>none
 |_,_=>none
def nxt(x:Value)(W:CW):Option (List (B_×CW)):=match x with
 | .pointer (some a)=>cond (!Nat.beq a.off 0) none<|match W.obj a.block with
  |some (.iter none _ _ _)=>some [(.value (.tuple #[.bool false]),W)]
  | some (.iter (some r) since seen last)=>match W.obj r with
   | some (.map es Fz)=>
    cond (!seen.isEmpty&& !es.isEmpty&&es.all λe=>!(e.born<last)) none
     (some ((Vv es since seen).map λc=>match c with
      |some en=>(.value (.tuple #[.bool true,en.key,en.val]),W.Ba a.block (.iter (some r) since (seen++[en.born]) Fz))
      |none=>(.value (.tuple #[.bool false]),W)))
   |_=>none
  |_=>none
 |_=>none
def ent(x:Value)(W:CW):Option Value:=match x with
 | .pointer (some a)=>cond (!Nat.beq a.off 0) none<|match W.obj a.block with
  |some (.iter (some r) _ seen XA)=>match seen.getLast?,W.obj r with
   |some st,some (.map es Fz)=>cond (Nat.beq Fz XA) ((es.find? λe=>Nat.beq e.born st).map λe=>.tuple #[e.key,e.val]) none
   |_,_=>none
  |_=>none
 |_=>none
def tas(t:TypeId)(x:Value)(ok:Bool):Option Value:=match P.underlying t,x with
 |some (.interface _),_=>none
 |some _,.iface u y=>cond (Nat.beq t u) (some (cond ok (.tuple #[y,.bool true]) y)) (cond ok ((Is P t).map λz=>.tuple #[z,.bool false]) none)
 |_,_=>none
def ext(x:Value)(i:Nat):Option Value:=match x with
 | .tuple vs=>vs[i]?
 |_=>none
def app(ts:List TypeId)(s x:Value)(W:CW):Option (Value×CW):=match ts with
 |t::u::_=>cond (II P u) (Fy P t s x W) none
 |_=>none
def tp(o:Oper)(e:Operand→Value):Option Value:=match o.op with
 | .move x| .assign x=>some (e x)
 | .pick c a b=>pck (e c) (e a) (e b)
 | .build t parts=>wu P t (parts.toList.map λ(i,x)=>(i,e x))
 | .nilCheck x=>nck (e x)
 | .binOp op t x y _=>DL P op t (isConst x||isConst y) (e x) (e y)
 | .unOp .not _ x=>ngt (e x)
 | .unOp .neg _ x=>neg (e x)
 | .convert s d x=>jn P s d (e x)
 | .makeInterface t x=>mki P t (e x)
 | .makeFunc fn first cap=>some (.func fn (first.map e) (cap.map e))
 | .fieldAddr s x f=>Uq P s (e x) f
 | .field t x f=>fld P t (e x) f
 | .indexAddr t x ix=>UK P t (e x) (e ix)
 | .index t x ix=>idx P t (e x) (e ix)
 | .typeAssert x _ t ok=>tas P t (e x) ok
 | .extract x i=>ext (e x) i
 |_=>none
def mo(o:Oper)(e:Operand→Value)(W:CW):Option Value:=match o.op with
 | .load t a=>ld P t (e a) W
 | .slice t x lo hi mx=>N' P t (e x) (lo.map e) (hi.map e) (mx.map e) W
 | .lookup t x k ok=>Y2 P t (e x) (e k) ok W
 | .entry it=>ent (e it) W
 | .convert s d x=>cvb P s d (e x) W
 | .call c=>match c.argTypes.toList,c.args.toList.map e with
  |t::_,[x]=>It P t x W
  |_,_=>none
 |_=>none
def blt(b:Builtin)(ts:List TypeId)(as:List Value)(W:CW):Option (Value×CW):=match K_ P b ts as W with
 |some (.value v,W)=>some (v,W)
 |_=>none
def alB(b:Builtin)(ts:List TypeId)(as:List Value)(W:CW):Option (Value×CW):=match b with
 | .append=>match as with
  |[s,x]=>app P ts s x W
  |_=>none
 |b=>blt P b ts as W
def alO(o:Oper)(e:Operand→Value)(W:CW):Option (Value×CW):=match o.op with
 | .alloc t=>rG P t W
 | .box t x=>bxw P t (e x) W
 | .buildSlice t len parts=>tk P t len (parts.toList.map λ(i,x)=>(i,e x)) W
 | .makeMap _ none=>some (.map (some W.sz),W.new (.map [] 0))
 | .makeSlice t l c=>mks P t (e l) (e c) W
 | .range t x=>rng P t (e x) W
 | .convert s d x=>cvs P s d (e x) W
 | .call c=>match c.callee with
  | .builtin b=>alB P b c.argTypes.toList (c.args.toList.map e) W
  |_=>none
 |_=>none
def stO(o:Oper)(e:Operand→Value)(W:CW):Option CW:=match o.op with
 | .store t a x=>M6 P t (e a) (e x) W
 | .mapUpdate t m k x| .insert t m k x=>rH P t (e m) (e k) (e x) W
 |_=>none
noncomputable section
variable (L:List FuncId)
def Ac(f:FuncId)(args:List Value)(W:CW)(Q:Ending→CW→Prop):Prop:=∃n o,(EL P L n).call f args W=some [o]∧Q o.1 o.2
def LD(l:Nat)(args:List Value)(W:CW)(Q:Ending→CW→Prop):Prop:=∃n o,(EL P L n).round l args W=some [o]∧Q o.1 o.2
def yF(ro:Option Nat)(fn:FuncId)(c:Code)(a:AN)(W:CW)(Q:Exit→AN→CW→Prop):Prop:=∃n o,(EL P L n).code ro fn c a W=some [o]∧Q o.1 o.2.1 o.2.2
def Di(K:Value→CW→Prop)(KP:List PanicEntry→CW→Prop):Ending→CW→Prop
 | .returned v,W=>K v W
 | .panicked ch,W=>KP ch W
 |_,_=>False
def GI(v:Value)(args:List Value)(W:CW)(K:Value→CW→Prop)(KP:List PanicEntry→CW→Prop):Prop:=match KA v args with
 |some (.enter f as)=>match Lg P f as W with
  |some (v,W1)=>K v W1
  |none=>Ac P L f as W (Di K KP)
 |some (.round l as)=>LD P L l as W (Di K KP)
 |_=>False
def PQ(o:Oper):Bool:=match o.op with
 | .store .. | .mapUpdate .. | .insert ..=>true
 |_=>false
def wOp(o:Oper)(e:Operand→Value)(W:CW)(KV:Value→CW→Prop)(KS:CW→Prop)(KD:Deferred→CW→Prop)(KP:List PanicEntry→CW→Prop):Prop :=
 cond (Dv P o) (wV (tp P o e) λv=>KV v W)<|cond (EP P o) (wV (mo P o e W) λv=>KV v W)<|cond (PQ o) (wV (stO P o e W) KS)<|
 match o.op with
 | .call c=>match c.callee with
  | .value f=>GI P L (e f) (c.args.toList.map e) W KV KP
  | .builtin _=>KE (alO P o e W) KV
  |_=>False
 | .panic x=>match e x with
  | .iface t y=>KP [{v:=.iface t y,recovered:=false}] W
  |_=>False
 | .defer c=>match c.callee with
  | .value f=>match e f with
   | .func (.func g) first cap=>KD {target:=.fn (.func g) cap,args:=first++c.args.map e} W
   |_=>False
  |_=>False
 |_=>KE (alO P o e W) KV
end
end
section
variable {P:Program}{L:List FuncId}{o:Oper}{e:Operand→Value}{W:CW}
def vL(x:Option Value)(W:CW):Option (List (B_×CW)):=match x with
 |some v=>some [(.value v,W)]
 |none=>none
def vwL(x:Option (Value×CW)):Option (List (B_×CW)):=match x with
 |some (v,W)=>some [(.value v,W)]
 |none=>none
def swL(x:Option CW):Option (List (B_×CW)):=match x with
 |some W=>some [(.skip,W)]
 |none=>none
theorem Y3(h:Dv P o=true):Bm P o e W=vL (tp P o e) W:=by
 unfold Dv at h;split at h
 case h_17=>cases h
 case h_7 u t x ho=>
  cases u<;>simp only[Bm,tp,ho,ngt,neg]<;>first|rfl|(split<;>rfl)|skip
 case h_16 s d x ho=>
  simp only[aab]at h;obtain⟨h1,h2⟩:=h;simp only[Bm,tp,ho,jn]
  cases hs:P.underlying s with
  |none=>rfl
  | some us=>
   cases hd:P.underlying d with
   |none=>rfl
   | some ud=>
    rw[hs]at h1;rw[hd]at h2
    cases us<;>first|(cases h1;done)|skip
    all_goals
     cases ud<;>first|(cases h2;done)|(cases e x<;>rfl)
 all_goals
  rename_i ho;simp only[Bm,tp,ho]
  first
   |rfl
   |(simp only[pck];generalize e _=x;cases x<;>rfl)
theorem Od(h:EP P o=true):Bm P o e W=vL (mo P o e W) W:=by
 unfold EP at h;split at h
 case h_7=>cases h
 case h_5 c ho=>
  split at h
  ·rename_i hc;simp only[Bm,mo,ho,hc]
   cases c.argTypes.toList with
   |nil=>rfl
   | cons t ts=>
    cases c.args.toList.map e with
    |nil=>rfl
    | cons x xs=>
     cases xs with
     |nil=>
      simp only[K_]
      cases It P t x W<;>rfl
     |cons y ys=>rfl
  ·cases h
 case h_6 s d x ho=>
  simp only[aab]at h;obtain⟨h1,h2⟩:=h;simp only[Bm,mo,ho,cvb]
  cases hs:P.underlying s with
  |none=>rw[hs]at h1;cases h1
  | some us=>
   cases hd:P.underlying d with
   |none=>rw[hd]at h2;cases h2
   | some ud=>
    rw[hs]at h1;rw[hd]at h2
    cases us<;>first|(cases h1;done)|skip
    all_goals
     cases ud<;>first|(cases h2;done)|skip
    cases hx:e x<;>rfl
 all_goals
  rename_i ho;simp only[Bm,mo,ho]
  first
   |rfl
   |(simp only[N',Option.isSome_map];rfl)
theorem yG(h:PQ o=true):Bm P o e W=swL (stO P o e W):=by
 unfold PQ at h
 split at h
 ·rename_i ho;simp only[Bm,stO,ho];rfl
 ·rename_i ho;simp only[Bm,stO,ho];rfl
 ·rename_i ho;simp only[Bm,stO,ho];rfl
 ·cases h
def rI(P:Program)(L:List FuncId)(KV:Value→CW→Prop)(KS:CW→Prop)(KD:Deferred→CW→Prop)(KP:List PanicEntry→CW→Prop):B_→CW→Prop
 | .value v,W=>KV v W
 | .skip,W=>KS W
 | .enter f args,W=>Ac P L f args W (Di KV KP)
 | .round l args,W=>LD P L l args W (Di KV KP)
 | .defer d,W=>KD d W
 | .panic v,W=>KP [{v,recovered:=false}] W
 | .recover,_=>False
variable {KV:Value→CW→Prop}{KS:CW→Prop}{KD:Deferred→CW→Prop}{KP:List PanicEntry→CW→Prop}
theorem yH{x:Option Value}(h:wV x λv=>KV v W):∃p,vL x W=some [p]∧rI P L KV KS KD KP p.1 p.2:=by
 cases x with
 |none=>exact h.elim
 |some v=>exact⟨_,rfl,h⟩
theorem rJ{x:Option (Value×CW)}(h:KE x KV):∃p,vwL x=some [p]∧rI P L KV KS KD KP p.1 p.2:=by
 cases x with
 |none=>exact h.elim
 |some v=>obtain⟨v,W1⟩:=v;exact⟨_,rfl,h⟩
theorem ABR{x:Option CW}(h:wV x KS):∃p,swL x=some [p]∧rI P L KV KS KD KP p.1 p.2:=by
 cases x with
 |none=>exact h.elim
 |some v=>exact⟨_,rfl,h⟩
theorem ABS{s d:TypeId}{x:Operand}(ho:o.op=.convert s d x)(h:KE (cvs P s d (e x) W) KV):Bm P o e W=vwL (cvs P s d (e x) W):=by
 unfold cvs at h ⊢;simp only[Bm,ho]
 cases hs:P.underlying s with
 |none=>rw[hs]at h;exact h.elim
 | some us=>
  rw[hs]at h
  cases hd:P.underlying d with
  |none=>rw[hd]at h;cases us<;>exact h.elim
  |some ud=>
   rw[hd]at h
   cases us<;>first|exact h.elim|skip
   cases ud<;>first|exact h.elim|skip
   cases hx:e x<;>rw[hx]at h<;>first|exact h.elim|rfl
theorem Ur(h:wOp P L o e W KV KS KD KP):∃p,Bm P o e W=some [p]∧rI P L KV KS KD KP p.1 p.2:=by
 unfold wOp at h
 cases hp:Dv P o with
 |true=>rw[hp]at h;rw[Y3 hp];exact yH h
 | false =>
  rw[hp]at h;simp only[cond_false]at h
  cases hr:EP P o with
  |true=>rw[hr]at h;rw[Od hr];exact yH h
  | false=>
   rw[hr]at h;simp only[cond_false]at h
   cases hs:PQ o with
   |true=>rw[hs]at h;rw[yG hs];exact ABR h
   | false=>
    rw[hs]at h;simp only[cond_false]at h
    split at h
    ·rename_i c ho
     split at h
     ·rename_i f hf;simp only[Bm,ho,hf];unfold GI at h
      cases hc:KA (e f) (c.args.toList.map e)with
      |none=>rw[hc]at h;exact h.elim
      | some n=>
       rw[hc]at h
       cases n with
       |enter g as=>
        simp only at h ⊢
        cases hx:Lg P g as W with
        |none=>rw[hx]at h;exact⟨_,rfl,h⟩
        |some y=>obtain⟨v,W1⟩:=y;rw[hx]at h;exact⟨_,rfl,h⟩
       |round l as=>exact⟨_,rfl,h⟩
       |_=>exact h.elim
     ·rename_i b hb
      have key:Bm P o e W=vwL (alO P o e W):=by
       simp only[Bm,ho,hb];simp only[alO,ho,hb]at h ⊢;generalize c.argTypes.toList=ts at h ⊢;generalize c.args.toList.map e=as at h ⊢
       by_cases hap:b=.append
       ·subst hap;simp only[alB]at h ⊢;rcases as with _|⟨s,_|⟨x,_|⟨y,as⟩⟩⟩<;>first|exact h.elim|skip
        simp only at h ⊢;rcases ts with _|⟨t,_|⟨u,ts⟩⟩<;>first|exact h.elim|skip
        simp only[app,K_]at h ⊢
        cases hu:II P u with
        |false=>rw[hu]at h;exact h.elim
        |true=>
         simp only[cond_true]
         cases hca:Fy P t s x W with
         |none=>rfl
         |some y=>rfl
       ·have e1:alB P b ts as W=blt P b ts as W:=by
         cases b<;>first|rfl|exact(hap rfl).elim
        rw[e1]at h;rw[e1];unfold blt at h ⊢
        cases hcb:K_ P b ts as W with
        |none=>rw[hcb]at h;exact h.elim
        |some r=>
         obtain⟨n,W1⟩:=r;rw[hcb]at h
         cases n<;>first|exact h.elim|rfl
      rw[key];exact rJ h
     ·exact h.elim
    ·rename_i x ho
     split at h
     ·rename_i t y hx;simp only[Bm,ho,hx];exact⟨_,rfl,h⟩
     ·exact h.elim
    ·rename_i c ho
     split at h
     ·rename_i f hf
      split at h
      ·rename_i g first cap hg;simp only[Bm,ho,hf,hg];exact⟨_,rfl,h⟩
      ·exact h.elim
     ·exact h.elim
    ·rename_i n1 n2 n3
     have:Bm P o e W=vwL (alO P o e W):=by
      unfold alO at h ⊢
      split at h
      ·rename_i t ho;simp only[Bm,ho,rG]
       cases Is P t with
       |none=>rfl
       |some z=>cases EM P t<;>rfl
      ·rename_i t x ho;simp only[Bm,ho,bxw]
       cases EM P t<;>rfl
      ·rename_i ho;simp only[Bm,ho];rfl
      ·rename_i ho;simp only[Bm,ho];rfl
      ·rename_i ho;simp only[Bm,ho];rfl
      ·rename_i ho;simp only[Bm,ho];rfl
      ·rename_i ho;exact ABS ho h
      ·rename_i ho;exact(n1 _ ho).elim
      ·exact h.elim
     rw[this];exact rJ h
end
end Go.Ce
