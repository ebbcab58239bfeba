/- A part of the proof: Fe, Ga, Ha, Pa, Sh1, Sh0, Hb, Hc, Pb, Pc, Hd, He, Pd, Pe, Hf, Pf, Hg, Pg, Ph, Pi, Pj, Pk, ShA. -/
import Derived.Test.YtmknebebbbjdlaaGreatW01
import Derived.Test.YtmknebebbbjdlaaGreatProg
set_option linter.unusedSectionVars false
set_option linter.unusedVariables false
set_option linter.unusedSimpArgs false
set_option maxRecDepth 200000
namespace Go.Ce
section
variable {P:Program} {L:List FuncId}
theorem evC_succ (n:Nat):evC P L (n+1)=stepRec P L (evC P L n):=rfl
theorem bindO_inv1 {α β:Type} {x:α} {f:α→Option (List β)} {y:List β} (h:f x=some y):bindO (some [x]) f=some y:=bindO_one x f h
theorem wCode_sound {ro:Option Nat} {fn:FuncId} {nt:Nat}:∀ {c:Code} {e:Env} {ds:List Deferred} {W:CW} {K:Exit→Env→List Deferred→CW→Prop},wCode P L ro fn nt c e ds W K→WEnv P L ro fn nt c e ds W K:=by
 intro c
 induction c with
 | skip =>
  intro e ds W K h a ha hn
  exact ⟨1,(.normal,a,W),rfl,e,by rw [ha.2]; exact ha,hn,by rw [ha.2]; exact h⟩
 | label id =>
  intro e ds W K h a ha hn
  exact ⟨1,(.normal,a,W),rfl,e,by rw [ha.2]; exact ha,hn,by rw [ha.2]; exact h⟩
 | exit id =>
  intro e ds W K h a ha hn
  exact ⟨1,(.exit id,a,W),rfl,e,by rw [ha.2]; exact ha,hn,by rw [ha.2]; exact h⟩
 | ret =>
  intro e ds W K h a ha hn
  exact ⟨1,(.ret,a,W),rfl,e,by rw [ha.2]; exact ha,hn,by rw [ha.2]; exact h⟩
 | region id ops d =>
  intro e ds W K h a ha hn
  cases d with
  | false =>
   obtain ⟨n,o,e',h1,h2,h3,h4⟩:=wOps_sound h ha
   exact ⟨n+1,o,h1,e',h2,by rw [h3,hn],h4⟩
  | true =>
   obtain ⟨n,a',W',e',h1,h2,h3,h4⟩:=wDraw_sound h ha
   exact ⟨n+1,(.normal,a',W'),h1,e',by rw [h2.2]; exact h2,by rw [←hn]; exact h3,by rw [h2.2]; exact h4⟩
 | seq x y ihx ihy =>
  intro e ds W K h a ha hn
  obtain ⟨n,⟨x1,a1,W1⟩,h1,e1,h2,h3,h4⟩:=ihx h a ha hn
  cases x1 with
  | normal =>
   obtain ⟨m,o,h5,h6⟩:=ihy h4 a1 h2 h3
   refine ⟨max n m+1,o,?_,h6⟩
   show seqO ((evC P L (max n m)).code ro fn x a W) ((evC P L (max n m)).code ro fn y)=some [o]
   rw [code_up (Nat.le_max_left n m) h1]
   exact bindO_inv1 (code_up (Nat.le_max_right n m) h5)
  | _ =>
   refine ⟨n+1,_,?_,e1,h2,h3,h4⟩
   show seqO ((evC P L n).code ro fn x a W) ((evC P L n).code ro fn y)=_
   rw [h1]
   exact bindO_inv1 rfl
 | cond c x y ihx ihy =>
  intro e ds W K h a ha hn
  obtain ⟨b,hb,h⟩:=wI_inv h
  have hc:a.eval c=.bool b:=by rw [ha.eval]; exact hb
  cases b with
  | true =>
   obtain ⟨n,o,h1,h2⟩:=ihx h a ha hn
   refine ⟨n+1,o,?_,h2⟩
   show (match a.eval c with | .bool b=>(evC P L n).code ro fn (cond b x y) a W | _=>none)=_
   rw [hc]; exact h1
  | false =>
   obtain ⟨n,o,h1,h2⟩:=ihy h a ha hn
   refine ⟨n+1,o,?_,h2⟩
   show (match a.eval c with | .bool b=>(evC P L n).code ro fn (cond b x y) a W | _=>none)=_
   rw [hc]; exact h1
 | block id b ih =>
  intro e ds W K h a ha hn
  obtain ⟨n,⟨x1,a1,W1⟩,h1,e1,h2,h3,h4⟩:=ih h a ha hn
  have key:∀ {r:Exit × CAct × CW} {f:Exit × CAct × CW→Outs},(∀ e a W,f (e,a,W)=match e with
    | .exit id'=>cond (Nat.beq id' id) (some [(.normal,a,W)]) (some [(.exit id',a,W)])
    | e=>some [(e,a,W)])→f (x1,a1,W1)=some [r]→(evC P L (n+1)).code ro fn (.block id b) a W=some [r]:=by
   intro r f hf hr
   show (bindO ((evC P L n).code ro fn b a W) fun (e,a,W)=>match e with
    | .exit id'=>cond (Nat.beq id' id) (some [(.normal,a,W)]) (some [(.exit id',a,W)])
    | e=>some [(e,a,W)])=_
   rw [h1]
   refine bindO_inv1 ?_
   rw [←hr,hf]
  cases x1 with
  | exit id' =>
   cases hq:Nat.beq id' id with
   | true =>
    simp only [blkK,hq,cond_true] at h4
    exact ⟨n+1,(.normal,a1,W1),key (f:=fun (e,a,W)=>match e with
     | .exit id'=>cond (Nat.beq id' id) (some [(.normal,a,W)]) (some [(.exit id',a,W)])
     | e=>some [(e,a,W)]) (fun e a W=>by cases e <;> rfl) (by simp only [hq,cond_true]),e1,h2,h3,h4⟩
   | false =>
    simp only [blkK,hq,cond_false] at h4
    exact ⟨n+1,(.exit id',a1,W1),key (f:=fun (e,a,W)=>match e with
     | .exit id'=>cond (Nat.beq id' id) (some [(.normal,a,W)]) (some [(.exit id',a,W)])
     | e=>some [(e,a,W)]) (fun e a W=>by cases e <;> rfl) (by simp only [hq,cond_false]),e1,h2,h3,h4⟩
  | _=>exact ⟨n+1,_,key (f:=fun (e,a,W)=>match e with
     | .exit id'=>cond (Nat.beq id' id) (some [(.normal,a,W)]) (some [(.exit id',a,W)])
     | e=>some [(e,a,W)]) (fun e a W=>by cases e <;> rfl) rfl,e1,h2,h3,h4⟩
 | scope b ih =>
  intro e ds W K h a ha hn
  obtain ⟨n,o,h1,h2⟩:=ih h a ha hn
  exact ⟨n+1,o,h1,h2⟩
 | _=>intro e ds W K h; exact h
theorem wLoop {ro:Option Nat} {fn:FuncId} {nt:Nat} {b:Code} {K:Exit→Env→List Deferred→CW→Prop} (Inv:Nat→Env→List Deferred→CW→Prop)
  (hstep:∀ k e ds W,Inv k e ds W→wCode P L ro fn nt b e ds W fun x e' ds' W'=>match x with
   | .normal=>∃ k',k'<k∧Inv k' e' ds' W'
   | x=>K x e' ds' W'):∀ k e ds W,Inv k e ds W→WEnv P L ro fn nt (.loop b) e ds W K:=by
 intro k
 induction k using Nat.strongRecOn with
 | ind k ih =>
  intro e ds W hi a ha hn
  obtain ⟨n,⟨x1,a1,W1⟩,h1,e1,h2,h3,h4⟩:=wCode_sound (hstep k e ds W hi) a ha hn
  cases x1 with
  | normal =>
   obtain ⟨k',hk,hi'⟩:=h4
   obtain ⟨m,o,h5,h6⟩:=ih k' hk e1 a1.defers W1 hi' a1 h2 h3
   refine ⟨max n m+1,o,?_,h6⟩
   show seqO ((evC P L (max n m)).code ro fn b a W) ((evC P L (max n m)).code ro fn (.loop b))=some [o]
   rw [code_up (Nat.le_max_left n m) h1]
   exact bindO_inv1 (code_up (Nat.le_max_right n m) h5)
  | _ =>
   refine ⟨n+1,_,?_,e1,h2,h3,h4⟩
   show seqO ((evC P L n).code ro fn b a W) ((evC P L n).code ro fn (.loop b))=_
   rw [h1]
   exact bindO_inv1 rfl
def Env.args (args:List Value):Env:=fun t=>match args[t]? with
 | some v=>v
 | none=>undef
theorem begin_AE (fn:Func) (args:List Value):AE (begin_ fn args) (Env.args args) []:=by
 refine ⟨fun t=>?_,rfl⟩
 unfold begin_ CAct.at Env.args
 simp only [Tr.get_putFrom,Nat.zero_le,true_and,Nat.zero_add,Nat.sub_zero,Tr.get_nil]
 by_cases h:t<args.length
 ·rw [if_pos h,List.getElem?_eq_getElem h]; rfl
 ·rw [if_neg h,List.getElem?_eq_none (by omega)]; rfl
def wRes (P:Program) (r:ResultVar) (e:Env) (W:CW):Option Value:=match r with
 | .tmp t=>some (e t)
 | .cell s ty=>match e s with
  | .pointer (some p)=>cload P ty p W
  | _=>none
def wResL (P:Program):List ResultVar→Env→CW→Option (List Value)
 | [],_,_=>some []
 | r::rs,e,W=>match wRes P r e W with
  | some v=>match wResL P rs e W with
   | some vs=>some (v::vs)
   | none=>none
  | none=>none
def wResults (P:Program) (rs:List ResultVar) (e:Env) (W:CW):Option Value:=match wResL P rs e W with
 | some [v]=>some v
 | some vs=>some (.tuple vs.toArray)
 | none=>none
theorem get_at {a:CAct} {e:Env} {ds:List Deferred} (h:AE a e ds) (t:Tmp):(match a.t.get t with | some v=>v | none=>undef)=e t:=by
 rw [←h.1 t]
 unfold CAct.at
 cases a.t.get t <;> rfl
theorem get_ptr {a:CAct} {e:Env} {ds:List Deferred} (h:AE a e ds) {t:Tmp} {p:Addr} (hp:e t=.pointer (some p)):a.t.get t=some (.pointer (some p)):=by
 have:=h.1 t
 rw [hp] at this
 unfold CAct.at at this
 cases hg:a.t.get t with
 | none=>rw [hg] at this; cases this
 | some v=>rw [hg] at this; exact congrArg some this
theorem resL_sound {a:CAct} {e:Env} {ds:List Deferred} (ha:AE a e ds) {W:CW}:∀ {rs:List ResultVar} {vs:List Value},wResL P rs e W=some vs→rs.mapM (cresult P a W)=some vs
 | [],vs,h=>by simpa [wResL] using h
 | r::rs,vs,h=>by
  simp only [wResL] at h
  split at h
  ·rename_i v hv
   split at h
   ·rename_i vs' hvs
    cases h
    have h1:cresult P a W r=some v:=by
     unfold wRes at hv
     unfold cresult
     split at hv
     ·rename_i t
      show some (match a.t.get t with | some v=>v | none=>undef)=some v
      rw [get_at ha]; exact hv
     ·rename_i s ty
      split at hv
      ·rename_i p hp
       show (match a.t.get s with | some (.pointer (some p))=>cload P ty p W | _=>none)=some v
       rw [get_ptr ha hp]; exact hv
      ·cases hv
    simp only [List.mapM_cons,h1,resL_sound ha hvs]
    rfl
   ·cases h
  ·cases h
theorem results_of {fn:Func} {a:CAct} {e:Env} {ds:List Deferred} (ha:AE a e ds) {W:CW} {v:Value} (h:wResults P fn.results.toList e W=some v):cresults P fn a W=some v:=by
 unfold wResults at h
 unfold cresults
 cases hr:wResL P fn.results.toList e W with
 | none=>rw [hr] at h; cases h
 | some vs =>
  rw [hr] at h
  rw [resL_sound ha hr]
  match vs,h with
  | [],h=>exact h
  | [v],h=>exact h
  | _::_::_,h=>exact h
def wLeave (P:Program) (fn:Func) (Q:Ending→CW→Prop) (x:Exit) (e:Env):List Deferred→CW→Prop
 | [],W=>match x with
  | .normal=>wV (wResults P fn.results.toList e W) fun v=>Q (.returned v) W
  | .ret=>wV (wResults P fn.results.toList e W) fun v=>Q (.returned v) W
  | .panic ch=>Q (.panicked ch) W
  | _=>False
 | d::ds,W=>match d.target with
  | .collected r=>W.obj r=some .deferred∧wLeave P fn Q x e ds (W.upd r .dead)
  | _=>False
def behind (P:Program) (R:CRec) (fn:Func) (x:Exit) (a:CAct) (W:CW):Ends:=match x with
 | .normal=>leaves P R fn a a.defers .returning W
 | .ret=>leaves P R fn a a.defers .returning W
 | .panic ch=>leaves P R fn a a.defers (.panicking ch) W
 | _=>none
theorem leaves_of {fn:Func} {a:CAct} {e:Env} {Q:Ending→CW→Prop} {R:CRec} (ha:AE a e a.defers) (x:Exit):∀ (ds:List Deferred) (W:CW),wLeave P fn Q x e ds W→∃ o:Ending × CW,(match x with
  | .normal=>leaves P R fn a ds .returning W
  | .ret=>leaves P R fn a ds .returning W
  | .panic ch=>leaves P R fn a ds (.panicking ch) W
  | _=>none)=some [o]∧Q o.1 o.2
 | [],W,h=>by
  have fin:wV (wResults P fn.results.toList e W) (fun v=>Q (.returned v) W)→∃ o:Ending × CW,leaves P R fn a [] .returning W=some [o]∧Q o.1 o.2:=by
   intro hw
   cases hv:wResults P fn.results.toList e W with
   | none=>rw [hv] at hw; exact hw.elim
   | some v =>
    rw [hv] at hw
    exact ⟨(.returned v,W),by simp only [leaves,results_of ha hv],hw⟩
  cases x with
  | normal=>exact fin h
  | ret=>exact fin h
  | panic ch=>exact ⟨(.panicked ch,W),rfl,h⟩
  | exit id=>exact h.elim
  | goto id=>exact h.elim
  | outgrown=>exact h.elim
 | d::ds,W,h=>by
  obtain ⟨tg,argz⟩:=d
  cases tg with
  | collected r =>
   obtain ⟨ho,h⟩:=h
   obtain ⟨o,h1,h2⟩:=leaves_of ha x ds (W.upd r .dead) h
   refine ⟨o,?_,h2⟩
   cases x <;> first | (simp only [leaves,ho]; exact h1) | exact h1
  | _=>exact h.elim
theorem wCall_body {f:FuncId} {fn:Func} {c:Code} {args:List Value} {W:CW} {Q:Ending→CW→Prop} (hL:memN L f=true) (hL2:memN L (f+1000000)=false) (hL3:memN L (f+2000000)=false) (hf:P.funcs[f]?=some fn) (hc:fn.body=some c)
  (hle:Nat.ble args.length fn.ntmps=true) (h:wCode P L none f fn.ntmps c (Env.args args) [] W (wLeave P fn Q)):WCall P L f args W Q:=by
 obtain ⟨n,⟨x,a,W1⟩,h1,e,h2,h3,h4⟩:=wCode_sound h (begin_ fn args) (begin_AE fn args) rfl
 have key:∀ {o:Ending × CW},behind P (evC P L n) fn x a W1=some [o]→(evC P L (n+1)).call f args W=some [o]:=by
  intro o ho
  rw [evC_succ]
  simp only [stepRec,hL,hL2,hL3,hf,hc,hle,Bool.not_true,cond_false,cond_true,Bool.false_and]
  rw [h1]
  refine bindO_inv1 ?_
  rw [←ho]
  cases x <;> rfl
 simp only at h2 h4
 obtain ⟨o,e1,e2⟩:=leaves_of (R:=evC P L n) h2 x a.defers W1 h4
 exact ⟨n+1,o,key (by unfold behind; cases x <;> exact e1),e2⟩
theorem WCall.mono {f:FuncId} {args:List Value} {W:CW} {Q Q':Ending→CW→Prop} (h:WCall P L f args W Q) (hq:∀ e W,Q e W→Q' e W):WCall P L f args W Q':=by
 obtain ⟨n,o,h1,h2⟩:=h
 exact ⟨n,o,h1,hq _ _ h2⟩
theorem WRound.mono {l:Nat} {args:List Value} {W:CW} {Q Q':Ending→CW→Prop} (h:WRound P L l args W Q) (hq:∀ e W,Q e W→Q' e W):WRound P L l args W Q':=by
 obtain ⟨n,o,h1,h2⟩:=h
 exact ⟨n,o,h1,hq _ _ h2⟩
theorem wCall_known {f:FuncId} {W:CW} (hL:memN L f=true) (hL3:memN L (f+2000000)=true) {Q:Ending→CW→Prop} (h:Q (.returned (.bool true)) W):WCall P L f [] W Q:=by
 refine ⟨1,(.returned (.bool true),W),?_,h⟩
 rw [evC_succ]
 simp only [stepRec,hL,hL3,Bool.not_true,cond_false,List.isEmpty_nil,Bool.and_self,cond_true]
end
end Go.Ce
namespace Go.Ce
open Go.RowKit (Below)
def Tr.sets {α:Type} (t:Tr α):List (Nat × α)→Tr α
 | []=>t
 | p::ps=>(t.set p.1 p.2).sets ps
def Tr.of {α:Type} (l:List (Nat × α)):Tr α:=Tr.nil.sets l
def CW.sets (W:CW) (l:List (Nat × CObj)) (n:Nat):CW:=⟨W.h.sets l,n⟩
def actOf (l:List (Nat × Value)) (n:Nat):CAct:=⟨Tr.of l,n,[]⟩
def steps:Code→List Code
 | .seq x y=>steps x++steps y
 | c=>[c]
def csize:Code→Nat
 | .seq x y=>csize x+csize y+1
 | _=>0
def bodyOf (P:Program) (f:FuncId):Code:=match P.funcs[f]? with
 | some fn=>match fn.body with
  | some c=>c
  | none=>.skip
 | none=>.skip
def stepsOf (P:Program) (f:FuncId):List Code:=steps (bodyOf P f)
def flatRun (R:CRec) (ro:Option Nat) (fn:FuncId):List Code→CAct→CW→Outs
 | [],a,W=>some [(.normal,a,W)]
 | c::cs,a,W=>seqO (R.code ro fn c a W) (flatRun R ro fn cs)
def rangesIn:Code→List (Code × Code)
 | .seq x y=>rangesIn x++rangesIn y
 | .cond _ x y=>rangesIn x++rangesIn y
 | .block _ b=>rangesIn b
 | .scope b=>rangesIn b
 | .loop b=>rangesIn b
 | .rangeFunc _ _ a b=>(a,b)::(rangesIn a++rangesIn b)
 | _=>[]
def rfA (P:Program) (f:FuncId) (k:Nat):Code:=match (rangesIn (bodyOf P f))[k]? with
 | some p=>p.1
 | none=>.skip
def rfB (P:Program) (f:FuncId) (k:Nat):Code:=match (rangesIn (bodyOf P f))[k]? with
 | some p=>p.2
 | none=>.skip
section
variable {P:Program} {L:List FuncId}
theorem bindL_append {α β:Type} (f:α→Option (List β)):∀ (l m:List α),bindL f (l++m)=(bindL f l).bind fun x=>(bindL f m).bind fun y=>some (x++y)
 | [],m=>by cases h:bindL f m <;> simp [bindL,h]
 | x::l,m=>by
  simp only [List.cons_append,bindL,bindL_append f l m]
  cases f x <;> simp
  cases bindL f l <;> simp
  cases bindL f m <;> simp
theorem bindO_assoc {α β γ:Type} (o:Option (List α)) (f:α→Option (List β)) (g:β→Option (List γ)):bindO (bindO o f) g=bindO o fun x=>bindO (f x) g:=by
 cases o with
 | none=>rfl
 | some l =>
  simp only [bindO]
  induction l with
  | nil=>rfl
  | cons x l ih =>
   simp only [bindL]
   cases hx:f x with
   | none=>rfl
   | some y =>
    simp only
    cases hl:bindL f l with
    | none =>
     rw [hl] at ih
     simp only at ih ⊢
     cases bindL g y with
     | none=>rfl
     | some z=>simp only [←ih]
    | some m =>
     rw [hl] at ih
     simp only at ih ⊢
     rw [bindL_append,←ih]
     cases bindL g y <;> simp
     cases bindL g m <;> simp
theorem bindO_pure {α:Type} (o:Option (List α)):bindO o (fun x=>some [x])=o:=by
 cases o with
 | none=>rfl
 | some l =>
  simp only [bindO]
  induction l with
  | nil=>rfl
  | cons x l ih=>simp [bindL,ih]
theorem seqO_assoc (o:Outs) (f g:CAct→CW→Outs):seqO (seqO o f) g=seqO o fun a W=>seqO (f a W) g:=by
 unfold seqO
 rw [bindO_assoc]
 congr 1
 funext ⟨e,a,W⟩
 cases e <;> rfl
theorem seqO_pure (o:Outs):seqO o (fun a W=>some [(.normal,a,W)])=o:=by
 unfold seqO
 have:(fun (x:Exit × CAct × CW)=>match x with
  | (e,a,W)=>match e with
   | .normal=>some [(Exit.normal,a,W)]
   | e=>some [(e,a,W)])=fun x=>some [x]:=by
  funext ⟨e,a,W⟩
  cases e <;> rfl
 exact (congrArg (bindO o) this).trans (bindO_pure o)
theorem flatRun_append {R:CRec} {ro:Option Nat} {fn:FuncId}:∀ (xs ys:List Code) (a:CAct) (W:CW),flatRun R ro fn (xs++ys) a W=seqO (flatRun R ro fn xs a W) (flatRun R ro fn ys)
 | [],ys,a,W=>by
  simp only [List.nil_append,flatRun,seqO]
  unfold bindO
  simp [bindL]
  cases flatRun R ro fn ys a W <;> simp
 | x::xs,ys,a,W=>by
  simp only [List.cons_append,flatRun]
  rw [seqO_assoc]
  congr 1
  funext a W
  exact flatRun_append xs ys a W
theorem flat_mono {n m:Nat} (h:n≤m) {ro:Option Nat} {fn:FuncId}:∀ {cs:List Code} {a:CAct} {W:CW} {o:List (Exit × CAct × CW)},flatRun (evC P L n) ro fn cs a W=some o→flatRun (evC P L m) ro fn cs a W=some o
 | [],a,W,o,e=>e
 | c::cs,a,W,o,e=>by
  simp only [flatRun] at e ⊢
  exact seqO_mono (.refl (CRec.base fun _ _=>false)) (fun l hl=>code_up h hl) (fun a W r hr=>flat_mono h hr) e
theorem flat_code:∀ (c:Code) {n:Nat} {ro:Option Nat} {fn:FuncId} {a:CAct} {W:CW} {o:List (Exit × CAct × CW)},flatRun (evC P L n) ro fn (steps c) a W=some o→(evC P L (n+csize c)).code ro fn c a W=some o:=by
 intro c
 induction c with
 | seq x y ihx ihy =>
  intro n ro fn a W o h
  simp only [steps] at h
  rw [flatRun_append] at h
  show (evC P L (n+(csize x+csize y)+1)).code ro fn (.seq x y) a W=some o
  show seqO ((evC P L (n+(csize x+csize y))).code ro fn x a W) ((evC P L (n+(csize x+csize y))).code ro fn y)=some o
  exact seqO_mono (.refl (CRec.base fun _ _=>false)) (fun l hl=>code_up (by omega) (ihx hl)) (fun a W r hr=>code_up (by omega) (ihy hr)) h
 | _ =>
  intro n ro fn a W o h
  simp only [steps,flatRun] at h
  rw [←h]
  exact (seqO_pure _).symm
theorem evN_evC (n:Nat):(evN P L n).Le (evC P L n):=evB_eqv (fun {u v} h=>by rw [veq_sound 8 u v h]; exact @decide_eq_true _ (Classical.propDecidable _) rfl) n
theorem flat_N {n:Nat} {ro:Option Nat} {fn:FuncId}:∀ {cs:List Code} {a:CAct} {W:CW} {o:List (Exit × CAct × CW)},flatRun (evN P L n) ro fn cs a W=some o→flatRun (evC P L n) ro fn cs a W=some o
 | [],a,W,o,e=>e
 | c::cs,a,W,o,e=>by
  simp only [flatRun] at e ⊢
  exact seqO_mono (.refl (CRec.base fun _ _=>false)) (fun l hl=>(evN_evC n).code hl) (fun a W r hr=>flat_N hr) e
def FlatAt (P:Program) (L:List FuncId) (f:FuncId) (i:Nat) (a:CAct) (W:CW) (x:Exit) (a':CAct) (W':CW):Prop:=∃ n,flatRun (evC P L n) none f ((stepsOf P f).drop i) a W=some [(x,a',W')]
theorem FlatAt.seg {f:FuncId} {i:Nat} (j n:Nat) {a a1 a2:CAct} {W W1 W2:CW} {x:Exit} (h:flatRun (evN P L n) none f (((stepsOf P f).drop i).take j) a W=some [(.normal,a1,W1)]) (hk:FlatAt P L f (i+j) a1 W1 x a2 W2):FlatAt P L f i a W x a2 W2:=by
 obtain ⟨m,hm⟩:=hk
 refine ⟨max n m,?_⟩
 have e:(stepsOf P f).drop i=((stepsOf P f).drop i).take j++(stepsOf P f).drop (i+j):=by
  rw [←List.drop_drop,List.take_append_drop]
 rw [e,flatRun_append,flat_mono (Nat.le_max_left n m) (flat_N h)]
 show seqO (some [(.normal,a1,W1)]) _=_
 unfold seqO
 exact bindO_one _ _ (flat_mono (Nat.le_max_right n m) hm)
theorem FlatAt.end {f:FuncId} {i:Nat} (n:Nat) {a a1:CAct} {W W1:CW} {x:Exit} (h:flatRun (evN P L n) none f ((stepsOf P f).drop i) a W=some [(x,a1,W1)]):FlatAt P L f i a W x a1 W1:=⟨n,flat_N h⟩
theorem FlatAt.call {f:FuncId} {fn:Func} {a:CAct} {W W1:CW} {v:Value} {args:List Value} (hL:memN L f=true) (hL2:memN L (f+1000000)=false) (hL3:memN L (f+2000000)=false) (hf:P.funcs[f]?=some fn) (hb:fn.body.isSome=true)
  (hle:Nat.ble args.length fn.ntmps=true) (h:FlatAt P L f 0 (begin_ fn args) W .ret a W1) (hd:a.defers=[]) (hv:cresults P fn a W1=some v):∃ n,(evC P L n).call f args W=some [(.returned v,W1)]:=by
 obtain ⟨n,h⟩:=h
 cases hc:fn.body with
 | none=>rw [hc] at hb; cases hb
 | some c =>
  have hbo:bodyOf P f=c:=by unfold bodyOf; rw [hf]; simp only [hc]
  rw [List.drop_zero] at h
  unfold stepsOf at h
  rw [hbo] at h
  have h1:=flat_code c h
  refine ⟨n+csize c+1,?_⟩
  rw [evC_succ]
  simp only [stepRec,hL,hL2,hL3,hf,hc,hle,Bool.not_true,cond_false,cond_true,Bool.false_and]
  rw [h1]
  refine bindO_one _ _ ?_
  show leaves P _ fn a a.defers .returning W1=_
  rw [hd]
  simp only [leaves,hv]
theorem closed_runC (hz:ZP P) (hmix:P.follows .mixedOrders=true) (hEN:EN P) (hCK:CK P L) {f:FuncId} {n:Nat} (h:allTrue ((evC P L n).call f [] (W0 0))=true) (w:World) :
  Calls P f #[] w (fun e w'=>e=.returned (.bool true)∧Below w.heap.size w w'):=by
 have hw:WRel P w (fun _=>none) (W0 0) w:=⟨(fun i x hx=>by cases hx),(fun i o ho=>by cases ho),(fun i o x ho=>by cases ho),(fun i j o u x y ho=>by cases ho),Below.refl' w⟩
 cases ho:(evC P L n).call f [] (W0 0) with
 | none=>rw [ho] at h; cases h
 | some outs =>
  rw [ho] at h
  obtain ⟨_,hc⟩:=(rs_allC (w0:=w) hz hmix hEN hCK n).call ho (args':=#[]) (.nil _) hw
  refine callsIn_wide.1 ((hc 0).mono fun e w' hE=>?_)
  obtain ⟨e0,W2,ρ2,hm,_,hN,hw2⟩:=hE
  have:=List.all_eq_true.1 h _ hm
  simp only at this
  cases hN with
  | returned hv =>
   split at this
   ·rename_i heq
    cases heq
    cases hv
    exact ⟨rfl,hw2.below⟩
   ·cases this
  | panicked _=>cases this
end
end Go.Ce
namespace Go.Ce
def Env.of (b:Env):List (Nat × Value)→Env
 | []=>b
 | p::l=>fun t=>cond (Nat.beq t p.1) p.2 (Env.of b l t)
theorem eKc (b:Env) (d:Nat) (v:Value) (l:List (Nat × Value)) (t:Nat):Env.of b ((d,v)::l) t=if t=d then v else Env.of b l t:=by
 simp only [Env.of,cond_eq_ite,Nat.beq_eq]
theorem eKn (b:Env) (t:Nat):Env.of b [] t=b t:=rfl
def loopsIn:Code→List Code
 | .seq x y=>loopsIn x++loopsIn y
 | .cond _ x y=>loopsIn x++loopsIn y
 | .block _ b=>loopsIn b
 | .scope b=>loopsIn b
 | .loop b=>b::loopsIn b
 | .rangeFunc _ _ a b=>loopsIn a++loopsIn b
 | _=>[]
def loopAt (P:Program) (f:FuncId) (k:Nat):Code:=match (loopsIn (bodyOf P f))[k]? with
 | some c=>c
 | none=>.skip
def mkm (W:CW):Option (Value × CW):=some (.map (some W.sz),W.new (.map [] 0))
def wPan (v:Value) (K:List PanicEntry→Prop):Prop:=match v with
 | .iface t y=>K [{ v:=.iface t y,recovered:=false }]
 | _=>False
def fnOf (P:Program) (f:FuncId):Func:=match P.funcs[f]? with
 | some fn=>fn
 | none=>default
section
variable {P:Program} {L:List FuncId}
theorem wCall_of {f:FuncId} {fn:Func} {args:List Value} {W:CW} {Q:Ending→CW→Prop} (hf:P.funcs[f]?=some fn) (hb:fn.body.isSome=true) (hL:memN L f=true) (hL2:memN L (f+1000000)=false) (hL3:memN L (f+2000000)=false)
  (hle:Nat.ble args.length fn.ntmps=true) (h:wCode P L none f fn.ntmps (bodyOf P f) (Env.args args) [] W (wLeave P fn Q)):WCall P L f args W Q:=by
 cases hc:fn.body with
 | none=>rw [hc] at hb; cases hb
 | some c =>
  have hbo:bodyOf P f=c:=by unfold bodyOf; rw [hf]; simp only [hc]
  rw [hbo] at h
  exact wCall_body hL hL2 hL3 hf hc hle h
end
end Go.Ce
namespace Go.Ce
def pkL:List FuncId:=[16+2000000]++((List.range 162).filter fun f=>Nat.ble 3 f && !Nat.beq f 7)
end Go.Ce
namespace Go.Ce
open Go Go.Proofs Go.Proofs.Tryz
def f95_k0 (ro:Option Nat) (K:Kont):Kont:=seqK (fun e ds W=>K .ret e ds W) K
def f95_k1 (ro:Option Nat) (K:Kont):Kont:=seqK (fun e ds W=>wV (clen prog 9 (e 0) W) fun v21=>wV (cbin prog .geq 3 true v21 (.int .i64 1)) fun v22=>wI v22 (wV (clen prog 9 (e 0) W) fun v25=>wV (cbin prog .leq 3 true v25 (.int .i64 60)) fun v26=>(f95_k0 ro K) .normal (Env.of e [(2,v26),(27,v26),(26,v26),(23,(.bool true)),(25,v25),(23,(.bool true)),(24,(e 0)),(23,(.bool true)),(23,v22),(22,v22),(21,v21),(20,(e 0))]) ds W) ((f95_k0 ro K) .normal (Env.of e [(2,(.bool false)),(27,(.bool false)),(26,undef),(23,(.bool false)),(25,undef),(23,(.bool false)),(24,undef),(23,(.bool false)),(23,v22),(22,v22),(21,v21),(20,(e 0))]) ds W)) K
theorem f95_c (v0:Value) (K:Kont) (W:CW):wCode prog pkL none 95 28 (bodyOf prog 95) (Env.args [v0]) [] W K=(WEnv prog pkL none 95 28 (.loop (loopAt prog 95 0)) (Env.of (Env.args [v0]) [(3,(.int .i64 0)),(2,(.bool false))]) [] W (blkK 0 (f95_k1 none K))):=by kernel_rfl
def f95_k2 (ro:Option Nat) (K:Kont):Kont:=seqK (fun e ds W=>wV (cbin prog .add 3 true (e 3) (.int .i64 1)) fun v9=>K .normal (Env.of e [(3,v9),(9,v9),(8,(e 3))]) ds W) K
def f95_k3 (ro:Option Nat) (K:Kont):Kont:=seqK (fun e ds W=>wI (e 19) ((f95_k2 ro K) .ret (Env.of e [(2,(.bool false))]) ds W) ((f95_k2 ro K) .normal e ds W)) (blkK 1 (f95_k2 ro K))
theorem f95_l0 (ro:Option Nat) (e:Env) (ds:List Deferred) (K:Kont) (W:CW):wCode prog pkL ro 95 28 (loopAt prog 95 0) e ds W K=(wV (clen prog 9 (e 0) W) fun v6=>wV (cbin prog .lss 3 false (e 3) v6) fun v7=>wI v7 (wV (idx prog 9 (e 0) (e 3)) fun v12=>wV (cbin prog .lss 5 true v12 (.int .u8 33)) fun v13=>wI v13 ((f95_k3 ro K) .normal (Env.of e [(19,(.bool true)),(18,undef),(14,(.bool true)),(17,undef),(14,(.bool true)),(16,undef),(14,(.bool true)),(15,undef),(14,(.bool true)),(14,v13),(13,v13),(12,v12),(11,(e 3)),(10,(e 0)),(7,v7),(6,v6),(5,(e 0)),(4,(e 3))]) ds W) (wV (idx prog 9 (e 0) (e 3)) fun v17=>wV (cbin prog .gtr 5 true v17 (.int .u8 126)) fun v18=>(f95_k3 ro K) .normal (Env.of e [(19,v18),(18,v18),(14,(.bool false)),(17,v17),(14,(.bool false)),(16,(e 3)),(14,(.bool false)),(15,(e 0)),(14,(.bool false)),(14,v13),(13,v13),(12,v12),(11,(e 3)),(10,(e 0)),(7,v7),(6,v6),(5,(e 0)),(4,(e 3))]) ds W)) (K (.exit 0) (Env.of e [(7,v7),(6,v6),(5,(e 0)),(4,(e 3))]) ds W)):=by kernel_rfl
theorem f95_leave (Q:Ending→CW→Prop) (e:Env) (W:CW):wLeave prog Tryz.f95 Q .ret e [] W=Q (.returned (e 2)) W:=by kernel_rfl
theorem f95_w {Q:Ending→CW→Prop} {v0:Value} {W:CW} (h:wCode prog pkL none 95 28 (bodyOf prog 95) (Env.args [v0]) [] W (wLeave prog Tryz.f95 Q)):WCall prog pkL 95 [v0] W Q:=wCall_of Tryz.func95 (by kernel_rfl) (by kernel_rfl) (by kernel_rfl) (by kernel_rfl) (by kernel_rfl) h
def f96_k0 (ro:Option Nat) (K:Kont):Kont:=seqK (fun e ds W=>K .ret e ds W) K
theorem f96_c (v0:Value) (K:Kont) (W:CW):wCode prog pkL none 96 9 (bodyOf prog 96) (Env.args [v0]) [] W K=(wV (cbin prog .eql 5 true v0 (.int .u8 1)) fun v4=>wI v4 ((f96_k0 none K) .normal (Env.of (Env.args [v0]) [(2,(.bool true)),(8,(.bool true)),(7,undef),(5,(.bool true)),(6,undef),(5,(.bool true)),(5,v4),(4,v4),(3,v0),(2,(.bool false))]) [] W) (wV (cbin prog .eql 5 true v0 (.int .u8 2)) fun v7=>(f96_k0 none K) .normal (Env.of (Env.args [v0]) [(2,v7),(8,v7),(7,v7),(5,(.bool false)),(6,v0),(5,(.bool false)),(5,v4),(4,v4),(3,v0),(2,(.bool false))]) [] W)):=by kernel_rfl
theorem f96_leave (Q:Ending→CW→Prop) (e:Env) (W:CW):wLeave prog Tryz.f96 Q .ret e [] W=Q (.returned (e 2)) W:=by kernel_rfl
theorem f96_w {Q:Ending→CW→Prop} {v0:Value} {W:CW} (h:wCode prog pkL none 96 9 (bodyOf prog 96) (Env.args [v0]) [] W (wLeave prog Tryz.f96 Q)):WCall prog pkL 96 [v0] W Q:=wCall_of Tryz.func96 (by kernel_rfl) (by kernel_rfl) (by kernel_rfl) (by kernel_rfl) (by kernel_rfl) h
def f97_k1 (ro:Option Nat) (K:Kont):Kont:=seqK (fun e ds W=>K .ret (Env.of e [(5,(.bool true)),(4,(e 6)),(43,(e 6))]) ds W) K
theorem f97_c (v0 v1:Value) (K:Kont) (W:CW):wCode prog pkL none 97 44 (bodyOf prog 97) (Env.args [v0,v1]) [] W K=(wVW (bsl prog 40 1 [(0,v1)] W) fun v8 W0=>WEnv prog pkL none 97 44 (.loop (loopAt prog 97 0)) (Env.of (Env.args [v0,v1]) [(6,v8),(8,v8),(7,v1),(5,(.bool false)),(4,(.slice none 0 0))]) [] W0 (blkK 0 (f97_k1 none K))):=by kernel_rfl
def f97_k6 (ro:Option Nat) (K:Kont):Kont:=seqK (fun e ds W=>wVW (bsl prog 40 1 [(0,(e 1))] W) fun v41 W4=>wVW (app prog [40,40] (e 6) v41 W4) fun v42 W5=>K .normal (Env.of e [(6,v42),(42,v42),(41,v41),(40,(e 1)),(39,(e 6))]) ds W5) (blkK 1 K)
def f97_k7 (ro:Option Nat) (K:Kont):Kont:=seqK (fun e ds W=>wI (e 38) ((f97_k6 ro K) .ret (Env.of e [(5,(.bool false)),(4,(.slice none 0 0))]) ds W) ((f97_k6 ro K) .normal e ds W)) (f97_k6 ro K)
theorem f97_l0 (ro:Option Nat) (e:Env) (ds:List Deferred) (K:Kont) (W:CW):wCode prog pkL ro 97 44 (loopAt prog 97 0) e ds W K=(wV (iad prog 22 (e 0) (e 1)) fun v11=>wV (fad prog 48 v11 1) fun v12=>wV (ld prog 9 v12 W) fun v13=>wV (cbin prog .neq 9 true v13 (.string ⟨#[]⟩)) fun v14=>wI v14 (wV (iad prog 22 (e 0) (e 1)) fun v18=>wV (fad prog 48 v18 1) fun v19=>wV (ld prog 9 v19 W) fun v20=>WCall prog pkL 69 [(e 0),v20] W (onEnd (fun v21 W2=>wV (cbin prog .lss 3 true v21 (.int .i64 0)) fun v23=>wI v23 ((f97_k7 ro K) .normal (Env.of e [(38,(.bool true)),(37,undef),(31,(.bool true)),(36,undef),(31,(.bool true)),(35,undef),(31,(.bool true)),(34,undef),(31,(.bool true)),(33,undef),(31,(.bool true)),(32,undef),(31,(.bool true)),(31,(.bool true)),(30,(.bool true)),(29,undef),(24,(.bool true)),(28,undef),(24,(.bool true)),(27,undef),(24,(.bool true)),(26,undef),(24,(.bool true)),(25,undef),(24,(.bool true)),(24,v23),(23,v23),(22,v21),(1,v21),(21,v21),(20,v20),(19,v19),(18,v18),(17,(e 1)),(16,(e 0)),(15,(e 0)),(14,v14),(13,v13),(12,v12),(11,v11),(10,(e 1)),(9,(e 0))]) ds W2) (wV (clen prog 40 (e 6) W2) fun v26=>wV (clen prog 22 (e 0) W2) fun v28=>wV (cbin prog .gtr 3 false v26 v28) fun v29=>wI v29 ((f97_k7 ro K) .normal (Env.of e [(38,(.bool true)),(37,undef),(31,(.bool true)),(36,undef),(31,(.bool true)),(35,undef),(31,(.bool true)),(34,undef),(31,(.bool true)),(33,undef),(31,(.bool true)),(32,undef),(31,(.bool true)),(31,v29),(30,v29),(29,v29),(24,(.bool false)),(28,v28),(24,(.bool false)),(27,(e 0)),(24,(.bool false)),(26,v26),(24,(.bool false)),(25,(e 6)),(24,(.bool false)),(24,v23),(23,v23),(22,v21),(1,v21),(21,v21),(20,v20),(19,v19),(18,v18),(17,(e 1)),(16,(e 0)),(15,(e 0)),(14,v14),(13,v13),(12,v12),(11,v11),(10,(e 1)),(9,(e 0))]) ds W2) (wV (iad prog 22 (e 0) v21) fun v34=>wV (fad prog 48 v34 3) fun v35=>wV (ld prog 5 v35 W2) fun v36=>wV (cbin prog .neq 5 true v36 (.int .u8 0)) fun v37=>(f97_k7 ro K) .normal (Env.of e [(38,v37),(37,v37),(31,(.bool false)),(36,v36),(31,(.bool false)),(35,v35),(31,(.bool false)),(34,v34),(31,(.bool false)),(33,v21),(31,(.bool false)),(32,(e 0)),(31,(.bool false)),(31,v29),(30,v29),(29,v29),(24,(.bool false)),(28,v28),(24,(.bool false)),(27,(e 0)),(24,(.bool false)),(26,v26),(24,(.bool false)),(25,(e 6)),(24,(.bool false)),(24,v23),(23,v23),(22,v21),(1,v21),(21,v21),(20,v20),(19,v19),(18,v18),(17,(e 1)),(16,(e 0)),(15,(e 0)),(14,v14),(13,v13),(12,v12),(11,v11),(10,(e 1)),(9,(e 0))]) ds W2))) (fun ch3 W3=>K (.panic ch3) (Env.of e [(20,v20),(19,v19),(18,v18),(17,(e 1)),(16,(e 0)),(15,(e 0)),(14,v14),(13,v13),(12,v12),(11,v11),(10,(e 1)),(9,(e 0))]) ds W3))) (K (.exit 0) (Env.of e [(14,v14),(13,v13),(12,v12),(11,v11),(10,(e 1)),(9,(e 0))]) ds W)):=by kernel_rfl
theorem f97_leave (Q:Ending→CW→Prop) (e:Env) (W:CW):wLeave prog Tryz.f97 Q .ret e [] W=Q (.returned (.tuple #[e 4,e 5])) W:=by kernel_rfl
theorem f97_w {Q:Ending→CW→Prop} {v0 v1:Value} {W:CW} (h:wCode prog pkL none 97 44 (bodyOf prog 97) (Env.args [v0,v1]) [] W (wLeave prog Tryz.f97 Q)):WCall prog pkL 97 [v0,v1] W Q:=wCall_of Tryz.func97 (by kernel_rfl) (by kernel_rfl) (by kernel_rfl) (by kernel_rfl) (by kernel_rfl) h
def f98_k2 (ro:Option Nat) (K:Kont):Kont:=seqK (fun e ds W=>K .ret (Env.of e [(4,(e 7)),(32,(e 7))]) ds W) K
theorem f98_c (v0 v1:Value) (K:Kont) (W:CW):wCode prog pkL none 98 33 (bodyOf prog 98) (Env.args [v0,v1]) [] W K=(WCall prog pkL 97 [v0,v1] W (onEnd (fun v12 W0=>wV (ext v12 0) fun v13=>wV (ext v12 1) fun v14=>wV (clen prog 40 v13 W0) fun v16=>wV (cbin prog .sub 3 true v16 (.int .i64 1)) fun v17=>WEnv prog pkL none 98 33 (.loop (loopAt prog 98 0)) (Env.of (Env.args [v0,v1]) [(8,v17),(17,v17),(16,v16),(15,v13),(7,(.slice none 0 0)),(6,v14),(5,v13),(14,v14),(13,v13),(9,v12),(12,v12),(11,v1),(10,v0),(4,(.slice none 0 0))]) [] W0 (blkK 0 (f98_k2 none K))) (fun ch1 W1=>K (.panic ch1) (Env.of (Env.args [v0,v1]) [(11,v1),(10,v0),(4,(.slice none 0 0))]) [] W1))):=by kernel_rfl
def f98_k3 (ro:Option Nat) (K:Kont):Kont:=seqK (fun e ds W=>wV (cbin prog .sub 3 true (e 8) (.int .i64 1)) fun v21=>K .normal (Env.of e [(8,v21),(21,v21),(20,(e 8))]) ds W) K
theorem f98_l0 (ro:Option Nat) (e:Env) (ds:List Deferred) (K:Kont) (W:CW):wCode prog pkL ro 98 33 (loopAt prog 98 0) e ds W K=(wV (cbin prog .geq 3 true (e 8) (.int .i64 0)) fun v19=>wI v19 (wV (iad prog 40 (e 5) (e 8)) fun v26=>wV (ld prog 3 v26 W) fun v27=>wV (iad prog 22 (e 0) v27) fun v28=>wV (fad prog 48 v28 2) fun v29=>wV (ld prog 45 v29 W) fun v30=>wVW (app prog [45,45] (e 7) v30 W) fun v31 W4=>(f98_k3 ro K) .normal (Env.of e [(7,v31),(31,v31),(30,v30),(29,v29),(28,v28),(27,v27),(26,v26),(25,(e 8)),(24,(e 5)),(23,(e 0)),(22,(e 7)),(19,v19),(18,(e 8))]) ds W4) (K (.exit 0) (Env.of e [(19,v19),(18,(e 8))]) ds W)):=by kernel_rfl
theorem f98_leave (Q:Ending→CW→Prop) (e:Env) (W:CW):wLeave prog Tryz.f98 Q .ret e [] W=Q (.returned (e 4)) W:=by kernel_rfl
theorem f98_w {Q:Ending→CW→Prop} {v0 v1:Value} {W:CW} (h:wCode prog pkL none 98 33 (bodyOf prog 98) (Env.args [v0,v1]) [] W (wLeave prog Tryz.f98 Q)):WCall prog pkL 98 [v0,v1] W Q:=wCall_of Tryz.func98 (by kernel_rfl) (by kernel_rfl) (by kernel_rfl) (by kernel_rfl) (by kernel_rfl) h
def f88_k2 (ro:Option Nat) (K:Kont):Kont:=seqK (fun e ds W=>K .ret (Env.of e [(4,(e 6)),(25,(e 6))]) ds W) K
theorem f88_c (v0 v1:Value) (K:Kont) (W:CW):wCode prog pkL none 88 26 (bodyOf prog 88) (Env.args [v0,v1]) [] W K=(WCall prog pkL 98 [v0,v1] W (onEnd (fun v10 W0=>WEnv prog pkL none 88 26 (.loop (loopAt prog 88 0)) (Env.of (Env.args [v0,v1]) [(7,(.int .i64 0)),(6,(.slice none 0 0)),(5,v10),(10,v10),(9,v1),(8,v0),(4,(.slice none 0 0))]) [] W0 (blkK 0 (f88_k2 none K))) (fun ch1 W1=>K (.panic ch1) (Env.of (Env.args [v0,v1]) [(9,v1),(8,v0),(4,(.slice none 0 0))]) [] W1))):=by kernel_rfl
def f88_k3 (ro:Option Nat) (K:Kont):Kont:=seqK (fun e ds W=>wV (cbin prog .add 3 true (e 7) (.int .i64 1)) fun v16=>K .normal (Env.of e [(7,v16),(16,v16),(15,(e 7))]) ds W) K
theorem f88_l0 (ro:Option Nat) (e:Env) (ds:List Deferred) (K:Kont) (W:CW):wCode prog pkL ro 88 26 (loopAt prog 88 0) e ds W K=(wV (clen prog 45 (e 5) W) fun v13=>wV (cbin prog .lss 3 false (e 7) v13) fun v14=>wI v14 (wV (iad prog 45 (e 5) (e 7)) fun v20=>wV (fad prog 72 v20 1) fun v21=>wV (ld prog 5 v21 W) fun v22=>wVW (bsl prog 29 1 [(0,v22)] W) fun v23 W4=>wVW (app prog [29,29] (e 6) v23 W4) fun v24 W5=>(f88_k3 ro K) .normal (Env.of e [(6,v24),(24,v24),(23,v23),(22,v22),(21,v21),(20,v20),(19,(e 7)),(18,(e 5)),(17,(e 6)),(14,v14),(13,v13),(12,(e 5)),(11,(e 7))]) ds W5) (K (.exit 0) (Env.of e [(14,v14),(13,v13),(12,(e 5)),(11,(e 7))]) ds W)):=by kernel_rfl
theorem f88_leave (Q:Ending→CW→Prop) (e:Env) (W:CW):wLeave prog Tryz.f88 Q .ret e [] W=Q (.returned (e 4)) W:=by kernel_rfl
theorem f88_w {Q:Ending→CW→Prop} {v0 v1:Value} {W:CW} (h:wCode prog pkL none 88 26 (bodyOf prog 88) (Env.args [v0,v1]) [] W (wLeave prog Tryz.f88 Q)):WCall prog pkL 88 [v0,v1] W Q:=wCall_of Tryz.func88 (by kernel_rfl) (by kernel_rfl) (by kernel_rfl) (by kernel_rfl) (by kernel_rfl) h
theorem f70_c (v0 v1 v2:Value) (K:Kont) (W:CW):wCode prog pkL none 70 24 (bodyOf prog 70) (Env.args [v0,v1,v2]) [] W K=(wV (iad prog 22 v0 v1) fun v9=>wV (fad prog 48 v9 3) fun v10=>wV (ld prog 5 v10 W) fun v11=>wV (cbin prog .neq 5 true v11 (.int .u8 0)) fun v12=>wI v12 (wV (iad prog 22 v0 v1) fun v15=>wV (fad prog 48 v15 3) fun v16=>wV (ld prog 5 v16 W) fun v17=>K .ret (Env.of (Env.args [v0,v1,v2]) [(6,v17),(17,v17),(16,v16),(15,v15),(14,v1),(13,v0),(12,v12),(11,v11),(10,v10),(9,v9),(8,v1),(7,v0),(6,(.int .u8 0))]) [] W) (WCall prog pkL 88 [v0,v1] W (onEnd (fun v20 W0=>wV (iad prog 29 v20 v2) fun v22=>wV (ld prog 5 v22 W0) fun v23=>K .ret (Env.of (Env.args [v0,v1,v2]) [(6,v23),(23,v23),(22,v22),(21,v2),(20,v20),(19,v1),(18,v0),(12,v12),(11,v11),(10,v10),(9,v9),(8,v1),(7,v0),(6,(.int .u8 0))]) [] W0) (fun ch1 W1=>K (.panic ch1) (Env.of (Env.args [v0,v1,v2]) [(19,v1),(18,v0),(12,v12),(11,v11),(10,v10),(9,v9),(8,v1),(7,v0),(6,(.int .u8 0))]) [] W1)))):=by kernel_rfl
theorem f70_leave (Q:Ending→CW→Prop) (e:Env) (W:CW):wLeave prog Tryz.f70 Q .ret e [] W=Q (.returned (e 6)) W:=by kernel_rfl
theorem f70_w {Q:Ending→CW→Prop} {v0 v1 v2:Value} {W:CW} (h:wCode prog pkL none 70 24 (bodyOf prog 70) (Env.args [v0,v1,v2]) [] W (wLeave prog Tryz.f70 Q)):WCall prog pkL 70 [v0,v1,v2] W Q:=wCall_of Tryz.func70 (by kernel_rfl) (by kernel_rfl) (by kernel_rfl) (by kernel_rfl) (by kernel_rfl) h
def f66_k0 (ro:Option Nat) (K:Kont):Kont:=seqK (fun e ds W=>K .ret (Env.of e [(4,(.int .i64 (-1)))]) ds W) K
theorem f66_c (v0 v1:Value) (K:Kont) (W:CW):wCode prog pkL none 66 19 (bodyOf prog 66) (Env.args [v0,v1]) [] W K=(WEnv prog pkL none 66 19 (.loop (loopAt prog 66 0)) (Env.of (Env.args [v0,v1]) [(5,(.int .i64 0)),(4,(.int .i64 0))]) [] W (blkK 0 (f66_k0 none K))):=by kernel_rfl
def f66_k1 (ro:Option Nat) (K:Kont):Kont:=seqK (fun e ds W=>wV (cbin prog .add 3 true (e 5) (.int .i64 1)) fun v11=>K .normal (Env.of e [(5,v11),(11,v11),(10,(e 5))]) ds W) K
theorem f66_l0 (ro:Option Nat) (e:Env) (ds:List Deferred) (K:Kont) (W:CW):wCode prog pkL ro 66 19 (loopAt prog 66 0) e ds W K=(wV (clen prog 51 (e 0) W) fun v8=>wV (cbin prog .lss 3 false (e 5) v8) fun v9=>wI v9 (wV (iad prog 51 (e 0) (e 5)) fun v14=>wV (ld prog 9 v14 W) fun v15=>wV (cbin prog .eql 9 false v15 (e 1)) fun v17=>wI v17 ((f66_k1 ro K) .ret (Env.of e [(4,(e 5)),(18,(e 5)),(17,v17),(16,(e 1)),(15,v15),(14,v14),(13,(e 5)),(12,(e 0)),(9,v9),(8,v8),(7,(e 0)),(6,(e 5))]) ds W) ((f66_k1 ro K) .normal (Env.of e [(17,v17),(16,(e 1)),(15,v15),(14,v14),(13,(e 5)),(12,(e 0)),(9,v9),(8,v8),(7,(e 0)),(6,(e 5))]) ds W)) (K (.exit 0) (Env.of e [(9,v9),(8,v8),(7,(e 0)),(6,(e 5))]) ds W)):=by kernel_rfl
theorem f66_leave (Q:Ending→CW→Prop) (e:Env) (W:CW):wLeave prog Tryz.f66 Q .ret e [] W=Q (.returned (e 4)) W:=by kernel_rfl
theorem f66_w {Q:Ending→CW→Prop} {v0 v1:Value} {W:CW} (h:wCode prog pkL none 66 19 (bodyOf prog 66) (Env.args [v0,v1]) [] W (wLeave prog Tryz.f66 Q)):WCall prog pkL 66 [v0,v1] W Q:=wCall_of Tryz.func66 (by kernel_rfl) (by kernel_rfl) (by kernel_rfl) (by kernel_rfl) (by kernel_rfl) h
theorem f67_c (v0:Value) (K:Kont) (W:CW):wCode prog pkL none 67 17 (bodyOf prog 67) (Env.args [v0]) [] W K=(wV (cbin prog .lss 3 true v0 (.int .i64 128)) fun v4=>wI v4 (wV (cvw prog 3 5 v0) fun v6=>wVW (bsl prog 29 1 [(0,v6)] W) fun v7 W0=>K .ret (Env.of (Env.args [v0]) [(2,v7),(7,v7),(6,v6),(5,v0),(4,v4),(3,v0),(2,(.slice none 0 0))]) [] W0) (wV (cbin prog .rem 3 true v0 (.int .i64 128)) fun v9=>wV (cbin prog .add 3 true v9 (.int .i64 128)) fun v10=>wV (cvw prog 3 5 v10) fun v11=>wVW (bsl prog 29 1 [(0,v11)] W) fun v12 W1=>wV (cbin prog .quo 3 true v0 (.int .i64 128)) fun v14=>WCall prog pkL 67 [v14] W1 (onEnd (fun v15 W2=>wVW (app prog [29,29] v12 v15 W2) fun v16 W4=>K .ret (Env.of (Env.args [v0]) [(2,v16),(16,v16),(15,v15),(14,v14),(13,v0),(12,v12),(11,v11),(10,v10),(9,v9),(8,v0),(4,v4),(3,v0),(2,(.slice none 0 0))]) [] W4) (fun ch3 W3=>K (.panic ch3) (Env.of (Env.args [v0]) [(14,v14),(13,v0),(12,v12),(11,v11),(10,v10),(9,v9),(8,v0),(4,v4),(3,v0),(2,(.slice none 0 0))]) [] W3)))):=by kernel_rfl
theorem f67_leave (Q:Ending→CW→Prop) (e:Env) (W:CW):wLeave prog Tryz.f67 Q .ret e [] W=Q (.returned (e 2)) W:=by kernel_rfl
theorem f67_w {Q:Ending→CW→Prop} {v0:Value} {W:CW} (h:wCode prog pkL none 67 17 (bodyOf prog 67) (Env.args [v0]) [] W (wLeave prog Tryz.f67 Q)):WCall prog pkL 67 [v0] W Q:=wCall_of Tryz.func67 (by kernel_rfl) (by kernel_rfl) (by kernel_rfl) (by kernel_rfl) (by kernel_rfl) h
theorem f68_c (v0:Value) (K:Kont) (W:CW):wCode prog pkL none 68 9 (bodyOf prog 68) (Env.args [v0]) [] W K=(wV (clen prog 9 v0 W) fun v4=>WCall prog pkL 67 [v4] W (onEnd (fun v5 W0=>wVW (cvs prog 9 29 v0 W0) fun v7 W2=>wVW (app prog [29,29] v5 v7 W2) fun v8 W3=>K .ret (Env.of (Env.args [v0]) [(2,v8),(8,v8),(7,v7),(6,v0),(5,v5),(4,v4),(3,v0),(2,(.slice none 0 0))]) [] W3) (fun ch1 W1=>K (.panic ch1) (Env.of (Env.args [v0]) [(4,v4),(3,v0),(2,(.slice none 0 0))]) [] W1))):=by kernel_rfl
theorem f68_leave (Q:Ending→CW→Prop) (e:Env) (W:CW):wLeave prog Tryz.f68 Q .ret e [] W=Q (.returned (e 2)) W:=by kernel_rfl
theorem f68_w {Q:Ending→CW→Prop} {v0:Value} {W:CW} (h:wCode prog pkL none 68 9 (bodyOf prog 68) (Env.args [v0]) [] W (wLeave prog Tryz.f68 Q)):WCall prog pkL 68 [v0] W Q:=wCall_of Tryz.func68 (by kernel_rfl) (by kernel_rfl) (by kernel_rfl) (by kernel_rfl) (by kernel_rfl) h
theorem f71_c (v0:Value) (K:Kont) (W:CW):wCode prog pkL none 71 10 (bodyOf prog 71) (Env.args [v0]) [] W K=(wV (cbin prog .lss 3 true v0 (.int .i64 0)) fun v4=>wI v4 (wV (cbin prog .mul 3 true (.int .i64 (-2)) v0) fun v6=>wV (cbin prog .sub 3 true v6 (.int .i64 1)) fun v7=>K .ret (Env.of (Env.args [v0]) [(2,v7),(7,v7),(6,v6),(5,v0),(4,v4),(3,v0),(2,(.int .i64 0))]) [] W) (wV (cbin prog .mul 3 true (.int .i64 2) v0) fun v9=>K .ret (Env.of (Env.args [v0]) [(2,v9),(9,v9),(8,v0),(4,v4),(3,v0),(2,(.int .i64 0))]) [] W)):=by kernel_rfl
theorem f71_leave (Q:Ending→CW→Prop) (e:Env) (W:CW):wLeave prog Tryz.f71 Q .ret e [] W=Q (.returned (e 2)) W:=by kernel_rfl
theorem f71_w {Q:Ending→CW→Prop} {v0:Value} {W:CW} (h:wCode prog pkL none 71 10 (bodyOf prog 71) (Env.args [v0]) [] W (wLeave prog Tryz.f71 Q)):WCall prog pkL 71 [v0] W Q:=wCall_of Tryz.func71 (by kernel_rfl) (by kernel_rfl) (by kernel_rfl) (by kernel_rfl) (by kernel_rfl) h
end Go.Ce
namespace Go.Ce
open Go Go.Proofs Go.Proofs.Tryz
def f69_k0 (ro:Option Nat) (K:Kont):Kont:=seqK (fun e ds W=>K .ret (Env.of e [(4,(.int .i64 (-1)))]) ds W) K
theorem f69_c (v0 v1:Value) (K:Kont) (W:CW):wCode prog pkL none 69 20 (bodyOf prog 69) (Env.args [v0,v1]) [] W K=(WEnv prog pkL none 69 20 (.loop (loopAt prog 69 0)) (Env.of (Env.args [v0,v1]) [(5,(.int .i64 0)),(4,(.int .i64 0))]) [] W (blkK 0 (f69_k0 none K))):=by kernel_rfl
def f69_k1 (ro:Option Nat) (K:Kont):Kont:=seqK (fun e ds W=>wV (cbin prog .add 3 true (e 5) (.int .i64 1)) fun v11=>K .normal (Env.of e [(5,v11),(11,v11),(10,(e 5))]) ds W) K
theorem f69_l0 (ro:Option Nat) (e:Env) (ds:List Deferred) (K:Kont) (W:CW):wCode prog pkL ro 69 20 (loopAt prog 69 0) e ds W K=(wV (clen prog 22 (e 0) W) fun v8=>wV (cbin prog .lss 3 false (e 5) v8) fun v9=>wI v9 (wV (iad prog 22 (e 0) (e 5)) fun v14=>wV (fad prog 48 v14 0) fun v15=>wV (ld prog 9 v15 W) fun v16=>wV (cbin prog .eql 9 false v16 (e 1)) fun v18=>wI v18 ((f69_k1 ro K) .ret (Env.of e [(4,(e 5)),(19,(e 5)),(18,v18),(17,(e 1)),(16,v16),(15,v15),(14,v14),(13,(e 5)),(12,(e 0)),(9,v9),(8,v8),(7,(e 0)),(6,(e 5))]) ds W) ((f69_k1 ro K) .normal (Env.of e [(18,v18),(17,(e 1)),(16,v16),(15,v15),(14,v14),(13,(e 5)),(12,(e 0)),(9,v9),(8,v8),(7,(e 0)),(6,(e 5))]) ds W)) (K (.exit 0) (Env.of e [(9,v9),(8,v8),(7,(e 0)),(6,(e 5))]) ds W)):=by kernel_rfl
theorem f69_leave (Q:Ending→CW→Prop) (e:Env) (W:CW):wLeave prog Tryz.f69 Q .ret e [] W=Q (.returned (e 4)) W:=by kernel_rfl
theorem f69_w {Q:Ending→CW→Prop} {v0 v1:Value} {W:CW} (h:wCode prog pkL none 69 20 (bodyOf prog 69) (Env.args [v0,v1]) [] W (wLeave prog Tryz.f69 Q)):WCall prog pkL 69 [v0,v1] W Q:=wCall_of Tryz.func69 (by kernel_rfl) (by kernel_rfl) (by kernel_rfl) (by kernel_rfl) (by kernel_rfl) h
def f103_k0 (ro:Option Nat) (K:Kont):Kont:=seqK (fun e ds W=>K .ret e ds W) K
theorem f103_c (v0 v1 v2:Value) (K:Kont) (W:CW):wCode prog pkL none 103 15 (bodyOf prog 103) (Env.args [v0,v1,v2]) [] W K=(wV (cbin prog .geq 3 false v0 v1) fun v9=>wI v9 (wV (cbin prog .leq 3 false v0 v2) fun v13=>(f103_k0 none K) .normal (Env.of (Env.args [v0,v1,v2]) [(6,v13),(14,v13),(13,v13),(10,(.bool true)),(12,v2),(10,(.bool true)),(11,v0),(10,(.bool true)),(10,v9),(9,v9),(8,v1),(7,v0),(6,(.bool false))]) [] W) ((f103_k0 none K) .normal (Env.of (Env.args [v0,v1,v2]) [(6,(.bool false)),(14,(.bool false)),(13,undef),(10,(.bool false)),(12,undef),(10,(.bool false)),(11,undef),(10,(.bool false)),(10,v9),(9,v9),(8,v1),(7,v0),(6,(.bool false))]) [] W)):=by kernel_rfl
theorem f103_leave (Q:Ending→CW→Prop) (e:Env) (W:CW):wLeave prog Tryz.f103 Q .ret e [] W=Q (.returned (e 6)) W:=by kernel_rfl
theorem f103_w {Q:Ending→CW→Prop} {v0 v1 v2:Value} {W:CW} (h:wCode prog pkL none 103 15 (bodyOf prog 103) (Env.args [v0,v1,v2]) [] W (wLeave prog Tryz.f103 Q)):WCall prog pkL 103 [v0,v1,v2] W Q:=wCall_of Tryz.func103 (by kernel_rfl) (by kernel_rfl) (by kernel_rfl) (by kernel_rfl) (by kernel_rfl) h
def f100_k0 (ro:Option Nat) (K:Kont):Kont:=seqK (fun e ds W=>K .ret e ds W) K
theorem f100_c (v0:Value) (K:Kont) (W:CW):wCode prog pkL none 100 9 (bodyOf prog 100) (Env.args [v0]) [] W K=(wV (cbin prog .eql 5 true v0 (.int .u8 1)) fun v4=>wI v4 ((f100_k0 none K) .normal (Env.of (Env.args [v0]) [(2,(.bool true)),(8,(.bool true)),(7,undef),(5,(.bool true)),(6,undef),(5,(.bool true)),(5,v4),(4,v4),(3,v0),(2,(.bool false))]) [] W) (wV (cbin prog .eql 5 true v0 (.int .u8 2)) fun v7=>(f100_k0 none K) .normal (Env.of (Env.args [v0]) [(2,v7),(8,v7),(7,v7),(5,(.bool false)),(6,v0),(5,(.bool false)),(5,v4),(4,v4),(3,v0),(2,(.bool false))]) [] W)):=by kernel_rfl
theorem f100_leave (Q:Ending→CW→Prop) (e:Env) (W:CW):wLeave prog Tryz.f100 Q .ret e [] W=Q (.returned (e 2)) W:=by kernel_rfl
theorem f100_w {Q:Ending→CW→Prop} {v0:Value} {W:CW} (h:wCode prog pkL none 100 9 (bodyOf prog 100) (Env.args [v0]) [] W (wLeave prog Tryz.f100 Q)):WCall prog pkL 100 [v0] W Q:=wCall_of Tryz.func100 (by kernel_rfl) (by kernel_rfl) (by kernel_rfl) (by kernel_rfl) (by kernel_rfl) h
def f101_k0 (ro:Option Nat) (K:Kont):Kont:=seqK (fun e ds W=>K .ret e ds W) K
theorem f101_c (v0:Value) (K:Kont) (W:CW):wCode prog pkL none 101 12 (bodyOf prog 101) (Env.args [v0]) [] W K=(wV (clen prog 9 v0 W) fun v4=>WCall prog pkL 103 [v4,(.int .i64 1),(.int .i64 60)] W (onEnd (fun v5 W1=>wI v5 (wVW (cvs prog 9 29 v0 W1) fun v8 W3=>WCall prog pkL 123 [v8,(.func (.func 124) #[] #[])] W3 (onEnd (fun v9 W4=>wV (ngt v9) fun v10=>(f101_k0 none K) .normal (Env.of (Env.args [v0]) [(2,v10),(11,v10),(10,v10),(6,(.bool true)),(9,v9),(6,(.bool true)),(8,v8),(6,(.bool true)),(7,v0),(6,(.bool true)),(6,v5),(5,v5),(4,v4),(3,v0),(2,(.bool false))]) [] W4) (fun ch5 W5=>(f101_k0 none K) (.panic ch5) (Env.of (Env.args [v0]) [(6,(.bool true)),(8,v8),(6,(.bool true)),(7,v0),(6,(.bool true)),(6,v5),(5,v5),(4,v4),(3,v0),(2,(.bool false))]) [] W5))) ((f101_k0 none K) .normal (Env.of (Env.args [v0]) [(2,(.bool false)),(11,(.bool false)),(10,undef),(6,(.bool false)),(9,undef),(6,(.bool false)),(8,undef),(6,(.bool false)),(7,undef),(6,(.bool false)),(6,v5),(5,v5),(4,v4),(3,v0),(2,(.bool false))]) [] W1)) (fun ch2 W2=>(f101_k0 none K) (.panic ch2) (Env.of (Env.args [v0]) [(4,v4),(3,v0),(2,(.bool false))]) [] W2))):=by kernel_rfl
theorem f101_leave (Q:Ending→CW→Prop) (e:Env) (W:CW):wLeave prog Tryz.f101 Q .ret e [] W=Q (.returned (e 2)) W:=by kernel_rfl
theorem f101_w {Q:Ending→CW→Prop} {v0:Value} {W:CW} (h:wCode prog pkL none 101 12 (bodyOf prog 101) (Env.args [v0]) [] W (wLeave prog Tryz.f101 Q)):WCall prog pkL 101 [v0] W Q:=wCall_of Tryz.func101 (by kernel_rfl) (by kernel_rfl) (by kernel_rfl) (by kernel_rfl) (by kernel_rfl) h
theorem f123_c (v0 v1:Value) (K:Kont) (W:CW):wCode prog pkL none 123 9 (bodyOf prog 123) (Env.args [v0,v1]) [] W K=(WCall prog pkL 140 [v0,v1] W (onEnd (fun v7 W0=>wV (cbin prog .geq 3 true v7 (.int .i64 0)) fun v8=>K .ret (Env.of (Env.args [v0,v1]) [(4,v8),(8,v8),(7,v7),(6,v1),(5,v0),(4,(.bool false))]) [] W0) (fun ch1 W1=>K (.panic ch1) (Env.of (Env.args [v0,v1]) [(6,v1),(5,v0),(4,(.bool false))]) [] W1))):=by kernel_rfl
theorem f123_leave (Q:Ending→CW→Prop) (e:Env) (W:CW):wLeave prog Tryz.f123 Q .ret e [] W=Q (.returned (e 4)) W:=by kernel_rfl
theorem f123_w {Q:Ending→CW→Prop} {v0 v1:Value} {W:CW} (h:wCode prog pkL none 123 9 (bodyOf prog 123) (Env.args [v0,v1]) [] W (wLeave prog Tryz.f123 Q)):WCall prog pkL 123 [v0,v1] W Q:=wCall_of Tryz.func123 (by kernel_rfl) (by kernel_rfl) (by kernel_rfl) (by kernel_rfl) (by kernel_rfl) h
def f140_k0 (ro:Option Nat) (K:Kont):Kont:=seqK (fun e ds W=>K .ret (Env.of e [(4,(.int .i64 (-1)))]) ds W) K
theorem f140_c (v0 v1:Value) (K:Kont) (W:CW):wCode prog pkL none 140 19 (bodyOf prog 140) (Env.args [v0,v1]) [] W K=(wV (clen prog 29 v0 W) fun v7=>WEnv prog pkL none 140 19 (.loop (loopAt prog 140 0)) (Env.of (Env.args [v0,v1]) [(8,(.int .i64 0)),(7,v7),(6,v0),(4,(.int .i64 0))]) [] W (blkK 0 (f140_k0 none K))):=by kernel_rfl
def f140_k1 (ro:Option Nat) (K:Kont):Kont:=seqK (fun e ds W=>wV (cbin prog .add 3 true (e 8) (.int .i64 1)) fun v18=>K .normal (Env.of e [(8,v18),(18,v18)]) ds W) K
theorem f140_l0 (ro:Option Nat) (e:Env) (ds:List Deferred) (K:Kont) (W:CW):wCode prog pkL ro 140 19 (loopAt prog 140 0) e ds W K=(wV (cbin prog .lss 3 false (e 8) (e 7)) fun v9=>wI v9 (wV (iad prog 29 (e 0) (e 8)) fun v14=>wV (ld prog 5 v14 W) fun v15=>wCallV prog pkL (e 1) [v15] W (fun v16 W2=>wI v16 ((f140_k1 ro K) .ret (Env.of e [(4,(e 8)),(17,(e 8)),(16,v16),(15,v15),(14,v14),(13,(e 8)),(12,(e 0)),(11,(e 1)),(5,(e 8)),(10,(e 8)),(9,v9)]) ds W2) ((f140_k1 ro K) .normal (Env.of e [(16,v16),(15,v15),(14,v14),(13,(e 8)),(12,(e 0)),(11,(e 1)),(5,(e 8)),(10,(e 8)),(9,v9)]) ds W2)) (fun ch3 W3=>(f140_k1 ro K) (.panic ch3) (Env.of e [(15,v15),(14,v14),(13,(e 8)),(12,(e 0)),(11,(e 1)),(5,(e 8)),(10,(e 8)),(9,v9)]) ds W3)) (K (.exit 0) (Env.of e [(9,v9)]) ds W)):=by kernel_rfl
theorem f140_leave (Q:Ending→CW→Prop) (e:Env) (W:CW):wLeave prog Tryz.f140 Q .ret e [] W=Q (.returned (e 4)) W:=by kernel_rfl
theorem f140_w {Q:Ending→CW→Prop} {v0 v1:Value} {W:CW} (h:wCode prog pkL none 140 19 (bodyOf prog 140) (Env.args [v0,v1]) [] W (wLeave prog Tryz.f140 Q)):WCall prog pkL 140 [v0,v1] W Q:=wCall_of Tryz.func140 (by kernel_rfl) (by kernel_rfl) (by kernel_rfl) (by kernel_rfl) (by kernel_rfl) h
def f124_k0 (ro:Option Nat) (K:Kont):Kont:=seqK (fun e ds W=>K .ret e ds W) K
theorem f124_c (v0:Value) (K:Kont) (W:CW):wCode prog pkL none 124 9 (bodyOf prog 124) (Env.args [v0]) [] W K=(wV (cbin prog .lss 5 true v0 (.int .u8 33)) fun v4=>wI v4 ((f124_k0 none K) .normal (Env.of (Env.args [v0]) [(2,(.bool true)),(8,(.bool true)),(7,undef),(5,(.bool true)),(6,undef),(5,(.bool true)),(5,v4),(4,v4),(3,v0),(2,(.bool false))]) [] W) (wV (cbin prog .gtr 5 true v0 (.int .u8 126)) fun v7=>(f124_k0 none K) .normal (Env.of (Env.args [v0]) [(2,v7),(8,v7),(7,v7),(5,(.bool false)),(6,v0),(5,(.bool false)),(5,v4),(4,v4),(3,v0),(2,(.bool false))]) [] W)):=by kernel_rfl
theorem f124_leave (Q:Ending→CW→Prop) (e:Env) (W:CW):wLeave prog Tryz.f124 Q .ret e [] W=Q (.returned (e 2)) W:=by kernel_rfl
theorem f124_w {Q:Ending→CW→Prop} {v0:Value} {W:CW} (h:wCode prog pkL none 124 9 (bodyOf prog 124) (Env.args [v0]) [] W (wLeave prog Tryz.f124 Q)):WCall prog pkL 124 [v0] W Q:=wCall_of Tryz.func124 (by kernel_rfl) (by kernel_rfl) (by kernel_rfl) (by kernel_rfl) (by kernel_rfl) h
theorem f102_c (v0 v1:Value) (K:Kont) (W:CW):wCode prog pkL none 102 17 (bodyOf prog 102) (Env.args [v0,v1]) [] W K=(wVW (bxw prog 78 v0 W) fun v2 W0=>wVW (mkm W0) fun v9 W1=>wVW (alc prog 181 W1) fun v6 W2=>wV (sto prog 181 v6 v9 W2) fun W3=>wVW (mkm W3) fun v10 W4=>wVW (alc prog 181 W4) fun v7 W5=>wV (sto prog 181 v7 v10 W5) fun W6=>wVW (alc prog 161 W6) fun v8 W7=>wV (some (.func (.func 125) #[] #[v2,v6,v8,v7])) fun v11=>wV (sto prog 161 v8 v11 W7) fun W8=>wV (ld prog 161 v8 W8) fun v12=>wCallV prog pkL v12 [v1] W8 (fun v14 W9=>wV (ext v14 0) fun v15=>wV (ext v14 1) fun v16=>K .ret (Env.of (Env.args [v0,v1]) [(5,v16),(4,v15),(16,v16),(15,v15),(14,v14),(13,v1),(12,v12),(11,v11),(8,v8),(7,v7),(10,v10),(6,v6),(9,v9),(5,(.bool false)),(4,(.slice none 0 0)),(2,v2)]) [] W9) (fun ch10 W10=>K (.panic ch10) (Env.of (Env.args [v0,v1]) [(13,v1),(12,v12),(11,v11),(8,v8),(7,v7),(10,v10),(6,v6),(9,v9),(5,(.bool false)),(4,(.slice none 0 0)),(2,v2)]) [] W10)):=by kernel_rfl
theorem f102_leave (Q:Ending→CW→Prop) (e:Env) (W:CW):wLeave prog Tryz.f102 Q .ret e [] W=Q (.returned (.tuple #[e 4,e 5])) W:=by kernel_rfl
theorem f102_w {Q:Ending→CW→Prop} {v0 v1:Value} {W:CW} (h:wCode prog pkL none 102 17 (bodyOf prog 102) (Env.args [v0,v1]) [] W (wLeave prog Tryz.f102 Q)):WCall prog pkL 102 [v0,v1] W Q:=wCall_of Tryz.func102 (by kernel_rfl) (by kernel_rfl) (by kernel_rfl) (by kernel_rfl) (by kernel_rfl) h
def f125_k3 (ro:Option Nat) (K:Kont):Kont:=seqK (fun e ds W=>wV (clen prog 29 (e 10) W) fun v82=>wV (cbin prog .leq 3 true v82 (.int .i64 60)) fun v83=>K .ret (Env.of e [(7,v83),(6,(e 10)),(83,v83),(82,v82),(81,(e 10)),(80,(e 10))]) ds W) K
def f125_k4 (ro:Option Nat) (K:Kont):Kont:=seqK (fun e ds W=>wV (fad prog 48 (e 8) 2) fun v48=>wV (ld prog 45 v48 W) fun v49=>wV (clen prog 45 v49 W) fun v50=>WEnv prog pkL ro 125 84 (.loop (loopAt prog 125 0)) (Env.of e [(51,(.int .i64 0)),(50,v50),(49,v49),(48,v48)]) ds W (blkK 0 (f125_k3 ro K))) K
def f125_k7 (ro:Option Nat) (K:Kont):Kont:=seqK (fun e ds W=>wV (ld prog 181 (e 2) W) fun v27=>wV (mup prog 181 v27 (e 0) (.bool true) W) fun W2=>wV (fad prog 48 (e 8) 1) fun v29=>wV (ld prog 9 v29 W2) fun v30=>wV (cbin prog .neq 9 true v30 (.string ⟨#[]⟩)) fun v31=>wI v31 (wV (fad prog 78 (e 1) 0) fun v32=>wV (ld prog 75 v32 W2) fun v33=>wV (fad prog 48 (e 8) 1) fun v34=>wV (ld prog 9 v34 W2) fun v35=>wV (lkp prog 75 v33 v35 false W2) fun v36=>wV (fld prog 48 v36 3) fun v37=>wV (cbin prog .neq 5 true v37 (.int .u8 0)) fun v38=>wI v38 ((f125_k4 ro K) .ret (Env.of e [(7,(.bool false)),(6,(.slice none 0 0)),(38,v38),(37,v37),(36,v36),(35,v35),(34,v34),(33,v33),(32,v32),(31,v31),(30,v30),(29,v29),(10,(.slice none 0 0)),(28,(e 0)),(27,v27)]) ds W2) (wV (ld prog 161 (e 3) W2) fun v40=>wV (fad prog 48 (e 8) 1) fun v41=>wV (ld prog 9 v41 W2) fun v42=>wCallV prog pkL v40 [v42] W2 (fun v43 W5=>wV (ext v43 0) fun v44=>wV (ext v43 1) fun v45=>wV (ngt v45) fun v47=>wI v47 ((f125_k4 ro K) .ret (Env.of e [(7,(.bool false)),(6,(.slice none 0 0)),(47,v47),(46,v45),(9,v45),(10,v44),(45,v45),(44,v44),(39,v43),(43,v43),(42,v42),(41,v41),(40,v40),(38,v38),(37,v37),(36,v36),(35,v35),(34,v34),(33,v33),(32,v32),(31,v31),(30,v30),(29,v29),(10,(.slice none 0 0)),(28,(e 0)),(27,v27)]) ds W5) ((f125_k4 ro K) .normal (Env.of e [(47,v47),(46,v45),(9,v45),(10,v44),(45,v45),(44,v44),(39,v43),(43,v43),(42,v42),(41,v41),(40,v40),(38,v38),(37,v37),(36,v36),(35,v35),(34,v34),(33,v33),(32,v32),(31,v31),(30,v30),(29,v29),(10,(.slice none 0 0)),(28,(e 0)),(27,v27)]) ds W5)) (fun ch6 W6=>(f125_k4 ro K) (.panic ch6) (Env.of e [(42,v42),(41,v41),(40,v40),(38,v38),(37,v37),(36,v36),(35,v35),(34,v34),(33,v33),(32,v32),(31,v31),(30,v30),(29,v29),(10,(.slice none 0 0)),(28,(e 0)),(27,v27)]) ds W6))) ((f125_k4 ro K) .normal (Env.of e [(31,v31),(30,v30),(29,v29),(10,(.slice none 0 0)),(28,(e 0)),(27,v27)]) ds W2)) K
def f125_k8 (ro:Option Nat) (K:Kont):Kont:=seqK (fun e ds W=>wI (e 26) ((f125_k7 ro K) .ret (Env.of e [(7,(.bool false)),(6,(.slice none 0 0))]) ds W) ((f125_k7 ro K) .normal e ds W)) (f125_k7 ro K)
theorem f125_c (v0 v1 v2 v3 v4:Value) (K:Kont) (W:CW):wCode prog pkL none 125 84 (bodyOf prog 125) (Env.args [v0,v1,v2,v3,v4]) [] W K=(wV (fad prog 78 v1 0) fun v14=>wV (ld prog 75 v14 W) fun v15=>wV (lkp prog 75 v15 v0 true W) fun v17=>wV (ext v17 0) fun v18=>wV (ext v17 1) fun v19=>wVW (alc prog 48 W) fun v8 W0=>wV (sto prog 48 v8 v18 W0) fun W1=>wV (ngt v19) fun v21=>wI v21 ((f125_k8 none K) .normal (Env.of (Env.args [v0,v1,v2,v3,v4]) [(26,(.bool true)),(25,undef),(22,(.bool true)),(24,undef),(22,(.bool true)),(23,undef),(22,(.bool true)),(22,v21),(21,v21),(20,v19),(9,v19),(8,v8),(19,v19),(18,v18),(13,v17),(17,v17),(16,v0),(15,v15),(14,v14),(7,(.bool false)),(6,(.slice none 0 0))]) [] W1) (wV (ld prog 181 v2 W1) fun v23=>wV (lkp prog 181 v23 v0 false W1) fun v25=>(f125_k8 none K) .normal (Env.of (Env.args [v0,v1,v2,v3,v4]) [(26,v25),(25,v25),(22,(.bool false)),(24,v0),(22,(.bool false)),(23,v23),(22,(.bool false)),(22,v21),(21,v21),(20,v19),(9,v19),(8,v8),(19,v19),(18,v18),(13,v17),(17,v17),(16,v0),(15,v15),(14,v14),(7,(.bool false)),(6,(.slice none 0 0))]) [] W1)):=by kernel_rfl
def f125_k9 (ro:Option Nat) (K:Kont):Kont:=seqK (fun e ds W=>wV (cbin prog .add 3 true (e 51) (.int .i64 1)) fun v79=>K .normal (Env.of e [(51,v79),(79,v79)]) ds W) K
def f125_k15 (ro:Option Nat) (K:Kont):Kont:=seqK (fun e ds W=>wV (ld prog 181 (e 4) W) fun v71=>wV (fad prog 72 (e 12) 0) fun v72=>wV (ld prog 9 v72 W) fun v73=>wV (mup prog 181 v71 v73 (.bool true) W) fun W12=>wV (fad prog 72 (e 12) 1) fun v75=>wV (ld prog 5 v75 W12) fun v76=>wVW (bsl prog 29 1 [(0,v76)] W12) fun v77 W13=>wVW (app prog [29,29] (e 10) v77 W13) fun v78 W14=>(f125_k9 ro K) .normal (Env.of e [(10,v78),(78,v78),(77,v77),(76,v76),(75,v75),(74,(e 10)),(73,v73),(72,v72),(71,v71)]) ds W14) (blkK 1 (f125_k9 ro K))
def f125_k16 (ro:Option Nat) (K:Kont):Kont:=seqK (fun e ds W=>wI (e 70) ((f125_k15 ro K) .ret (Env.of e [(7,(.bool false)),(6,(.slice none 0 0))]) ds W) ((f125_k15 ro K) .normal e ds W)) (f125_k15 ro K)
theorem f125_l0 (ro:Option Nat) (e:Env) (ds:List Deferred) (K:Kont) (W:CW):wCode prog pkL ro 125 84 (loopAt prog 125 0) e ds W K=(wV (cbin prog .lss 3 false (e 51) (e 50)) fun v52=>wI v52 (wV (iad prog 45 (e 49) (e 51)) fun v53=>wV (ld prog 72 v53 W) fun v54=>wVW (alc prog 72 W) fun v12 W10=>wV (sto prog 72 v12 v54 W10) fun W11=>wV (fad prog 72 v12 0) fun v55=>wV (ld prog 9 v55 W11) fun v56=>WCall prog pkL 101 [v56] W11 (onEnd (fun v57 W17=>wV (ngt v57) fun v58=>wI v58 ((f125_k16 ro K) .normal (Env.of e [(70,(.bool true)),(69,undef),(65,(.bool true)),(68,undef),(65,(.bool true)),(67,undef),(65,(.bool true)),(66,undef),(65,(.bool true)),(65,(.bool true)),(64,(.bool true)),(63,undef),(59,(.bool true)),(62,undef),(59,(.bool true)),(61,undef),(59,(.bool true)),(60,undef),(59,(.bool true)),(59,v58),(58,v58),(57,v57),(56,v56),(55,v55),(12,v12),(54,v54),(53,v53),(52,v52)]) ds W17) (wV (fad prog 72 v12 1) fun v60=>wV (ld prog 5 v60 W17) fun v61=>WCall prog pkL 100 [v61] W17 (onEnd (fun v62 W19=>wV (ngt v62) fun v63=>wI v63 ((f125_k16 ro K) .normal (Env.of e [(70,(.bool true)),(69,undef),(65,(.bool true)),(68,undef),(65,(.bool true)),(67,undef),(65,(.bool true)),(66,undef),(65,(.bool true)),(65,v63),(64,v63),(63,v63),(59,(.bool false)),(62,v62),(59,(.bool false)),(61,v61),(59,(.bool false)),(60,v60),(59,(.bool false)),(59,v58),(58,v58),(57,v57),(56,v56),(55,v55),(12,v12),(54,v54),(53,v53),(52,v52)]) ds W19) (wV (ld prog 181 (e 4) W19) fun v66=>wV (fad prog 72 v12 0) fun v67=>wV (ld prog 9 v67 W19) fun v68=>wV (lkp prog 181 v66 v68 false W19) fun v69=>(f125_k16 ro K) .normal (Env.of e [(70,v69),(69,v69),(65,(.bool false)),(68,v68),(65,(.bool false)),(67,v67),(65,(.bool false)),(66,v66),(65,(.bool false)),(65,v63),(64,v63),(63,v63),(59,(.bool false)),(62,v62),(59,(.bool false)),(61,v61),(59,(.bool false)),(60,v60),(59,(.bool false)),(59,v58),(58,v58),(57,v57),(56,v56),(55,v55),(12,v12),(54,v54),(53,v53),(52,v52)]) ds W19)) (fun ch20 W20=>(f125_k16 ro K) (.panic ch20) (Env.of e [(59,(.bool false)),(61,v61),(59,(.bool false)),(60,v60),(59,(.bool false)),(59,v58),(58,v58),(57,v57),(56,v56),(55,v55),(12,v12),(54,v54),(53,v53),(52,v52)]) ds W20)))) (fun ch18 W18=>(f125_k16 ro K) (.panic ch18) (Env.of e [(56,v56),(55,v55),(12,v12),(54,v54),(53,v53),(52,v52)]) ds W18))) (K (.exit 0) (Env.of e [(52,v52)]) ds W)):=by kernel_rfl
theorem f125_leave (Q:Ending→CW→Prop) (e:Env) (W:CW):wLeave prog Tryz.f125 Q .ret e [] W=Q (.returned (.tuple #[e 6,e 7])) W:=by kernel_rfl
theorem f125_w {Q:Ending→CW→Prop} {v0 v1 v2 v3 v4:Value} {W:CW} (h:wCode prog pkL none 125 84 (bodyOf prog 125) (Env.args [v0,v1,v2,v3,v4]) [] W (wLeave prog Tryz.f125 Q)):WCall prog pkL 125 [v0,v1,v2,v3,v4] W Q:=wCall_of Tryz.func125 (by kernel_rfl) (by kernel_rfl) (by kernel_rfl) (by kernel_rfl) (by kernel_rfl) h
end Go.Ce
namespace Go.Ce
theorem obj_new (W:CW) (o:CObj) (b:Nat):(W.new o).obj b=if b=W.sz then some o else W.obj b:=by
 unfold CW.new CW.obj; simp only [Tr.get_set]
theorem obj_upd (W:CW) (i:Nat) (o:CObj) (b:Nat):(W.upd i o).obj b=if b=i then some o else W.obj b:=by
 unfold CW.upd CW.obj; simp only [Tr.get_set]
theorem sz_new (W:CW) (o:CObj):(W.new o).sz=W.sz+1:=rfl
theorem sz_upd (W:CW) (i:Nat) (o:CObj):(W.upd i o).sz=W.sz:=rfl
def CW.cell (W:CW) (b k:Nat):Option Value:=match W.obj b with
 | some (.cells c n z _)=>if k<n then some (cellAt c z k) else none
 | some (.fixed f n _)=>if k<n then some (f k) else none
 | _=>none
def Top (W:CW):Prop:=∀ i o,W.obj i=some o→i<W.sz
structure Kp (W W':CW):Prop where
 sz:W.sz≤W'.sz
 obj:∀ b,b<W.sz→W'.obj b=W.obj b
structure Upd (b:Nat) (W W':CW):Prop where
 sz:W'.sz=W.sz
 obj:∀ i,i≠b→W'.obj i=W.obj i
theorem Kp.refl (W:CW):Kp W W:=⟨Nat.le_refl _,fun _ _=>rfl⟩
theorem Kp.trans {A B C:CW} (h:Kp A B) (k:Kp B C):Kp A C:=⟨Nat.le_trans h.sz k.sz,fun b hb=>(k.obj b (Nat.lt_of_lt_of_le hb h.sz)).trans (h.obj b hb)⟩
theorem Kp.new {W:CW} (o:CObj):Kp W (W.new o):=⟨Nat.le_succ _,fun b hb=>by rw [obj_new,if_neg (Nat.ne_of_lt hb)]⟩
theorem Kp.upd {A B C:CW} {b:Nat} (h:Kp A B) (hb:A.sz≤b) (k:Upd b B C):Kp A C:=⟨by rw [k.sz]; exact h.sz,fun i hi=>(k.obj i (by omega)).trans (h.obj i hi)⟩
theorem Top.new {W:CW} (h:Top W) (o:CObj):Top (W.new o):=by
 intro i u hu
 rw [obj_new] at hu
 rw [sz_new]
 split at hu
 ·omega
 ·have:=h i u hu; omega
theorem Top.upd {W W':CW} {b:Nat} (h:Top W) (hb:b<W.sz) (k:Upd b W W'):Top W':=by
 intro i u hu
 rw [k.sz]
 by_cases e:i=b
 ·omega
 ·rw [k.obj i e] at hu; exact h i u hu
theorem Upd.of (W:CW) (b:Nat) (o:CObj):Upd b W (W.upd b o):=⟨rfl,fun i hi=>by rw [obj_upd,if_neg hi]⟩
theorem Upd.trans {b:Nat} {A B C:CW} (h:Upd b A B) (k:Upd b B C):Upd b A C:=⟨k.sz.trans h.sz,fun i hi=>(k.obj i hi).trans (h.obj i hi)⟩
theorem cell_lt {W:CW} (h:Top W) {b k:Nat} {v:Value} (hc:W.cell b k=some v):b<W.sz:=by
 unfold CW.cell at hc
 cases ho:W.obj b with
 | none=>rw [ho] at hc; cases hc
 | some o=>exact h b o ho
theorem cell_congr {W W':CW} {b:Nat} (h:W'.obj b=W.obj b) (k:Nat):W'.cell b k=W.cell b k:=by unfold CW.cell; rw [h]
theorem Kp.cell {W W':CW} (h:Kp W W') (ht:Top W) {b k:Nat} {v:Value} (hc:W.cell b k=some v):W'.cell b k=some v:=by
 rw [cell_congr (h.obj b (cell_lt ht hc))]; exact hc
theorem Upd.cell {W W':CW} {i:Nat} (h:Upd i W W') {b:Nat} (hb:b≠i) (k:Nat):W'.cell b k=W.cell b k:=cell_congr (h.obj b hb) k
def Blk (W:CW) (b:Nat) (e:TypeId) (vs:List Value):Prop:=∃ c n z,W.obj b=some (.cells c n z e)∧vs.length=n∧∀ k v,vs[k]?=some v→cellAt c z k=v
theorem Blk.cell {W:CW} {b:Nat} {e:TypeId} {vs:List Value} (h:Blk W b e vs) {k:Nat} {v:Value} (hk:vs[k]?=some v):W.cell b k=some v:=by
 obtain ⟨c,n,z,ho,hn,hv⟩:=h
 unfold CW.cell
 rw [ho]
 have:k<n:=by rw [←hn]; exact (List.getElem?_eq_some_iff.1 hk).1
 simp only [if_pos this,hv k v hk]
theorem Blk.congr {W W':CW} {b:Nat} {e:TypeId} {vs:List Value} (h:Blk W b e vs) (ho:W'.obj b=W.obj b):Blk W' b e vs:=by
 obtain ⟨c,n,z,h1,h2⟩:=h
 exact ⟨c,n,z,ho.trans h1,h2⟩
theorem Blk.lt {W:CW} (ht:Top W) {b:Nat} {e:TypeId} {vs:List Value} (h:Blk W b e vs):b<W.sz:=by
 obtain ⟨c,n,z,h1,h2⟩:=h
 exact ht _ _ h1
theorem Blk.ext {W W':CW} {b:Nat} {e:TypeId} {vs:List Value} (h:Blk W b e vs) (ht:Top W) (k:Kp W W'):Blk W' b e vs:=h.congr (k.obj b (h.lt ht))
section
variable {P:Program}
theorem ld_word {t:TypeId} (h:agg? P t=some false) {a:Addr} {W:CW} {v:Value} (hc:W.cell a.block a.off=some v):ld P t (.pointer (some a)) W=some v:=by
 unfold CW.cell at hc
 unfold ld cload
 simp only
 split at hc
 ·rename_i c n z e ho
  rw [ho]
  simp only [h,cond_eq_ite]
  split at hc
  ·rename_i hlt
   rw [if_pos (show Nat.blt a.off n=true from Nat.ble_eq_true_of_le hlt)]; exact hc
  ·cases hc
 ·rename_i f n e ho
  rw [ho]
  simp only [h,cond_eq_ite]
  split at hc
  ·rename_i hlt
   rw [if_pos (show Nat.blt a.off n=true from Nat.ble_eq_true_of_le hlt)]; exact hc
  ·cases hc
 ·cases hc
theorem readCells_of {c:Tr Value} {z:Array Value}:∀ {vs:List Value} {k:Nat},(∀ j v,vs[j]?=some v→cellAt c z (k+j)=v)→readCells c z vs.length k=vs
 | [],_,_=>rfl
 | v::vs,k,h=>by
  simp only [List.length_cons,readCells]
  have e:=h 0 v rfl
  rw [Nat.add_zero] at e
  rw [e,readCells_of fun j w hj=>?_]
  have:=h (j+1) w (by simpa using hj)
  rw [show k+1+j=k+(j+1) by omega]; exact this
theorem readFix_of {f:Nat→Value}:∀ {vs:List Value} {k:Nat},(∀ j v,vs[j]?=some v→f (k+j)=v)→readFix f vs.length k=vs
 | [],_,_=>rfl
 | v::vs,k,h=>by
  simp only [List.length_cons,readFix]
  have e:=h 0 v rfl
  rw [Nat.add_zero] at e
  rw [e,readFix_of fun j w hj=>?_]
  have:=h (j+1) w (by simpa using hj)
  rw [show k+1+j=k+(j+1) by omega]; exact this
def Cells (W:CW) (b k:Nat) (vs:List Value):Prop:=∀ j v,vs[j]?=some v→W.cell b (k+j)=some v
theorem Cells.ext {W W':CW} {b k:Nat} {vs:List Value} (h:Cells W b k vs) (ht:Top W) (hx:Kp W W'):Cells W' b k vs:=fun j v hj=>hx.cell ht (h j v hj)
theorem Cells.upd {W W':CW} {b k i:Nat} {vs:List Value} (h:Cells W b k vs) (hx:Upd i W W') (hb:b≠i):Cells W' b k vs:=fun j v hj=>by rw [hx.cell hb]; exact h j v hj
theorem Blk.cells {W:CW} {b:Nat} {e:TypeId} {vs:List Value} (h:Blk W b e vs):Cells W b 0 vs:=fun j v hj=>by rw [Nat.zero_add]; exact h.cell hj
theorem ld_agg {t:TypeId} {m:Nat} (h:agg? P t=some true) (hs:siz P t=some m) {a:Addr} {W:CW} {vs:List Value} (hl:vs.length=m) (hm:0<m) (hc:Cells W a.block a.off vs):ld P t (.pointer (some a)) W=some (.agg vs.toArray):=by
 obtain ⟨l,hl'⟩:∃ l,l+1=m:=⟨m-1,by omega⟩
 have hlast:∃ v,vs[l]?=some v:=⟨vs[l]'(by omega),List.getElem?_eq_getElem _⟩
 obtain ⟨v,hv⟩:=hlast
 have hcl:=hc l v hv
 unfold CW.cell at hcl
 unfold ld cload
 simp only
 split at hcl
 ·rename_i c n z e ho
  split at hcl
  ·rename_i hlt
   rw [ho]
   simp only [h,hs,cond_eq_ite]
   rw [if_pos (Nat.ble_eq_true_of_le (by omega)),←hl,readCells_of fun j w hj=>?_]
   have:=hc j w hj
   unfold CW.cell at this
   rw [ho] at this
   simp only at this
   split at this
   ·exact Option.some.inj this
   ·cases this
  ·cases hcl
 ·rename_i f n e ho
  split at hcl
  ·rename_i hlt
   rw [ho]
   simp only [h,hs,cond_eq_ite]
   rw [if_pos (Nat.ble_eq_true_of_le (by omega)),←hl,readFix_of fun j w hj=>?_]
   have:=hc j w hj
   unfold CW.cell at this
   rw [ho] at this
   simp only at this
   split at this
   ·exact Option.some.inj this
   ·cases this
  ·cases hcl
 ·cases hcl
theorem wV_of {α:Type} {x:Option α} {v:α} {K:α→Prop} (h:x=some v) (hk:K v):wV x K:=by rw [h]; exact hk
theorem wVW_of {x:Option (Value × CW)} {v:Value} {W:CW} {K:Value→CW→Prop} (h:x=some (v,W)) (hk:K v W):wVW x K:=by rw [h]; exact hk
theorem w_alc {t:TypeId} {n:Nat} {z:Value} (hz:zer P t=some z) (hs:siz P t=some n) {W:CW} {K:Value→CW→Prop} (ht:Top W)
  (hk:∀ W1,Kp W W1→Top W1→W1.sz=W.sz+1→Blk W1 W.sz t z.cells.toList→K (.pointer (some ⟨W.sz,0,none⟩)) W1):wVW (alc P t W) K:=by
 refine wVW_of (by unfold alc; rw [hz,hs]) (hk _ (.new _) (ht.new _) rfl ⟨.nil,_,_,by rw [obj_new,if_pos rfl],by simp,fun k v hv=>?_⟩)
 have hlt:=(List.getElem?_eq_some_iff.1 hv).1
 simp only [Array.length_toList] at hlt
 unfold cellAt
 simp only [Tr.get_nil]
 rw [Nat.mod_eq_of_lt hlt]
 rw [Array.getElem?_toList] at hv
 simp only [Array.getD_eq_getD_getElem?,hv,Option.getD_some]
theorem w_bxw {t:TypeId} {n:Nat} (hs:siz P t=some n) {v:Value} {W:CW} {K:Value→CW→Prop} (ht:Top W)
  (hk:∀ W1,Kp W W1→Top W1→W1.sz=W.sz+1→Blk W1 W.sz t v.cells.toList→K (.pointer (some ⟨W.sz,0,none⟩)) W1):wVW (bxw P t v W) K:=by
 refine wVW_of (by unfold bxw; rw [hs]; rfl) (hk _ (.new _) (ht.new _) rfl ⟨_,_,_,by rw [obj_new,if_pos rfl],by simp,fun k w hv=>?_⟩)
 have hlt:=(List.getElem?_eq_some_iff.1 hv).1
 rw [cellAt_list _ _ _ hlt,List.getD_eq_getElem?_getD,hv]
 rfl
def putAt (vs:List Value) (k:Nat) (ws:List Value):List Value:=vs.take k++ws++vs.drop (k+ws.length)
theorem putAt_length {vs ws:List Value} {k:Nat} (h:k+ws.length≤vs.length):(putAt vs k ws).length=vs.length:=by
 simp only [putAt,List.length_append,List.length_take,List.length_drop]; omega
theorem putAt_get {vs ws:List Value} {k:Nat} (h:k+ws.length≤vs.length) (j:Nat):(putAt vs k ws)[j]?=if k≤j∧j<k+ws.length then ws[j-k]? else vs[j]?:=by
 have h1:(vs.take k).length=k:=by rw [List.length_take]; omega
 simp only [putAt,List.append_assoc]
 by_cases h2:j<k
 ·rw [List.getElem?_append_left (by omega),if_neg (by omega),List.getElem?_take,if_pos h2]
 ·rw [List.getElem?_append_right (by omega),h1]
  by_cases h3:j<k+ws.length
  ·rw [List.getElem?_append_left (by omega),if_pos ⟨by omega,h3⟩]
  ·rw [List.getElem?_append_right (by omega),if_neg (by omega),List.getElem?_drop]
   congr 1; omega
theorem Blk.put {W:CW} {b:Nat} {e:TypeId} {vs ws:List Value} {k:Nat} (h:Blk W b e vs) (hk:k+ws.length≤vs.length):∃ c n z,W.obj b=some (.cells c n z e)∧vs.length=n∧Blk (W.upd b (.cells (c.putFrom k ws) n z e)) b e (putAt vs k ws):=by
 obtain ⟨c,n,z,ho,hn,hv⟩:=h
 refine ⟨c,n,z,ho,hn,_,_,_,by rw [obj_upd,if_pos rfl],by rw [putAt_length hk,hn],fun j v hj=>?_⟩
 rw [putAt_get hk] at hj
 unfold cellAt
 rw [Tr.get_putFrom]
 split at hj
 ·rename_i h1
  rw [if_pos h1,hj]
 ·rename_i h1
  rw [if_neg h1]
  exact hv j v hj
theorem w_sto_word {t:TypeId} (hs:siz P t=some 1) {a:Addr} {v:Value} (h1:oneCell v=true) {W:CW} {e:TypeId} {vs:List Value} (hb:Blk W a.block e vs) (ha:a.off<vs.length) {K:CW→Prop}
  (hk:∀ W1,Upd a.block W W1→Blk W1 a.block e (putAt vs a.off [v])→K W1):wV (sto P t (.pointer (some a)) v W) K:=by
 obtain ⟨c,n,z,ho,hn,hb'⟩:=hb.put (k:=a.off) (ws:=[v]) (by simp only [List.length_singleton]; omega)
 refine wV_of ?_ (hk _ (Upd.of _ _ _) hb')
 have:sto P t (.pointer (some a)) v W=cstore P t a v W:=rfl
 rw [this]
 unfold cstore
 rw [ho]
 have hlt:Nat.blt a.off n=true:=Nat.ble_eq_true_of_le (by omega)
 cases v <;> first | (cases h1; done) | (simp only [hs,hlt,Nat.beq_refl,Bool.and_self,cond_true,Tr.putFrom])
theorem w_sto_agg {t:TypeId} {m:Nat} (hs:siz P t=some m) {a:Addr} {ws:List Value} (h1:ws.all oneCell=true) (hm:ws.length=m) {W:CW} {e:TypeId} {vs:List Value} (hb:Blk W a.block e vs) (ha:a.off+m≤vs.length) {K:CW→Prop}
  (hk:∀ W1,Upd a.block W W1→Blk W1 a.block e (putAt vs a.off ws)→K W1):wV (sto P t (.pointer (some a)) (.agg ws.toArray) W) K:=by
 obtain ⟨c,n,z,ho,hn,hb'⟩:=hb.put (k:=a.off) (ws:=ws) (by omega)
 refine wV_of ?_ (hk _ (Upd.of _ _ _) hb')
 have:sto P t (.pointer (some a)) (.agg ws.toArray) W=cstore P t a (.agg ws.toArray) W:=rfl
 rw [this]
 unfold cstore
 rw [ho]
 have hlt:Nat.ble (a.off+m) n=true:=Nat.ble_eq_true_of_le (by omega)
 simp only [hs,hlt,hm,List.size_toArray,Nat.beq_refl,Bool.and_self,Bool.true_and,cond_true,h1]
end
end Go.Ce
namespace Go.Ce
theorem wV_some {α:Type} (v:α) (K:α→Prop):wV (some v) K=K v:=rfl
theorem wVW_some (v:Value) (W:CW) (K:Value→CW→Prop):wVW (some (v,W)) K=K v W:=rfl
theorem wI_true (X Y:Prop):wI (.bool true) X Y=X:=rfl
theorem wI_false (X Y:Prop):wI (.bool false) X Y=Y:=rfl
theorem ngt_bool (b:Bool):ngt (.bool b)=some (.bool (!b)):=rfl
theorem pck_bool (b:Bool) (x y:Value):pck (.bool b) x y=some (cond b x y):=rfl
theorem qKn (Y:Env→List Deferred→CW→Prop) (K:Kont) (e:Env) (ds:List Deferred) (W:CW):seqK Y K .normal e ds W=Y e ds W:=rfl
theorem qKr (Y:Env→List Deferred→CW→Prop) (K:Kont) (e:Env) (ds:List Deferred) (W:CW):seqK Y K .ret e ds W=K .ret e ds W:=rfl
theorem qKx (Y:Env→List Deferred→CW→Prop) (K:Kont) (i:Nat) (e:Env) (ds:List Deferred) (W:CW):seqK Y K (.exit i) e ds W=K (.exit i) e ds W:=rfl
theorem qKp (Y:Env→List Deferred→CW→Prop) (K:Kont) (ch:List PanicEntry) (e:Env) (ds:List Deferred) (W:CW):seqK Y K (.panic ch) e ds W=K (.panic ch) e ds W:=rfl
theorem bKn (i:Nat) (K:Kont) (e:Env) (ds:List Deferred) (W:CW):blkK i K .normal e ds W=K .normal e ds W:=rfl
theorem bKr (i:Nat) (K:Kont) (e:Env) (ds:List Deferred) (W:CW):blkK i K .ret e ds W=K .ret e ds W:=rfl
theorem bKp (i:Nat) (K:Kont) (ch:List PanicEntry) (e:Env) (ds:List Deferred) (W:CW):blkK i K (.panic ch) e ds W=K (.panic ch) e ds W:=rfl
theorem bKx (i j:Nat) (K:Kont) (e:Env) (ds:List Deferred) (W:CW):blkK i K (.exit j) e ds W=if j=i then K .normal e ds W else K (.exit j) e ds W:=by
 simp only [blkK,cond_eq_ite,Nat.beq_eq]
theorem eKa (vs:List Value) (t:Nat):Env.args vs t=(vs[t]?).getD undef:=by
 unfold Env.args
 cases vs[t]? <;> rfl
def stepK (I:Nat→Env→List Deferred→CW→Prop) (k:Nat) (K:Kont):Kont:=fun x e ds W=>match x with
 | .normal=>∃ k',k'<k∧I k' e ds W
 | x=>K x e ds W
theorem tKn (I:Nat→Env→List Deferred→CW→Prop) (k:Nat) (K:Kont) (e:Env) (ds:List Deferred) (W:CW):stepK I k K .normal e ds W=∃ k',k'<k∧I k' e ds W:=rfl
theorem tKr (I:Nat→Env→List Deferred→CW→Prop) (k:Nat) (K:Kont) (e:Env) (ds:List Deferred) (W:CW):stepK I k K .ret e ds W=K .ret e ds W:=rfl
theorem tKx (I:Nat→Env→List Deferred→CW→Prop) (k:Nat) (K:Kont) (i:Nat) (e:Env) (ds:List Deferred) (W:CW):stepK I k K (.exit i) e ds W=K (.exit i) e ds W:=rfl
theorem tKp (I:Nat→Env→List Deferred→CW→Prop) (k:Nat) (K:Kont) (ch:List PanicEntry) (e:Env) (ds:List Deferred) (W:CW):stepK I k K (.panic ch) e ds W=K (.panic ch) e ds W:=rfl
theorem w_loop {P:Program} {L:List FuncId} {ro:Option Nat} {fn:FuncId} {nt:Nat} {b:Code} {K:Kont} (I:Nat→Env→List Deferred→CW→Prop) (k:Nat) {e:Env} {ds:List Deferred} {W:CW} (h0:I k e ds W)
  (hstep:∀ k e ds W,I k e ds W→wCode P L ro fn nt b e ds W (stepK I k K)):WEnv P L ro fn nt (.loop b) e ds W K :=
 wLoop I (fun k e ds W hi=>hstep k e ds W hi) k e ds W h0
theorem w_call {P:Program} {L:List FuncId} {f:FuncId} {args:List Value} {W:CW} {K:Value→CW→Prop} {KP:List PanicEntry→CW→Prop} {R:Value→CW→Prop} (h:WCall P L f args W (fun e W'=>∃ v,e=.returned v∧R v W')) (hk:∀ v W',R v W'→K v W'):WCall P L f args W (onEnd K KP) :=
 h.mono fun e W' ⟨v,he,hr⟩=>by subst he; exact hk v W' hr
def Gives (v:Value) (W:CW):Ending→CW→Prop:=fun e W'=>e=.returned v∧W'=W
theorem w_gives {P:Program} {L:List FuncId} {f:FuncId} {args:List Value} {W:CW} {K:Value→CW→Prop} {KP:List PanicEntry→CW→Prop} {v:Value} (h:WCall P L f args W (Gives v W)) (hk:K v W):WCall P L f args W (onEnd K KP) :=
 h.mono fun e W' ⟨he,hw⟩=>by subst he; subst hw; exact hk
theorem w_callV {P:Program} {L:List FuncId} {f:FuncId} {first cap:Array Value} {args:List Value} {W:CW} {K:Value→CW→Prop} {KP:List PanicEntry→CW→Prop} {fn:Func} (hf:P.funcs[f]?=some fn) (hb:fn.body.isNone=false)
  (h:WCall P L f (first.toList++args++cap.toList) W (onEnd K KP)):wCallV P L (.func (.func f) first cap) args W K KP:=by
 unfold wCallV ccall
 simp only
 have:cextern P f (first.toList++args++cap.toList) W=none:=by unfold cextern; rw [hf]; simp only [hb,cond_false]
 rw [this]
 exact h
def IsSl {α:Type} (n:Nat) (R:Nat→Nat→α→Prop) (v:Value) (l:List α):Prop:=∃ a cap,v=.slice a l.length cap∧∀ i x,l[i]?=some x→∃ p,a=some p∧R p.block (p.off+i*n) x
section
variable {P:Program} {t:TypeId} {k:Bool}
theorem cbin_eql (kk:IntKind) (a b:Int):cbin P .eql t k (.int kk a) (.int kk b)=some (.bool (a == b)):=by simp [cbin,cint]
theorem cbin_neq (kk:IntKind) (a b:Int):cbin P .neq t k (.int kk a) (.int kk b)=some (.bool (a != b)):=by simp [cbin,cint]
theorem cbin_lss (kk:IntKind) (a b:Int):cbin P .lss t k (.int kk a) (.int kk b)=some (.bool (decide (a<b))):=by simp [cbin,cint]
theorem cbin_leq (kk:IntKind) (a b:Int):cbin P .leq t k (.int kk a) (.int kk b)=some (.bool (decide (a≤b))):=by simp [cbin,cint]
theorem cbin_gtr (kk:IntKind) (a b:Int):cbin P .gtr t k (.int kk a) (.int kk b)=some (.bool (decide (a>b))):=by simp [cbin,cint]
theorem cbin_geq (kk:IntKind) (a b:Int):cbin P .geq t k (.int kk a) (.int kk b)=some (.bool (decide (a≥b))):=by simp [cbin,cint]
theorem cbin_add (kk:IntKind) (a b:Int):cbin P .add t k (.int kk a) (.int kk b)=some (.int kk (kk.wrap (a+b))):=by simp [cbin,cint]
theorem cbin_sub (kk:IntKind) (a b:Int):cbin P .sub t k (.int kk a) (.int kk b)=some (.int kk (kk.wrap (a-b))):=by simp [cbin,cint]
theorem cbin_mul (kk:IntKind) (a b:Int):cbin P .mul t k (.int kk a) (.int kk b)=some (.int kk (kk.wrap (a*b))):=by simp [cbin,cint]
theorem cbin_quo (kk:IntKind) (a b:Int) (h:b≠0):cbin P .quo t k (.int kk a) (.int kk b)=some (.int kk (kk.wrap (a.tdiv b))):=by simp [cbin,cint,beq_false_of_ne h]
theorem cbin_rem (kk:IntKind) (a b:Int) (h:b≠0):cbin P .rem t k (.int kk a) (.int kk b)=some (.int kk (a.tmod b)):=by simp [cbin,cint,beq_false_of_ne h]
theorem cbin_seql (a b:ByteArray):cbin P .eql t k (.string a) (.string b)=some (.bool (bEq (sb a) (sb b))):=rfl
theorem cbin_sneq (a b:ByteArray):cbin P .neq t k (.string a) (.string b)=some (.bool (!bEq (sb a) (sb b))):=rfl
theorem cbin_slss (a b:ByteArray):cbin P .lss t k (.string a) (.string b)=some (.bool (bLt (sb a) (sb b))):=rfl
theorem cbin_sgeq (a b:ByteArray):cbin P .geq t k (.string a) (.string b)=some (.bool (!bLt (sb a) (sb b))):=rfl
theorem bEq_self:∀ l:List UInt8,bEq l l=true
 | []=>rfl
 | a::l=>by simp only [bEq,Nat.beq_refl,bEq_self l,Bool.and_self]
theorem bEq_iff {a b:ByteArray}:bEq (sb a) (sb b)=true↔a=b:=⟨bEq_true,fun h=>by rw [h]; exact bEq_self _⟩
theorem bEq_dec (a b:ByteArray):bEq (sb a) (sb b)=decide (a=b):=by
 cases h:bEq (sb a) (sb b) with
 | true=>exact (decide_eq_true (bEq_true h)).symm
 | false=>exact (decide_eq_false fun e=>by rw [bEq_iff.2 e] at h; cases h).symm
theorem clen_sl {el:TypeId} (u:P.underlying t=some (.slice el)) (a:Option Addr) (n c:Nat) (W:CW):clen P t (.slice a n c) W=some (.int .i64 n):=by unfold clen; rw [u]
theorem clen_str (u:P.underlying t=some .string) (s:ByteArray) (W:CW):clen P t (.string s) W=some (.int .i64 s.size):=by unfold clen; rw [u]
theorem iad_sl {el:TypeId} {n:Nat} (u:P.underlying t=some (.slice el)) (hs:siz P el=some n) {a:Addr} {len cap:Nat} {kk:IntKind} {i:Nat} (hi:i<len):iad P t (.slice (some a) len cap) (.int kk i)=some (.pointer (some ⟨a.block,a.off+i*n,none⟩)):=by
 unfold iad
 simp only [u,optB,hs]
 simp only [cond_eq_ite]
 rw [if_pos (by simp only [Bool.and_eq_true,decide_eq_true_eq]; omega)]
 simp
theorem idx_str (u:P.underlying t=some .string) {s:ByteArray} {kk:IntKind} {i:Nat} {b:UInt8} (hi:s[i]?=some b):idx P t (.string s) (.int kk i)=some (.int .u8 b.toNat):=by
 unfold idx
 simp only [u,cond_eq_ite]
 rw [if_pos (by simp)]
 simp [hi]
theorem fad_of {fs:Array Field} {f:Nat} {fd:Field} {m:Nat} (u:P.underlying t=some (.struct fs)) (hf:fs[f]?=some fd) (hs:siz P fd.type=some m) (hm:Nat.beq m 0=false) (a:Addr):fad P t (.pointer (some a)) f=some (.pointer (some ⟨a.block,a.off+fd.offset,none⟩)):=by
 unfold fad
 simp only [u,hf,hs,hm,cond_false]
theorem wrap64 {x:Int} (h1:-9223372036854775808≤x) (h2:x≤9223372036854775807):IntKind.i64.wrap x=x:=by
 unfold IntKind.wrap
 simp [IntKind.bits,IntKind.signed]
 omega
end
theorem gKz {α:Type} (a:α) (l:List α):(a::l)[0]?=some a:=rfl
theorem gKs {α:Type} (a:α) (l:List α) (i:Nat):(a::l)[i+1]?=l[i]?:=rfl
theorem dKs {α:Type} (a b:α):(some a).getD b=a:=rfl
end Go.Ce
namespace Go.Ce
open Go Go.Proofs Go.Proofs.Tryz
structure Fld where
 name:ByteArray
 kind:Int
structure Shp where
 name:ByteArray
 super:ByteArray
 fields:List Fld
 elem:Int
structure Spc where
 type:ByteArray
 to:ByteArray
 map:List Int
structure Thg where
 type:ByteArray
 vals:List Int
def RInt (W:CW) (b o:Nat) (x:Int):Prop:=W.cell b o=some (.int .i64 x)∧-9223372036854775808≤x∧x≤9223372036854775807
structure RFld (W:CW) (b o:Nat) (x:Fld):Prop where
 name:W.cell b o=some (.string x.name)
 kind:W.cell b (o+1)=some (.int .u8 x.kind)
 lo:0≤x.kind
 hi:x.kind<256
structure RShp (W:CW) (b o:Nat) (x:Shp):Prop where
 name:W.cell b o=some (.string x.name)
 super:W.cell b (o+1)=some (.string x.super)
 fields:∃ v,W.cell b (o+2)=some v∧IsSl 2 (RFld W) v x.fields
 elem:W.cell b (o+3)=some (.int .u8 x.elem)
 binds:∃ a l k,W.cell b (o+4)=some (.slice a l k)
 lo:0≤x.elem
 hi:x.elem<256
def ElOk (W:CW) (el:TypeId) (v:Value):Prop:=∀ a l c,v=.slice a l c→elemOk W a el=true∧l≤c
theorem ElOk.of {W W':CW} {el:TypeId} {v:Value} (h:ElOk W el v) (ho:∀ b o,W.obj b=some o→(∃ c n z e,o=.cells c n z e)∨(∃ f n e,o=.fixed f n e)→W'.obj b=some o):ElOk W' el v:=by
 intro a l c hv
 obtain ⟨h1,h2⟩:=h a l c hv
 refine ⟨?_,h2⟩
 cases a with
 | none=>rfl
 | some a =>
  unfold elemOk at h1 ⊢
  simp only [Bool.or_eq_true] at h1 ⊢
  rcases h1 with h1 | h1
  ·exact .inl h1
  ·right
   cases hb:W.obj a.block with
   | none=>rw [hb] at h1; cases h1
   | some o =>
    rw [hb] at h1
    cases o with
    | cells c n z e=>rw [ho _ _ hb (.inl ⟨_,_,_,_,rfl⟩)]; exact h1
    | fixed f n e=>rw [ho _ _ hb (.inr ⟨_,_,_,rfl⟩)]; exact h1
    | _=>cases h1
theorem ElOk.kp {W W':CW} {el:TypeId} {v:Value} (h:ElOk W el v) (ht:Top W) (k:Kp W W'):ElOk W' el v:=h.of fun b o hb _=>by rw [k.obj b (ht _ _ hb)]; exact hb
structure RSpc (W:CW) (b o:Nat) (x:Spc):Prop where
 type:W.cell b o=some (.string x.type)
 to:W.cell b (o+1)=some (.string x.to)
 map:∃ v,W.cell b (o+2)=some v∧IsSl 1 (RInt W) v x.map∧ElOk W 3 v
structure RThg (W:CW) (b o:Nat) (x:Thg):Prop where
 type:W.cell b o=some (.string x.type)
 vals:∃ v,W.cell b (o+1)=some v∧IsSl 1 (RInt W) v x.vals
theorem u9:prog.underlying 9=some .string:=by kernel_rfl
theorem u22:prog.underlying 22=some (.slice 48):=by kernel_rfl
theorem u23:prog.underlying 23=some (.slice 58):=by kernel_rfl
theorem u24:prog.underlying 24=some (.slice 56):=by kernel_rfl
theorem u29:prog.underlying 29=some (.slice 5):=by kernel_rfl
theorem u40:prog.underlying 40=some (.slice 3):=by kernel_rfl
theorem u45:prog.underlying 45=some (.slice 72):=by kernel_rfl
theorem u51:prog.underlying 51=some (.slice 9):=by kernel_rfl
theorem s3:siz prog 3=some 1:=by kernel_rfl
theorem s5:siz prog 5=some 1:=by kernel_rfl
theorem s9:siz prog 9=some 1:=by kernel_rfl
theorem s48:siz prog 48=some 5:=by kernel_rfl
theorem s56:siz prog 56=some 2:=by kernel_rfl
theorem s58:siz prog 58=some 3:=by kernel_rfl
theorem s72:siz prog 72=some 2:=by kernel_rfl
theorem a3:agg? prog 3=some false:=by kernel_rfl
theorem a5:agg? prog 5=some false:=by kernel_rfl
theorem a9:agg? prog 9=some false:=by kernel_rfl
theorem a29:agg? prog 29=some false:=by kernel_rfl
theorem a40:agg? prog 40=some false:=by kernel_rfl
theorem a45:agg? prog 45=some false:=by kernel_rfl
theorem a48:agg? prog 48=some true:=by kernel_rfl
theorem a56:agg? prog 56=some true:=by kernel_rfl
theorem a58:agg? prog 58=some true:=by kernel_rfl
theorem a72:agg? prog 72=some true:=by kernel_rfl
theorem fad48_0 (a:Addr):fad prog 48 (.pointer (some a)) 0=some (.pointer (some ⟨a.block,a.off,none⟩)):=by kernel_rfl
theorem fad48_1 (a:Addr):fad prog 48 (.pointer (some a)) 1=some (.pointer (some ⟨a.block,a.off+1,none⟩)):=by kernel_rfl
theorem fad48_2 (a:Addr):fad prog 48 (.pointer (some a)) 2=some (.pointer (some ⟨a.block,a.off+2,none⟩)):=by kernel_rfl
theorem fad48_3 (a:Addr):fad prog 48 (.pointer (some a)) 3=some (.pointer (some ⟨a.block,a.off+3,none⟩)):=by kernel_rfl
theorem fad72_0 (a:Addr):fad prog 72 (.pointer (some a)) 0=some (.pointer (some ⟨a.block,a.off,none⟩)):=by kernel_rfl
theorem fad72_1 (a:Addr):fad prog 72 (.pointer (some a)) 1=some (.pointer (some ⟨a.block,a.off+1,none⟩)):=by kernel_rfl
theorem fad56_0 (a:Addr):fad prog 56 (.pointer (some a)) 0=some (.pointer (some ⟨a.block,a.off,none⟩)):=by kernel_rfl
theorem fad56_1 (a:Addr):fad prog 56 (.pointer (some a)) 1=some (.pointer (some ⟨a.block,a.off+1,none⟩)):=by kernel_rfl
theorem fad58_0 (a:Addr):fad prog 58 (.pointer (some a)) 0=some (.pointer (some ⟨a.block,a.off,none⟩)):=by kernel_rfl
theorem fad58_1 (a:Addr):fad prog 58 (.pointer (some a)) 1=some (.pointer (some ⟨a.block,a.off+1,none⟩)):=by kernel_rfl
theorem fad58_2 (a:Addr):fad prog 58 (.pointer (some a)) 2=some (.pointer (some ⟨a.block,a.off+2,none⟩)):=by kernel_rfl
end Go.Ce
namespace Go.Ce
open Go Go.Proofs Go.Proofs.Tryz
theorem in_ok (n a b:Int) (W:CW):WCall prog pkL 103 [.int .i64 n,.int .i64 a,.int .i64 b] W (Gives (.bool (decide (a≤n) && decide (n≤b))) W):=by
 refine f103_w ?_
 rw [f103_c]
 simp only [cbin_geq,cbin_leq,wV_some]
 refine wI_bool (fun h=>?_) (fun h=>?_) <;> simp only [f103_k0,qKn,f103_leave,eKc] <;> refine ⟨?_,rfl⟩ <;> simp at h <;> simp [h]
 omega
theorem isKind_ok (n:Int) (W:CW):WCall prog pkL 100 [.int .u8 n] W (Gives (.bool (n == 1 || n == 2)) W):=by
 refine f100_w ?_
 rw [f100_c]
 simp only [cbin_eql,wV_some]
 refine wI_bool (fun h=>?_) (fun h=>?_) <;> simp only [f100_k0,qKn,f100_leave,eKc] <;> refine ⟨?_,rfl⟩ <;> simp [h]
theorem isSymbol1_ok (n:Int) (W:CW):WCall prog pkL 124 [.int .u8 n] W (Gives (.bool (decide (n<33) || decide (n>126))) W):=by
 refine f124_w ?_
 rw [f124_c]
 simp only [cbin_lss,cbin_gtr,wV_some]
 refine wI_bool (fun h=>?_) (fun h=>?_) <;> simp only [f124_k0,qKn,f124_leave,eKc] <;> refine ⟨?_,rfl⟩ <;> simp [h]
def findI (c:List Shp) (s:ByteArray):Int:=match c.findIdx? (fun x=>decide (x.name=s)) with
 | some i=>i
 | none=>-1
theorem find_ok {v:Value} {c:List Shp} {s:ByteArray} {W:CW} (hc:IsSl 5 (RShp W) v c) (hlen:c.length<1000000):WCall prog pkL 69 [v,.string s] W (Gives (.int .i64 (findI c s)) W):=by
 refine f69_w ?_
 rw [f69_c]
 refine w_loop (fun k e ds W'=>W'=W∧ds=[]∧∃ i:Nat,e 0=v∧e 1=.string s∧e 5=.int .i64 i∧i≤c.length∧k=c.length-i∧∀ j x,j<i→c[j]?=some x→x.name≠s) c.length ⟨rfl,rfl,0,?_,?_,?_,by omega,by omega,by omega⟩ ?_
 ·simp [eKc,eKn,eKa]
 ·simp [eKc,eKn,eKa]
 ·simp [eKc,eKn,eKa]
 rintro k e ds W' ⟨rfl,rfl,i,h0,h1,h5,hi,rfl,hpre⟩
 obtain ⟨a,cap,rfl,hcell⟩:=hc
 rw [f69_l0,h0,h1,h5,clen_sl u22]
 simp only [wV_some,cbin_lss]
 refine wI_bool (fun h=>?_) (fun h=>?_)
 ·have hlt:i<c.length:=by simpa using h
  have hx:=List.getElem?_eq_getElem hlt
  obtain ⟨p,rfl,hp⟩:=hcell i _ hx
  rw [iad_sl u22 s48 hlt]
  simp only [wV_some,fad48_0,ld_word a9 (a:=⟨p.block,p.off+i*5,none⟩) hp.name,cbin_seql,bEq_dec]
  refine wI_bool (fun hq=>?_) (fun hq=>?_)
  ·have hq:=of_decide_eq_true hq
   simp only [f69_k1,qKr,tKr,bKr,f69_k0,f69_leave,eKc]
   refine ⟨?_,rfl⟩
   have:c.findIdx? (fun x=>decide (x.name=s))=some i:=by
    rw [List.findIdx?_eq_some_iff_getElem]
    refine ⟨hlt,by simpa using hq,fun j hj=>?_⟩
    have:=hpre j c[j] hj (List.getElem?_eq_getElem _)
    simpa using this
   simp [findI,this]
  ·have hq:=of_decide_eq_false hq
   simp only [f69_k1,qKn,eKc,eKn,Nat.reduceEqDiff,↓reduceIte,h0,h1,h5,cbin_add,wV_some,tKn]
   refine ⟨c.length-(i+1),by omega,trivial,trivial,i+1,trivial,trivial,?_,hlt,rfl,fun j x hj hx'=>?_⟩
   ·rw [wrap64 (by omega) (by omega)]
    rfl
   ·rcases Nat.lt_succ_iff_lt_or_eq.1 hj with h2 | rfl
    ·exact hpre j x h2 hx'
    ·rw [hx] at hx'; cases hx'; exact hq
 ·have hge:i=c.length:=by have:¬i<c.length:=(by simpa using h); omega
  simp only [tKx,bKx,if_true,f69_k0,qKn,f69_leave,eKc]
  refine ⟨?_,rfl⟩
  have:c.findIdx? (fun x=>decide (x.name=s))=none:=by
   rw [List.findIdx?_eq_none_iff]
   intro x hx
   obtain ⟨j,hj,rfl⟩:=List.mem_iff_getElem.1 hx
   have:=hpre j c[j] (by omega) (List.getElem?_eq_getElem _)
   simpa using this
  simp [findI,this]
end Go.Ce
namespace Go.Ce
def tget (T:Tr Value) (t:Nat):Value:=match T.get t with | some v=>v | none=>undef
theorem at_tget (a:CAct) (t:Nat):a.at t=tget a.t t:=by
 unfold CAct.at tget
 cases a.t.get t <;> rfl
def LoopAt (W:CW) (l:Nat) (st:LoopState) (pend:Option Code) (fn:FuncId) (e:Env) (nt:Nat) (ps:Array Tmp) (A B:Code) (d:Nat):Prop :=
 ∃ T:Tr Value,W.obj l=some (.loop st pend fn T nt ps A B d)∧∀ t,tget T t=e t
theorem LoopAt.congr {W W':CW} {l:Nat} {st:LoopState} {pend:Option Code} {fn:FuncId} {e:Env} {nt:Nat} {ps:Array Tmp} {A B:Code} {d:Nat} (h:LoopAt W l st pend fn e nt ps A B d) (ho:W'.obj l=W.obj l):LoopAt W' l st pend fn e nt ps A B d:=by
 obtain ⟨T,h1,h2⟩:=h
 exact ⟨T,ho.trans h1,h2⟩
def Env.sets (e:Env):List (Tmp × Value)→Env
 | []=>e
 | p::ps=>Env.sets (fun t=>if t=p.1 then p.2 else e t) ps
theorem sets_at:∀ (ps:List (Tmp × Value)) (T:Tr Value) (e:Env),(∀ t,tget T t=e t) →
  ∀ t,tget (ps.foldl (fun t (p:Tmp × Value)=>t.set p.1 p.2) T) t=e.sets ps t
 | [],T,e,h=>h
 | p::ps,T,e,h=>by
  intro t
  refine sets_at ps (T.set p.1 p.2) _ (fun t=>?_) t
  unfold tget
  rw [Tr.get_set]
  by_cases ht:t=p.1
  ·rw [if_pos ht,if_pos ht]
  ·rw [if_neg ht,if_neg ht]; exact h t
def endK (l:Nat) (Q:Ending→CW→Prop):Kont:=fun x _ _ W=>∃ st pend fn e nt ps A B d,LoopAt W l st pend fn e nt ps A B d∧match x with
 | .normal=>∀ W',Upd l W W'→LoopAt W' l .ready none fn e nt ps A B d→Q (.returned (.bool true)) W'
 | .ret=>∀ W',Upd l W W'→LoopAt W' l .done (some .ret) fn e nt ps A B d→Q (.returned (.bool false)) W'
 | .exit id=>∀ W',Upd l W W'→LoopAt W' l .done (some (.exit id)) fn e nt ps A B d→Q (.returned (.bool false)) W'
 | _=>False
section
variable {P:Program} {L:List FuncId}
theorem w_round {l:Nat} {args:List Value} {W:CW} {Q:Ending→CW→Prop} {pend:Option Code} {fn:FuncId} {e:Env} {nt:Nat} {ps:Array Tmp} {A B:Code} {d:Nat} (hl:LoopAt W l .ready pend fn e nt ps A B d) (hn:args.length=ps.size)
  (h:wCode P L (some l) fn nt A (e.sets (ps.toList.zip args)) [] W fun x e1 ds W1=>x=.normal∧∃ pend1 e2 nt1 ps1 A1 B1 d1,LoopAt W1 l .ready pend1 fn e2 nt1 ps1 A1 B1 d1∧∀ W2,Upd l W1 W2→LoopAt W2 l .busy pend1 fn e2 nt1 ps1 A1 B1 d1→wCode P L (some l) fn nt B e1 ds W2 (endK l Q)):WRound P L l args W Q:=by
 obtain ⟨T,ho,hT⟩:=hl
 let a0:CAct:=⟨(ps.toList.zip args).foldl (fun t (p:Tmp × Value)=>t.set p.1 p.2) T,nt,[]⟩
 have hae:AE a0 (e.sets (ps.toList.zip args)) []:=⟨fun t=>by rw [at_tget]; exact sets_at _ T e hT t,rfl⟩
 obtain ⟨n,⟨x1,a1,W1⟩,h1,e1,h2,h3,h4⟩:=wCode_sound h a0 hae rfl
 simp only at h2 h3 h4
 obtain ⟨rfl,pend1,e2,nt1,ps1,A1,B1,d1,hl1,h4⟩:=h4
 obtain ⟨T1,ho1,hT1⟩:=hl1
 obtain ⟨m,⟨x2,a2,W2⟩,h5,e3,h6,h7,h8⟩:=wCode_sound (h4 _ (Upd.of W1 l (.loop .busy pend1 fn T1 nt1 ps1 A1 B1 d1)) ⟨T1,by rw [obj_upd,if_pos rfl],hT1⟩) a1 h2 h3
 simp only at h8
 obtain ⟨st,pend2,fn2,e4,nt2,ps2,A2,B2,d2,hl2,h8⟩:=h8
 obtain ⟨T2,ho2,hT2⟩:=hl2
 have up1:(evC P L (max n m)).code (some l) fn A a0 W=some [(.normal,a1,W1)]:=code_up (Nat.le_max_left n m) h1
 have up2:(evC P L (max n m)).code (some l) fn B a1 (W1.upd l (.loop .busy pend1 fn T1 nt1 ps1 A1 B1 d1))=some [(x2,a2,W2)]:=code_up (Nat.le_max_right n m) h5
 have key:∀ {o:Ending × CW},(match x2 with
   | .normal=>endR l none W2
   | .ret=>endR l (some .ret) W2
   | .exit id=>endR l (some (.exit id)) W2
   | _=>none)=some [o]→(evC P L (max n m+1)).round l args W=some [o]:=by
  intro o hx
  rw [evC_succ]
  simp only [stepRec,ho]
  have hq:Nat.beq args.length ps.size=true:=by rw [hn]; exact Nat.beq_refl _
  rw [hq]
  simp only [cond_true]
  rw [show (evC P L (max n m)).code (some l) fn A ⟨(ps.toList.zip args).foldl (fun t (p:Tmp × Value)=>t.set p.1 p.2) T,nt,[]⟩ W=some [(.normal,a1,W1)] from up1]
  refine bindO_one _ _ ?_
  simp only [ho1]
  rw [up2]
  refine bindO_one _ _ ?_
  rw [←hx]
  cases x2 <;> rfl
 cases x2 with
 | normal=>exact ⟨_,(.returned (.bool true),W2.upd l (.loop .ready none fn2 T2 nt2 ps2 A2 B2 d2)),key (by simp only [endR,ho2]; rfl),h8 _ (Upd.of _ _ _) ⟨T2,by rw [obj_upd,if_pos rfl],hT2⟩⟩
 | ret=>exact ⟨_,(.returned (.bool false),W2.upd l (.loop .done (some .ret) fn2 T2 nt2 ps2 A2 B2 d2)),key (by simp only [endR,ho2]; rfl),h8 _ (Upd.of _ _ _) ⟨T2,by rw [obj_upd,if_pos rfl],hT2⟩⟩
 | exit id=>exact ⟨_,(.returned (.bool false),W2.upd l (.loop .done (some (.exit id)) fn2 T2 nt2 ps2 A2 B2 d2)),key (by simp only [endR,ho2]; rfl),h8 _ (Upd.of _ _ _) ⟨T2,by rw [obj_upd,if_pos rfl],hT2⟩⟩
 | panic ch=>exact h8.elim
 | goto id=>exact h8.elim
 | outgrown=>exact h8.elim
def afterK (l:Nat) (e:Env) (ds:List Deferred) (K:Kont):Ending→CW→Prop:=fun en W=>(∃ v,en=.returned v)∧∃ st pend fn e0 nt ps A B d,LoopAt W l st pend fn e0 nt ps A B d∧st≠.busy∧∀ W',Upd l W W'→match pend with
 | none=>K .normal e ds W'
 | some .ret=>K .ret e ds W'
 | some (.exit id)=>K (.exit id) e ds W'
 | _=>False
def mark (r:Nat):Deferred:={ target:=.collected r,args:=#[] }
def pendOut (pend:Option Code) (a:CAct) (W:CW):Outs:=match pend with
 | none=>some [(.normal,a,W)]
 | some .ret=>some [(.ret,a,W)]
 | some (.exit id)=>some [(.exit id,a,W)]
 | _=>none
theorem range_core {ro:Option Nat} {fn:FuncId} {nt:Nat} {f:Operand} {ps:Array Tmp} {A B:Code} {e:Env} {ds:List Deferred} {W W1:CW} {K:Kont} {dl:Nat} {mk:List Deferred} {g:FuncId} {args:List Value} (har:around ro W=some (dl,mk,W1))
  (hf:ccall (e.ev f) [.func (.yield W1.sz) #[] #[]]=some (.enter g args))
  (h:∀ W2,Upd W1.sz (W1.new .deferred) W2→LoopAt W2 W1.sz .ready none fn e nt ps A B dl→WCall P L g args W2 (afterK W1.sz e (mk++ds) K)):WEnv P L ro fn nt (.rangeFunc f ps A B) e ds W K:=by
 intro a ha hn
 have h0:W1.new (.loop .ready none fn a.t a.nt ps A B dl)=(W1.new .deferred).upd W1.sz (.loop .ready none fn a.t a.nt ps A B dl)∨True:=.inr trivial
 have hu:Upd W1.sz (W1.new .deferred) (W1.new (.loop .ready none fn a.t a.nt ps A B dl)):=⟨rfl,fun i hi=>by rw [obj_new,obj_new,if_neg hi,if_neg hi]⟩
 have hl:LoopAt (W1.new (.loop .ready none fn a.t a.nt ps A B dl)) W1.sz .ready none fn e nt ps A B dl:=⟨a.t,by rw [obj_new,if_pos rfl,hn],fun t=>(at_tget a t).symm.trans (ha.1 t)⟩
 obtain ⟨n,⟨en,W3⟩,h1,⟨v,hv⟩,st,pend,fn',e0,nt',ps',A',B',d',⟨T,ho,hT⟩,hst,hk⟩:=h _ hu hl
 simp only at hv
 subst hv
 have hput:AE ({ a with defers:=mk++a.defers }:CAct) e (mk++ds):=⟨ha.1,by rw [ha.2]⟩
 have key:∀ {o:Exit × CAct × CW},pendOut pend { a with defers:=mk++a.defers } (W3.upd W1.sz (.loop .exhausted pend fn' T nt' ps' A' B' d'))=some [o]→(evC P L (n+1)).code ro fn (.rangeFunc f ps A B) a W=some [o]:=by
  intro o hx
  rw [evC_succ]
  show stepCode P (evC P L n) ro fn (.rangeFunc f ps A B) a W=some [o]
  unfold stepCode
  simp only [har,ha.eval,hf]
  rw [h1]
  refine bindO_one _ _ ?_
  simp only [ho]
  rw [←hx]
  cases st <;> first | exact (hst rfl).elim | (cases pend with | none=>rfl | some c=>cases c <;> rfl)
 have hk:=hk _ (Upd.of W3 W1.sz (.loop .exhausted pend fn' T nt' ps' A' B' d'))
 have fin:∀ x:Exit,pendOut pend { a with defers:=mk++a.defers } (W3.upd W1.sz (.loop .exhausted pend fn' T nt' ps' A' B' d'))=some [(x,({ a with defers:=mk++a.defers }:CAct),W3.upd W1.sz (.loop .exhausted pend fn' T nt' ps' A' B' d'))]→K x e (mk++ds) (W3.upd W1.sz (.loop .exhausted pend fn' T nt' ps' A' B' d'))→WCode P L ro fn (.rangeFunc f ps A B) a W fun x a' W'=>∃ e',AE a' e' a'.defers∧a'.nt=nt∧K x e' a'.defers W':=by
  intro x hx hK
  refine ⟨n+1,_,key hx,e,?_,hn,?_⟩
  ·exact ⟨ha.1,rfl⟩
  ·show K x e (mk++a.defers) _
   rw [ha.2]; exact hK
 cases pend with
 | none=>exact fin .normal rfl hk
 | some c =>
  cases c <;> first | exact hk.elim | exact fin _ rfl hk
theorem w_range {fn:FuncId} {nt:Nat} {f:Operand} {ps:Array Tmp} {A B:Code} {e:Env} {ds:List Deferred} {W:CW} {K:Kont} {g:FuncId} {args:List Value} (ht:Top W)
  (hf:ccall (e.ev f) [.func (.yield (W.sz+1)) #[] #[]]=some (.enter g args))
  (h:∀ W2,Kp W W2→Top W2→W2.sz=W.sz+2→W2.obj W.sz=some .deferred→LoopAt W2 (W.sz+1) .ready none fn e nt ps A B W.sz→WCall P L g args W2 (afterK (W.sz+1) e (mark W.sz::ds) K)):WEnv P L none fn nt (.rangeFunc f ps A B) e ds W K:=by
 refine range_core (dl:=W.sz) (mk:=[mark W.sz]) (W1:=W.new .deferred) rfl hf fun W2 hu hl=>?_
 have k1:Kp W (W.new .deferred):=.new _
 have k2:Kp W ((W.new .deferred).new .deferred):=k1.trans (.new _)
 have t2:Top ((W.new .deferred).new .deferred):=(ht.new _).new _
 refine h W2 (k2.upd (by rw [sz_new]; omega) hu) (t2.upd (by simp only [sz_new]; omega) hu) (by rw [hu.sz]; rfl) ?_ hl
 rw [hu.obj _ (by rw [sz_new]; omega),obj_new,if_neg (by rw [sz_new]; omega),obj_new,if_pos rfl]
theorem w_range_in {r:Nat} {st:LoopState} {pend:Option Code} {fn':FuncId} {e':Env} {nt':Nat} {ps':Array Tmp} {A' B':Code} {d:Nat} {fn:FuncId} {nt:Nat} {f:Operand} {ps:Array Tmp} {A B:Code} {e:Env} {ds:List Deferred} {W:CW} {K:Kont} {g:FuncId} {args:List Value} (ht:Top W) (hr:LoopAt W r st pend fn' e' nt' ps' A' B' d)
  (hf:ccall (e.ev f) [.func (.yield W.sz) #[] #[]]=some (.enter g args))
  (h:∀ W2,Kp W W2→Top W2→W2.sz=W.sz+1→LoopAt W2 W.sz .ready none fn e nt ps A B d→WCall P L g args W2 (afterK W.sz e ds K)):WEnv P L (some r) fn nt (.rangeFunc f ps A B) e ds W K:=by
 obtain ⟨T,ho,hT⟩:=hr
 refine range_core (dl:=d) (mk:=[]) (W1:=W) (by unfold around; simp only [ho]) hf fun W2 hu hl=>?_
 exact h W2 ((Kp.new _).upd (Nat.le_refl _) hu) ((ht.new _).upd (by rw [sz_new]; omega) hu) (by rw [hu.sz]; rfl) hl
end
end Go.Ce
namespace Go.Ce
section
variable {κ:Type} [DecidableEq κ]
def look (m:List (κ × Value)) (s:κ) (i:Nat):Option (Nat × Value):=match m with
 | []=>none
 | p::m=>if s=p.1 then some (i,p.2) else look m s (i+1)
def mget (m:List (κ × Value)) (s:κ):Option Value:=match m with
 | []=>none
 | p::m=>if s=p.1 then some p.2 else mget m s
def mset (m:List (κ × Value)) (s:κ) (x:Value):List (κ × Value):=match m with
 | []=>[(s,x)]
 | p::m=>if s=p.1 then (s,x)::m else p::mset m s x
theorem mget_mset:∀ (m:List (κ × Value)) (s:κ) (x:Value) (u:κ),mget (mset m s x) u=if u=s then some x else mget m u
 | [],s,x,u=>by simp [mset,mget]
 | p::m,s,x,u=>by
  simp only [mset]
  by_cases h:s=p.1
  ·rw [if_pos h]
   simp only [mget]
   by_cases hu:u=s
   ·rw [if_pos hu,if_pos hu]
   ·rw [if_neg hu,if_neg hu,if_neg (by rw [←h]; exact hu)]
  ·rw [if_neg h]
   simp only [mget]
   by_cases hu:u=p.1
   ·rw [if_pos hu,if_pos hu,if_neg (fun e=>h (by rw [←e]; exact hu))]
   ·rw [if_neg hu,if_neg hu,mget_mset m s x u]
theorem look_get:∀ (m:List (κ × Value)) (s:κ) (i:Nat),(look m s i).map (·.2)=mget m s
 | [],s,i=>rfl
 | p::m,s,i=>by
  simp only [look,mget]
  by_cases h:s=p.1
  ·rw [if_pos h,if_pos h]; rfl
  ·rw [if_neg h,if_neg h]; exact look_get m s (i+1)
def MapAt (enc:κ→Value) (W:CW) (r:Nat) (m:List (κ × Value)):Prop:=∃ es clk,W.obj r=some (.map es clk)∧es.map (fun e=>(e.key,e.val))=m.map fun p=>(enc p.1,p.2)
theorem MapAt.congr {enc:κ→Value} {W W':CW} {r:Nat} {m:List (κ × Value)} (h:MapAt enc W r m) (ho:W'.obj r=W.obj r):MapAt enc W' r m:=by
 obtain ⟨es,clk,h1,h2⟩:=h
 exact ⟨es,clk,ho.trans h1,h2⟩
theorem MapAt.lt {enc:κ→Value} {W:CW} (ht:Top W) {r:Nat} {m:List (κ × Value)} (h:MapAt enc W r m):r<W.sz:=by
 obtain ⟨es,clk,h1,h2⟩:=h
 exact ht _ _ h1
theorem MapAt.kp {enc:κ→Value} {W W':CW} {r:Nat} {m:List (κ × Value)} (h:MapAt enc W r m) (ht:Top W) (k:Kp W W'):MapAt enc W' r m:=h.congr (k.obj r (h.lt ht))
variable {enc:κ→Value} {d:TypeDesc}
theorem find_now (hk:∀ a b,keyEq d (enc a) (enc b)=some (decide (a=b))) (s:κ):∀ (es:List MapEntry) (m:List (κ × Value)) (i:Nat),es.map (fun e=>(e.key,e.val))=m.map (fun p=>(enc p.1,p.2))→cfindNow d (enc s) es i=some (look m s i)
 | [],[],i,_=>rfl
 | e::es,p::m,i,h=>by
  simp only [List.map_cons,List.cons.injEq,Prod.mk.injEq] at h
  obtain ⟨⟨h1,h2⟩,h3⟩:=h
  simp only [cfindNow,look]
  rw [h1,hk]
  by_cases hs:s=p.1
  ·rw [if_pos hs,decide_eq_true hs]; simp only [h2]
  ·rw [if_neg hs,decide_eq_false hs]; exact find_now hk s es m (i+1) h3
 | [],_::_,_,h=>by cases h
 | _::_,[],_,h=>by cases h
theorem mod_now (hk:∀ a b,keyEq d (enc a) (enc b)=some (decide (a=b))) (s:κ) (x:Value):∀ (es:List MapEntry) (m:List (κ × Value)) (i j:Nat) (y:Value),es.map (fun e=>(e.key,e.val))=m.map (fun p=>(enc p.1,p.2))→look m s i=some (j,y) →
  (modAt x (enc s) (j-i) es).map (fun e=>(e.key,e.val))=(mset m s x).map (fun p=>(enc p.1,p.2))∧i≤j
 | [],[],i,j,y,_,hl=>by cases hl
 | e::es,p::m,i,j,y,h,hl=>by
  simp only [List.map_cons,List.cons.injEq,Prod.mk.injEq] at h
  obtain ⟨⟨h1,h2⟩,h3⟩:=h
  simp only [look] at hl
  simp only [mset]
  by_cases hs:s=p.1
  ·rw [if_pos hs] at hl
   rw [if_pos hs]
   cases hl
   refine ⟨?_,Nat.le_refl _⟩
   rw [Nat.sub_self]
   simp only [modAt,List.map_cons,h3]
  ·rw [if_neg hs] at hl
   rw [if_neg hs]
   obtain ⟨h4,h5⟩:=mod_now hk s x es m (i+1) j y h3 hl
   refine ⟨?_,by omega⟩
   rw [show j-i=(j-(i+1))+1 by omega]
   simp only [modAt,List.map_cons,h4,h1,h2]
 | [],_::_,_,_,_,h,_=>by cases h
 | _::_,[],_,_,_,h,_=>by cases h
theorem look_none_set (s:κ) (x:Value):∀ (m:List (κ × Value)) (i:Nat),look m s i=none→mset m s x=m++[(s,x)]
 | [],i,_=>rfl
 | p::m,i,h=>by
  simp only [look] at h
  simp only [mset]
  by_cases hs:s=p.1
  ·rw [if_pos hs] at h; cases h
  ·rw [if_neg hs] at h ⊢
   rw [look_none_set s x m _ h]; rfl
variable {P:Program} {t kt el:TypeId} {z:Value}
theorem lkp_at (u:P.underlying t=some (.map kt el)) (uk:P.underlying kt=some d) (hd:simpleKey d=true) (hz:zer P el=some z) (hk:∀ a b,keyEq d (enc a) (enc b)=some (decide (a=b))) {W:CW} {r:Nat} {m:List (κ × Value)} (h:MapAt enc W r m) (s:κ) (ok:Bool) :
  lkp P t (.map (some r)) (enc s) ok W=some (match mget m s with
   | some x=>cond ok (.tuple #[x,.bool true]) x
   | none=>cond ok (.tuple #[z,.bool false]) z):=by
 obtain ⟨es,clk,h1,h2⟩:=h
 unfold lkp cfind
 simp only [u,uk,hd,hz,h1,optB,cond_true]
 rw [find_now hk s es m 0 h2]
 simp only
 have:=look_get m s 0
 cases hl:look m s 0 with
 | none=>rw [hl] at this; rw [←this]; rfl
 | some p=>rw [hl] at this; obtain ⟨i,x⟩:=p; rw [←this]; rfl
theorem w_mup (u:P.underlying t=some (.map kt el)) (uk:P.underlying kt=some d) (hd:simpleKey d=true) (hk:∀ a b,keyEq d (enc a) (enc b)=some (decide (a=b))) {W:CW} {r:Nat} {m:List (κ × Value)} (h:MapAt enc W r m) {s:κ} {x:Value} {K:CW→Prop}
  (hK:∀ W1,Upd r W W1→MapAt enc W1 r (mset m s x)→K W1):wV (mup P t (.map (some r)) (enc s) x W) K:=by
 obtain ⟨es,clk,h1,h2⟩:=h
 have hf:=find_now hk s es m 0 h2
 cases hl:look m s 0 with
 | none =>
  rw [hl] at hf
  refine wV_of (v:=W.upd r (.map (es++[{ key:=enc s,val:=x,born:=clk }]) (clk+1))) ?_ (hK _ (Upd.of _ _ _) ⟨_,_,by rw [obj_upd,if_pos rfl],?_⟩)
  ·unfold mup cfind
   simp only [u,uk,hd,h1,optB,cond_true,hf]
  ·rw [look_none_set s x m 0 hl,List.map_append,List.map_append,h2]; rfl
 | some p =>
  obtain ⟨j,y⟩:=p
  rw [hl] at hf
  obtain ⟨h3,_⟩:=mod_now hk s x es m 0 j y h2 hl
  rw [Nat.sub_zero] at h3
  refine wV_of (v:=W.upd r (.map (modAt x (enc s) j es) clk)) ?_ (hK _ (Upd.of _ _ _) ⟨_,_,by rw [obj_upd,if_pos rfl],h3⟩)
  unfold mup cfind
  simp only [u,uk,hd,h1,optB,cond_true,hf]
theorem w_mkm {W:CW} {K:Value→CW→Prop} (ht:Top W) (hk:∀ W1,Kp W W1→Top W1→W1.sz=W.sz+1→MapAt enc W1 W.sz []→K (.map (some W.sz)) W1):wVW (mkm W) K :=
 hk _ (.new _) (ht.new _) rfl ⟨[],0,by rw [obj_new,if_pos rfl],rfl⟩
end
theorem key_str (a b:ByteArray):keyEq .string (.string a) (.string b)=some (decide (a=b)):=by
 simp only [keyEq,bEq_dec]
section
variable {P:Program}
theorem firstN_of {W:CW} {a:Addr} {cs:List Value} (h:Cells W a.block a.off cs):firstN (some a) cs.length W=some cs:=by
 unfold firstN
 simp only [cond_eq_ite]
 cases cs with
 | nil=>rfl
 | cons c cs =>
  rw [if_neg (by simp)]
  have hlast:∃ v,(c::cs)[cs.length]?=some v:=⟨(c::cs)[cs.length]'(by simp),List.getElem?_eq_getElem _⟩
  obtain ⟨v,hv⟩:=hlast
  have hcl:=h _ v hv
  unfold CW.cell at hcl
  split at hcl
  ·rename_i t n z e ho
   split at hcl
   ·rename_i hlt
    rw [ho]
    simp only [List.length_cons]
    rw [if_pos (Nat.ble_eq_true_of_le (by omega))]
    have:=readCells_of (c:=t) (z:=z) (vs:=c::cs) (k:=a.off) fun j w hj=>by
     have:=h j w hj
     unfold CW.cell at this
     rw [ho] at this
     simp only at this
     split at this
     ·exact Option.some.inj this
     ·cases this
    rw [←this]; simp
   ·cases hcl
  ·rename_i f n e ho
   split at hcl
   ·rename_i hlt
    rw [ho]
    simp only [List.length_cons]
    rw [if_pos (Nat.ble_eq_true_of_le (by omega))]
    have:=readFix_of (f:=f) (vs:=c::cs) (k:=a.off) fun j w hj=>by
     have:=h j w hj
     unfold CW.cell at this
     rw [ho] at this
     simp only at this
     split at this
     ·exact Option.some.inj this
     ·cases this
    rw [←this]; simp
   ·cases hcl
  ·cases hcl
inductive Own (W:CW) (el:TypeId) (n:Nat):Value→List Value→Prop where
 | nil:Own W el n (.slice none 0 0) []
 | some {b len:Nat} {cs:List Value} (h:Blk W b el cs) (hl:cs.length=len*n):Own W el n (.slice (some ⟨b,0,none⟩) len len) cs
structure Grew (v:Value) (W W':CW):Prop where
 sz:W'.sz=W.sz+1
 top:Top W→Top W'
 obj:∀ i,i<W.sz→(∀ b l c,v=.slice (some b) l c→i≠b.block)→W'.obj i=W.obj i
theorem Grew.kp {v:Value} {A W W':CW} (h:Grew v W W') (k:Kp A W) (hv:∀ b l c,v=.slice (some b) l c→A.sz≤b.block):Kp A W' :=
 ⟨by rw [h.sz]; have:=k.sz; omega,fun i hi=>by
  rw [h.obj i (by have:=k.sz; omega) (fun b l c e=>by have:=hv b l c e; omega)]
  exact k.obj i hi⟩
theorem w_app {t u el:TypeId} {ts:List TypeId} {n bytes:Nat} {z:Value} (ut:P.underlying t=some (.slice el)) (hu:noInt P u=true) (hs:siz P el=some n) (hz:zer P el=some z) (hzn:z.cells.size=n) (hn:0<n) (hby:(P.info? el).map (·.bytes)=some bytes) (hb:bytes≤1024)
  {W:CW} (ht:Top W) {v x:Value} {cs news:List Value} {m:Nat} (hv:Own W el n v cs) (hx:srcN x=some m) (hm:0<m) (hsrc:srcCells x m n W=some news) (h1:news.all oneCell=true) (hnl:news.length=m*n) (hlim:cs.length+m≤1000000) {K:Value→CW→Prop}
  (hk:∀ W1 len,Grew v W W1→(cs++news).length=len*n→Blk W1 W.sz el (cs++news)→K (.slice (some ⟨W.sz,0,none⟩) len len) W1):wVW (app P (t::u::ts) v x W) K:=by
 have hble:Nat.ble ((P.info? el).map (·.bytes) |>.getD 2000) 1024=true:=by rw [hby]; exact Nat.ble_eq_true_of_le hb
 unfold app
 simp only [hu,cond_true]
 cases hv with
 | nil =>
  have hc:cappend P t (.slice none 0 0) x W=some (.slice (some ⟨W.sz,0,none⟩) (0+m) (0+m),W.new (.cells (Tr.nil.putFrom 0 news) ((0+m)*n) #[] el)):=by
   unfold cappend
   simp only [ut,hx,optB,hs,hz,hsrc,h1,hnl,Nat.beq_refl,hzn,hble,Bool.true_and,Bool.and_true]
   rw [show Nat.blt 0 n=true from Nat.ble_eq_true_of_le hn,show Nat.ble (0+m) 1000000=true from Nat.ble_eq_true_of_le (by simp only [List.length_nil] at hlim; omega)]
   simp only [Bool.and_self,cond_true]
   rw [show Nat.ble (0+m) 0=false from by cases h:Nat.ble (0+m) 0 with | false=>rfl | true=>have:=Nat.le_of_ble_eq_true h; omega]
   simp only [cond_false,Nat.beq_refl,cond_true]
  refine wVW_of hc (hk _ _ ⟨rfl,fun ht=>ht.new _,fun i hi _=>by rw [obj_new,if_neg (by omega)]⟩ (by rw [List.nil_append,hnl]; congr 1; omega) ⟨_,_,_,by rw [obj_new,if_pos rfl],by rw [List.nil_append,hnl]; congr 1; omega,fun k w hw=>?_⟩)
  rw [List.nil_append] at hw
  rw [cellAt_list _ _ _ (List.getElem?_eq_some_iff.1 hw).1,List.getD_eq_getElem?_getD,hw]; rfl
 | @some b len cs hB hl =>
  obtain ⟨c,k,zz,ho,hck,hcell⟩:=hB
  have hlen:len≤cs.length:=by rw [hl]; exact Nat.le_mul_of_pos_right _ hn
  have hrd:readCells c zz (len*n) 0=cs:=by
   rw [←hl]
   exact readCells_of fun j w hj=>by rw [Nat.zero_add]; exact hcell j w hj
  have hc:cappend P t (.slice (some ⟨b,0,none⟩) len len) x W=some (.slice (some ⟨W.sz,0,none⟩) (len+m) (len+m),(W.upd b .dead).new (.cells (Tr.nil.putFrom 0 (cs++news)) ((len+m)*n) #[] el)):=by
   unfold cappend
   simp only [ut,hx,optB,hs,hz,hsrc,h1,hnl,Nat.beq_refl,hzn,hble,Bool.true_and,Bool.and_true]
   rw [show Nat.blt 0 n=true from Nat.ble_eq_true_of_le hn,show Nat.ble (len+m) 1000000=true from Nat.ble_eq_true_of_le (by omega)]
   simp only [Bool.and_self,cond_true]
   rw [show Nat.ble (len+m) len=false from by cases h:Nat.ble (len+m) len with | false=>rfl | true=>have:=Nat.le_of_ble_eq_true h; omega]
   simp only [cond_false,Option.isSome_none,ho,Nat.beq_refl,Bool.and_true,Nat.zero_add,hrd]
   rw [show Nat.ble (len*n) k=true from Nat.ble_eq_true_of_le (by omega)]
   simp only [cond_true]
  refine wVW_of hc (hk _ _ ⟨rfl,fun ht=>Top.new (ht.upd (ht _ _ ho) (Upd.of _ _ _)) _,fun i hi hne=>by
    have:=hne ⟨b,0,none⟩ len len rfl
    rw [obj_new,if_neg (by rw [sz_upd]; omega),obj_upd,if_neg this]⟩ (by rw [List.length_append,hl,hnl,←Nat.add_mul]) ⟨_,_,_,by rw [obj_new,if_pos (by rw [sz_upd])],by rw [List.length_append,hl,hnl,←Nat.add_mul],fun k w hw=>?_⟩)
  rw [cellAt_list _ _ _ (List.getElem?_eq_some_iff.1 hw).1,List.getD_eq_getElem?_getD,hw]; rfl
end
end Go.Ce
namespace Go.Ce
open Go Go.Proofs Go.Proofs.Tryz
def Ret (v:Value) (W:CW):Ending→CW→Prop:=fun e W'=>e=.returned v∧Kp W W'∧Top W'
theorem w_ret {P:Program} {L:List FuncId} {f:FuncId} {args:List Value} {W:CW} {K:Value→CW→Prop} {KP:List PanicEntry→CW→Prop} {v:Value} (h:WCall P L f args W (Ret v W)) (hk:∀ W1,Kp W W1→Top W1→K v W1):WCall P L f args W (onEnd K KP) :=
 h.mono fun e W' ⟨he,h1,h2⟩=>by subst he; exact hk W' h1 h2
def RByte (W:CW) (b o:Nat) (x:UInt8):Prop:=W.cell b o=some (.int .u8 x.toNat)
def badByte (x:UInt8):Bool:=decide ((x.toNat:Int)<33) || decide ((x.toNat:Int)>126)
def idxI {α:Type} (l:List α) (p:α→Bool):Int:=match l.findIdx? p with
 | some i=>i
 | none=>-1
theorem idxI_some {α:Type} {l:List α} {p:α→Bool} {i:Nat} (h:i<l.length) (hp:p l[i]=true) (hpre:∀ j x,j<i→l[j]?=some x→p x=false):idxI l p=i:=by
 have:l.findIdx? p=some i:=by
  rw [List.findIdx?_eq_some_iff_getElem]
  exact ⟨h,hp,fun j hj=>by rw [hpre j l[j] hj (List.getElem?_eq_getElem _)]; simp⟩
 simp [idxI,this]
theorem idxI_none {α:Type} {l:List α} {p:α→Bool} (hpre:∀ (j:Nat) x,j<l.length→l[j]?=some x→p x=false):idxI l p=-1:=by
 have:l.findIdx? p=none:=by
  rw [List.findIdx?_eq_none_iff]
  intro x hx
  obtain ⟨j,hj,rfl⟩:=List.mem_iff_getElem.1 hx
  exact hpre j l[j] hj (List.getElem?_eq_getElem _)
 simp [idxI,this]
theorem index140_ok {v:Value} {l:List UInt8} {W:CW} (hl:IsSl 1 (RByte W) v l) (hlen:l.length<1000000):WCall prog pkL 140 [v,.func (.func 124) #[] #[]] W (Gives (.int .i64 (idxI l badByte)) W):=by
 refine f140_w ?_
 rw [f140_c]
 obtain ⟨a,cap,rfl,hcell⟩:=hl
 rw [clen_sl u29]
 simp only [wV_some]
 refine w_loop (fun k e ds W'=>W'=W∧ds=[]∧∃ i:Nat,e 0=.slice a l.length cap∧e 1=.func (.func 124) #[] #[]∧e 7=.int .i64 l.length∧e 8=.int .i64 i∧i≤l.length∧k=l.length-i∧∀ j x,j<i→l[j]?=some x→badByte x=false) l.length ⟨rfl,rfl,0,rfl,rfl,rfl,rfl,by omega,by omega,by omega⟩ ?_
 rintro k e ds W' ⟨rfl,rfl,i,h0,h1,h7,h8,hi,rfl,hpre⟩
 rw [f140_l0,h0,h1,h7,h8]
 simp only [wV_some,cbin_lss]
 refine wI_bool (fun h=>?_) (fun h=>?_)
 ·have hlt:i<l.length:=by simpa using h
  have hx:=List.getElem?_eq_getElem hlt
  obtain ⟨p,rfl,hp⟩:=hcell i _ hx
  rw [iad_sl u29 s5 hlt]
  simp only [wV_some,ld_word a5 (a:=⟨p.block,p.off+i*1,none⟩) hp]
  refine w_callV Tryz.func124 (by kernel_rfl) (w_gives (isSymbol1_ok _ _) ?_)
  refine wI_bool (fun hq=>?_) (fun hq=>?_)
  ·simp only [f140_k1,qKr,tKr,bKr,f140_k0,f140_leave,eKc,↓reduceIte]
   refine ⟨?_,rfl⟩
   rw [idxI_some hlt hq hpre]
  ·simp only [f140_k1,qKn,eKc,eKn,Nat.reduceEqDiff,↓reduceIte,h0,h1,h7,h8,cbin_add,wV_some,tKn]
   refine ⟨l.length-(i+1),by omega,trivial,trivial,i+1,trivial,trivial,trivial,?_,hlt,rfl,fun j x hj hx'=>?_⟩
   ·rw [wrap64 (by omega) (by omega)]
    rfl
   ·rcases Nat.lt_succ_iff_lt_or_eq.1 hj with h2 | rfl
    ·exact hpre j x h2 hx'
    ·rw [hx] at hx'; cases hx'; exact hq
 ·have hge:i=l.length:=by have:¬i<l.length:=(by simpa using h); omega
  simp only [tKx,bKx,if_true,f140_k0,qKn,f140_leave,eKc,↓reduceIte]
  refine ⟨?_,rfl⟩
  rw [idxI_none fun j x hj hx=>hpre j x (by omega) hx]
theorem contains123_ok {v:Value} {l:List UInt8} {W:CW} (hl:IsSl 1 (RByte W) v l) (hlen:l.length<1000000):WCall prog pkL 123 [v,.func (.func 124) #[] #[]] W (Gives (.bool (l.any badByte)) W):=by
 refine f123_w ?_
 rw [f123_c]
 refine w_gives (index140_ok hl hlen) ?_
 simp only [cbin_geq,wV_some,f123_leave,eKc,↓reduceIte]
 refine ⟨?_,rfl⟩
 congr 2
 cases h:l.any badByte with
 | true =>
  obtain ⟨x,hx,hb⟩:=List.any_eq_true.1 h
  unfold idxI
  cases h2:l.findIdx? badByte with
  | none=>rw [List.findIdx?_eq_none_iff] at h2; rw [h2 x hx] at hb; cases hb
  | some i=>simp
 | false =>
  rw [idxI_none fun j x hj hx=>by
   have:=List.any_eq_false.1 h x (List.mem_of_getElem? hx)
   simpa using this]
  rfl
def isSym (s:ByteArray):Bool:=(decide ((1:Int)≤s.size) && decide ((s.size:Int)≤60)) && !(sb s).any badByte
theorem w_cvs {s:ByteArray} {W:CW} (ht:Top W) {K:Value→CW→Prop} (hk:∀ v W1,Kp W W1→Top W1→IsSl 1 (RByte W1) v (sb s)→K v W1):wVW (cvs prog 9 29 (.string s) W) K:=by
 have hc:cvs prog 9 29 (.string s) W=some (.slice (some ⟨W.sz,0,none⟩) s.size s.size,W.new (.cells (Tr.nil.putFrom 0 (byteCells (sb s))) s.size #[] 5)):=by kernel_rfl
 have hsz:(sb s).length=s.size:=by cases s; exact Array.length_toList
 refine wVW_of hc (hk _ _ (.new _) (ht.new _) ⟨some ⟨W.sz,0,none⟩,s.size,by rw [hsz],fun i x hx=>⟨_,rfl,?_⟩⟩)
 have hlt:=(List.getElem?_eq_some_iff.1 hx).1
 unfold RByte CW.cell
 rw [obj_new,if_pos rfl]
 simp only [Nat.zero_add,Nat.mul_one]
 rw [if_pos (by omega),cellAt_list _ _ _ (by simp [byteCells]; exact hlt)]
 simp [byteCells,List.getD_eq_getElem?_getD,hx]
theorem isSymbol_ok {s:ByteArray} {W:CW} (ht:Top W) (hlen:s.size<1000000):WCall prog pkL 101 [.string s] W (Ret (.bool (isSym s)) W):=by
 have hsz:(sb s).length=s.size:=by cases s; exact Array.length_toList
 refine f101_w ?_
 rw [f101_c,clen_str u9]
 simp only [wV_some]
 refine w_gives (in_ok _ _ _ _) ?_
 refine wI_bool (fun h=>?_) (fun h=>?_)
 ·refine w_cvs ht fun v W1 k1 t1 hv=>?_
  refine w_gives (contains123_ok hv (by omega)) ?_
  simp only [ngt_bool,wV_some,f101_k0,qKn,f101_leave,eKc,↓reduceIte]
  refine ⟨?_,k1,t1⟩
  simp only [isSym,h,Bool.true_and]
 ·simp only [f101_k0,qKn,f101_leave,eKc,↓reduceIte]
  refine ⟨?_,.refl _,ht⟩
  simp only [isSym,h,Bool.false_and]
end Go.Ce
namespace Go.Ce
open Go Go.Proofs Go.Proofs.Tryz
theorem sb_length (s:ByteArray):(sb s).length=s.size:=by cases s; exact Array.length_toList
theorem sb_get (s:ByteArray) (i:Nat):s[i]?=(sb s)[i]?:=by
 by_cases h:i<s.size
 ·rw [getElem?_pos s i h,List.getElem?_eq_getElem (by rw [sb_length]; exact h)]
  cases s
  simp [sb]
  rfl
 ·rw [getElem?_neg s i h,List.getElem?_eq_none (by rw [sb_length]; omega)]
theorem isKindR_ok (n:Int) (W:CW):WCall prog pkL 96 [.int .u8 n] W (Gives (.bool (n == 1 || n == 2)) W):=by
 refine f96_w ?_
 rw [f96_c]
 simp only [cbin_eql,wV_some]
 refine wI_bool (fun h=>?_) (fun h=>?_) <;> simp only [f96_k0,qKn,f96_leave,eKc] <;> refine ⟨?_,rfl⟩ <;> simp [h]
theorem isSymbolR_ok {s:ByteArray} {W:CW} (hlen:s.size<1000000):WCall prog pkL 95 [.string s] W (Gives (.bool (isSym s)) W):=by
 refine f95_w ?_
 rw [f95_c]
 refine w_loop (fun k e ds W'=>W'=W∧ds=[]∧∃ i:Nat,e 0=.string s∧e 3=.int .i64 i∧i≤s.size∧k=s.size-i∧∀ j x,j<i→(sb s)[j]?=some x→badByte x=false) s.size ⟨rfl,rfl,0,rfl,rfl,by omega,by omega,by omega⟩ ?_
 rintro k e ds W' ⟨rfl,rfl,i,h0,h3,hi,rfl,hpre⟩
 rw [f95_l0,h0,h3,clen_str u9]
 simp only [wV_some,cbin_lss]
 refine wI_bool (fun h=>?_) (fun h=>?_)
 ·have hlt:i<s.size:=by simpa using h
  have hx:(sb s)[i]?=some ((sb s)[i]'(by rw [sb_length]; exact hlt)):=List.getElem?_eq_getElem _
  rw [idx_str u9 (by rw [sb_get]; exact hx)]
  simp only [wV_some,cbin_lss,cbin_gtr]
  have next:∀ e1:Env,e1 0=.string s→e1 3=.int .i64 i→e1 19=.bool (badByte ((sb s)[i]'(by rw [sb_length]; exact hlt)))→(f95_k3 none (stepK (fun k e ds W'_1=>W'_1=W'∧ds=[]∧∃ i:Nat,e 0=.string s∧e 3=.int .i64 i∧i≤s.size∧k=s.size-i∧∀ j x,j<i→(sb s)[j]?=some x→badByte x=false) (s.size-i) (blkK 0 (f95_k1 none (wLeave prog Tryz.f95 (Gives (.bool (isSym s)) W')))))) .normal e1 [] W':=by
   intro e1 g0 g3 g19
   simp only [f95_k3,qKn]
   rw [g19]
   refine wI_bool (fun hq=>?_) (fun hq=>?_)
   ·simp only [f95_k2,qKr,tKr,bKr,f95_k1,f95_leave,eKc,↓reduceIte]
    refine ⟨?_,rfl⟩
    have:(sb s).any badByte=true:=List.any_eq_true.2 ⟨_,List.mem_of_getElem? hx,hq⟩
    simp [isSym,this]
   ·simp only [f95_k2,qKn,eKc,eKn,Nat.reduceEqDiff,↓reduceIte,g0,g3,cbin_add,wV_some,tKn]
    refine ⟨s.size-(i+1),by omega,trivial,trivial,i+1,trivial,?_,hlt,rfl,fun j x hj hx'=>?_⟩
    ·rw [wrap64 (by omega) (by omega)]
     rfl
    ·rcases Nat.lt_succ_iff_lt_or_eq.1 hj with h2 | rfl
     ·exact hpre j x h2 hx'
     ·rw [hx] at hx'; cases hx'; exact hq
  refine wI_bool (fun hq=>?_) (fun hq=>?_)
  ·refine next _ ?_ ?_ ?_ <;> simp only [eKc,eKn,Nat.reduceEqDiff,↓reduceIte,h0,h3]
   simp only [badByte,hq,Bool.true_or]
  ·refine next _ ?_ ?_ ?_ <;> simp only [eKc,eKn,Nat.reduceEqDiff,↓reduceIte,h0,h3]
   simp only [badByte,hq,Bool.false_or]
 ·have hge:i=s.size:=by have:¬i<s.size:=(by simpa using h); omega
  simp only [tKx,bKx,if_true,f95_k1,qKn,eKc,eKn,Nat.reduceEqDiff,↓reduceIte,h0,clen_str u9,wV_some,cbin_geq,cbin_leq]
  have:(sb s).any badByte=false:=by
   rw [List.any_eq_false]
   intro x hx
   obtain ⟨j,hj,rfl⟩:=List.mem_iff_getElem.1 hx
   have:=hpre j _ (by rw [sb_length] at hj; omega) (List.getElem?_eq_getElem hj)
   simp [this]
  refine wI_bool (fun hq=>?_) (fun hq=>?_)
  ·simp only [f95_k0,qKn,f95_leave,eKc,↓reduceIte]
   refine ⟨?_,rfl⟩
   have hq:(1:Int)≤s.size:=of_decide_eq_true hq
   simp [isSym,this,hq]
  ·simp only [f95_k0,qKn,f95_leave,eKc,↓reduceIte]
   refine ⟨?_,rfl⟩
   have hq:¬(1:Int)≤s.size:=of_decide_eq_false hq
   simp only [isSym,hq,decide_false,Bool.false_and]
end Go.Ce
namespace Go.Ce
section
variable {P:Program}
def Newer (A:Nat) (v:Value):Prop:=∀ b l c,v=.slice (some b) l c→A≤b.block
theorem Newer.nil (A l c:Nat):Newer A (.slice none l c):=fun b l c h=>by cases h
theorem newer_own {A:Nat} {len:Nat} {b:Nat} (h:A≤b):Newer A (.slice (some ⟨b,0,none⟩) len len):=fun b l c h=>by cases h; assumption
structure Pushed (v:Value) (W W':CW):Prop where
 sz:W.sz≤W'.sz
 obj:∀ i,i<W.sz→(∀ b l c,v=.slice (some b) l c→i≠b.block)→W'.obj i=W.obj i
theorem Pushed.kp {v:Value} {A W W':CW} (h:Pushed v W W') (k:Kp A W) (hv:Newer A.sz v):Kp A W' :=
 ⟨by have:=h.sz; have:=k.sz; omega,fun i hi=>by
  rw [h.obj i (by have:=k.sz; omega) (fun b l c e=>by have:=hv b l c e; omega)]
  exact k.obj i hi⟩
theorem w_push {t el:TypeId} {ts:List TypeId} {n bytes:Nat} {z x:Value} {xs:List Value} (ut:P.underlying t=some (.slice el)) (hs:siz P el=some n) (hz:zer P el=some z) (hzn:z.cells.size=n) (hn:0<n) (hby:(P.info? el).map (·.bytes)=some bytes) (hb:bytes≤1024)
  (hbsl:∀ W,bsl P t 1 [(0,x)] W=some (.slice (some ⟨W.sz,0,none⟩) 1 1,W.new (.cells (Tr.nil.putFrom 0 xs) xs.length #[] el))) (hxs:xs.length=n) (hx1:xs.all oneCell=true)
  {W:CW} (ht:Top W) {v:Value} {cs:List Value} (hv:Own W el n v cs) (hlim:cs.length<900000) {K:Value→Value→CW→Prop}
  (hk:∀ u v1 W1,Pushed v W W1→Top W1→Own W1 el n v1 (cs++xs)→(∀ A,A≤W.sz→Newer A v1)→K u v1 W1):wVW (bsl P t 1 [(0,x)] W) fun u W1=>wVW (app P (t::t::ts) v u W1) fun v1 W2=>K u v1 W2:=by
 refine wVW_of (hbsl W) ?_
 have hkp:Kp W (W.new (.cells (Tr.nil.putFrom 0 xs) xs.length #[] el)):=.new _
 have hB:Blk (W.new (.cells (Tr.nil.putFrom 0 xs) xs.length #[] el)) W.sz el xs:=⟨_,_,_,by rw [obj_new,if_pos rfl],rfl,fun k w hw=>by
  rw [cellAt_list _ _ _ (List.getElem?_eq_some_iff.1 hw).1,List.getD_eq_getElem?_getD,hw]; rfl⟩
 have hv':Own (W.new (.cells (Tr.nil.putFrom 0 xs) xs.length #[] el)) el n v cs:=by
  cases hv with
  | nil=>exact .nil
  | some h hl=>exact .some (h.ext ht hkp) hl
 have hvb:∀ b l c,v=.slice (some b) l c→b.block<W.sz:=by
  intro b l c e
  cases hv with
  | nil=>cases e
  | some h hl=>cases e; exact h.lt ht
 have hu:noInt P t=true:=by unfold noInt; rw [ut]
 refine w_app (x:=.slice (some ⟨W.sz,0,none⟩) 1 1) (m:=1) (news:=xs) ut hu hs hz hzn hn hby hb (ht.new _) hv' rfl (by omega) ?_ hx1 (by omega) (by omega) fun W1 len hg hl hB1=>?_
 ·show firstN (some ⟨W.sz,0,none⟩) (1*n) _=some xs
  rw [Nat.one_mul,←hxs]
  exact firstN_of hB.cells
 ·refine hk _ _ W1 ⟨by rw [hg.sz,sz_new]; omega,fun i hi hne=>?_⟩ (hg.top (ht.new _)) (.some hB1 hl) (fun A hA b l c e=>by cases e; rw [sz_new]; show A≤W.sz+1; omega)
  rw [hg.obj i (by rw [sz_new]; omega) hne,obj_new,if_neg (by omega)]
end
end Go.Ce
namespace Go.Ce
open Go Go.Proofs Go.Proofs.Tryz
theorem IsSl.imp {α:Type} {n:Nat} {R S:Nat→Nat→α→Prop} {v:Value} {l:List α} (h:IsSl n R v l) (hi:∀ b o x,R b o x→S b o x):IsSl n S v l:=by
 obtain ⟨a,cap,h1,h2⟩:=h
 exact ⟨a,cap,h1,fun i x hx=>by obtain ⟨p,hp,hr⟩:=h2 i x hx; exact ⟨p,hp,hi _ _ _ hr⟩⟩
theorem RFld.kp {W W':CW} {b o:Nat} {x:Fld} (h:RFld W b o x) (ht:Top W) (k:Kp W W'):RFld W' b o x:=⟨k.cell ht h.name,k.cell ht h.kind,h.lo,h.hi⟩
theorem RShp.kp {W W':CW} {b o:Nat} {x:Shp} (h:RShp W b o x) (ht:Top W) (k:Kp W W'):RShp W' b o x :=
 ⟨k.cell ht h.name,k.cell ht h.super,by obtain ⟨v,h1,h2⟩:=h.fields; exact ⟨v,k.cell ht h1,h2.imp fun _ _ _ hr=>hr.kp ht k⟩,k.cell ht h.elem,by obtain ⟨a,l,n,h1⟩:=h.binds; exact ⟨a,l,n,k.cell ht h1⟩,h.lo,h.hi⟩
def noName:ByteArray:=⟨#[]⟩
def isup (c:List Shp) (i:Nat):Option Nat:=match c[i]? with
 | some x=>match c.findIdx? (fun y=>decide (y.name=x.super)) with
  | some j=>match c[j]? with
   | some y=>if y.elem=0 then some j else none
   | none=>none
  | none=>none
 | none=>none
def lineP (c:List Shp):Nat→Nat→Option (List Nat)
 | f,i=>match c[i]? with
  | none=>none
  | some x=>if x.super=noName then some [i] else match f with
   | 0=>none
   | f+1=>match isup c i with
    | some j=>(lineP c f j).map (i::·)
    | none=>none
termination_by f=>f
def ints (l:List Nat):List Value:=l.map fun (i:Nat)=>Value.int .i64 (i:Int)
theorem z3:zer prog 3=some (.int .i64 0):=by kernel_rfl
theorem by3:(prog.info? 3).map (·.bytes)=some 8:=by kernel_rfl
theorem bsl40 (n:Int) (W:CW):bsl prog 40 1 [(0,.int .i64 n)] W=some (.slice (some ⟨W.sz,0,none⟩) 1 1,W.new (.cells (Tr.nil.putFrom 0 [.int .i64 n]) [Value.int .i64 n].length #[] 3)):=by kernel_rfl
theorem own_one (W:CW) (el:TypeId) (x:Value):Own (W.new (.cells (Tr.nil.putFrom 0 [x]) [x].length #[] el)) el 1 (.slice (some ⟨W.sz,0,none⟩) 1 1) [x] :=
 .some ⟨Tr.nil.putFrom 0 [x],1,#[],by rw [obj_new,if_pos rfl]; rfl,rfl,fun k w hw=>by
  rw [cellAt_list _ _ _ (List.getElem?_eq_some_iff.1 hw).1,List.getD_eq_getElem?_getD,hw]; rfl⟩ rfl
theorem own_clen {P:Program} {t el el':TypeId} (u:P.underlying t=some (.slice el')) {W W':CW} {v:Value} {cs:List Value} (h:Own W el 1 v cs):clen P t v W'=some (.int .i64 cs.length):=by
 cases h with
 | nil=>rw [clen_sl u]; rfl
 | some hB hl=>rw [clen_sl u,hl,Nat.mul_one]
def LinePost (c:List Shp) (i:Nat) (W:CW):Ending→CW→Prop:=fun e W'=>Kp W W'∧Top W'∧match lineP c c.length i with
 | some l=>∃ vo,e=.returned (.tuple #[vo,.bool true])∧Own W' 3 1 vo (ints l)∧Newer W.sz vo
 | none=>e=.returned (.tuple #[.slice none 0 0,.bool false])
theorem lineP_end {c:List Shp} {f i:Nat} {x:Shp} (hx:c[i]?=some x) (hs:x.super=noName):lineP c f i=some [i]:=by
 unfold lineP; rw [hx]; simp only [hs,if_true]
theorem lineP_zero {c:List Shp} {i:Nat} {x:Shp} (hx:c[i]?=some x) (hs:x.super≠noName):lineP c 0 i=none:=by
 unfold lineP; rw [hx]; simp only [hs,if_false]
theorem lineP_succ {c:List Shp} {f i:Nat} {x:Shp} (hx:c[i]?=some x) (hs:x.super≠noName):lineP c (f+1) i=match isup c i with
  | some j=>(lineP c f j).map (i::·)
  | none=>none:=by
 rw [lineP,hx]; simp only [hs,if_false]
theorem line_ok {v:Value} {c:List Shp} {i0:Nat} {W:CW} (ht:Top W) (hc:IsSl 5 (RShp W) v c) (hlen:c.length<100000) (hi0:i0<c.length):WCall prog pkL 97 [v,.int .i64 i0] W (LinePost c i0 W):=by
 refine f97_w ?_
 rw [f97_c]
 refine wVW_of (bsl40 _ W) ?_
 have k0:Kp W (W.new (.cells (Tr.nil.putFrom 0 [.int .i64 (i0:Int)]) [Value.int .i64 (i0:Int)].length #[] 3)):=.new _
 have t0:=ht.new (.cells (Tr.nil.putFrom 0 [.int .i64 (i0:Int)]) [Value.int .i64 (i0:Int)].length #[] 3)
 have o0:Own (W.new (.cells (Tr.nil.putFrom 0 [.int .i64 (i0:Int)]) [Value.int .i64 (i0:Int)].length #[] 3)) 3 1 (.slice (some ⟨W.sz,0,none⟩) 1 1) (ints [i0]):=own_one _ _ _
 refine w_loop (fun k e ds W'=>ds=[]∧∃ (i:Nat) (pre:List Nat) (vo:Value),e 0=v∧e 1=.int .i64 i∧e 6=vo∧i<c.length∧Own W' 3 1 vo (ints (pre++[i]))∧Newer W.sz vo∧Kp W W'∧Top W'∧k+pre.length=c.length∧lineP c c.length i0=(lineP c k i).map (pre++·)) c.length ⟨rfl,i0,[],_,rfl,rfl,rfl,hi0,o0,newer_own (Nat.le_refl _),k0,t0,rfl,by cases lineP c c.length i0 <;> rfl⟩ ?_
 rintro k e ds W' ⟨rfl,i,pre,vo,h0,h1,h6,hi,ho,hnw,hkp,ht',hk,hline⟩
 have hc':IsSl 5 (RShp W') v c:=hc.imp fun _ _ _ hr=>hr.kp ht hkp
 have hc2:=hc'
 obtain ⟨a,cap,rfl,hcell⟩:=hc2
 have hx:=List.getElem?_eq_getElem hi
 obtain ⟨p,rfl,hp⟩:=hcell i _ hx
 rw [f97_l0,h0,h1,h6,iad_sl u22 s48 hi]
 simp only [wV_some,fad48_1,ld_word a9 (a:=⟨p.block,p.off+i*5+1,none⟩) hp.super,cbin_sneq,bEq_dec]
 refine wI_bool (fun hs=>?_) (fun hs=>?_)
 ·have hs:c[i].super≠noName:=by simpa [noName] using hs
  refine w_gives (find_ok hc' (by omega)) ?_
  have fail:lineP c c.length i0=none→∀ e1:Env,e1 38=.bool true→(f97_k7 none (stepK (fun k e ds W'=>ds=[]∧∃ (i:Nat) (pre:List Nat) (vo:Value),e 0=.slice (some p) c.length cap∧e 1=.int .i64 i∧e 6=vo∧i<c.length∧Own W' 3 1 vo (ints (pre++[i]))∧Newer W.sz vo∧Kp W W'∧Top W'∧k+pre.length=c.length∧lineP c c.length i0=(lineP c k i).map (pre++·)) k (blkK 0 (f97_k1 none (wLeave prog Tryz.f97 (LinePost c i0 W)))))) .normal e1 [] W':=by
   intro hn e1 h38
   simp only [f97_k7,qKn]
   rw [h38]
   simp only [wI_true,f97_k6,qKr,bKr,tKr,f97_k1,f97_leave,eKc,eKn,Nat.reduceEqDiff,↓reduceIte]
   refine ⟨hkp,ht',?_⟩
   rw [hn]
  simp only [cbin_lss,wV_some]
  have hcl:clen prog 40 vo W'=some (.int .i64 ((pre.length+1:Nat):Int)):=by
   rw [own_clen u40 ho]; simp [ints]
  refine wI_bool (fun hneg=>?_) (fun hneg=>?_)
  ·refine fail ?_ _ (by simp only [eKc,↓reduceIte])
   have hneg:findI c c[i].super<0:=of_decide_eq_true hneg
   rw [hline]
   cases k with
   | zero=>rw [lineP_zero hx hs]; rfl
   | succ k =>
    rw [lineP_succ hx hs]
    have:isup c i=none:=by
     unfold isup
     rw [hx]
     simp only
     unfold findI at hneg
     cases hf:c.findIdx? (fun x=>decide (x.name=c[i].super)) with
     | none=>rfl
     | some j=>rw [hf] at hneg; simp at hneg; omega
    rw [this]; rfl
  ·have hneg:¬findI c c[i].super<0:=of_decide_eq_false hneg
   rw [hcl,clen_sl u22]
   simp only [wV_some,cbin_gtr]
   refine wI_bool (fun hgt=>?_) (fun hgt=>?_)
   ·refine fail ?_ _ (by simp only [eKc,↓reduceIte])
    have hgt:((pre.length+1:Nat):Int)>c.length:=of_decide_eq_true hgt
    have:k=0:=by omega
    subst this
    rw [hline,lineP_zero hx hs]; rfl
   ·have hgt:¬((pre.length+1:Nat):Int)>c.length:=of_decide_eq_false hgt
    obtain ⟨k,rfl⟩:∃ k',k=k'+1:=⟨k-1,by omega⟩
    obtain ⟨j,hf⟩:∃ j,c.findIdx? (fun x=>decide (x.name=c[i].super))=some j:=by
     cases hf:c.findIdx? (fun x=>decide (x.name=c[i].super)) with
     | none=>unfold findI at hneg; rw [hf] at hneg; simp at hneg
     | some j=>exact ⟨j,rfl⟩
    have hfi:findI c c[i].super=j:=by unfold findI; rw [hf]
    have hj:j<c.length:=(List.findIdx?_eq_some_iff_getElem.1 hf).1
    have hxj:=List.getElem?_eq_getElem hj
    obtain ⟨p',hp',hpj⟩:=hcell j _ hxj
    cases hp'
    rw [hfi,iad_sl u22 s48 hj]
    simp only [wV_some,fad48_3,ld_word a5 (a:=⟨p.block,p.off+j*5+3,none⟩) hpj.elem,cbin_neq]
    have hup:isup c i=if c[j].elem=0 then some j else none:=by
     unfold isup
     rw [hx]
     simp only [hf,hxj]
    by_cases he:c[j].elem=0
    ·have hb:(c[j].elem != 0)=false:=by simp [he]
     rw [hb]
     simp only [f97_k7,qKn,eKc,eKn,Nat.reduceEqDiff,↓reduceIte,wI_false,f97_k6]
     rw [h6]
     refine w_push u40 s3 z3 rfl (by omega) by3 (by omega) (bsl40 _) rfl rfl ht' ho (by simp [ints]; omega) fun u v1 W1 hpu t1 o1 n1=>?_
     simp only [tKn]
     refine ⟨k,by omega,trivial,j,pre++[i],v1,?_,?_,?_,hj,?_,n1 _ hkp.sz,hpu.kp hkp hnw,t1,by simp; omega,?_⟩
     ·simp only [eKc,eKn,Nat.reduceEqDiff,↓reduceIte]; exact h0
     ·simp only [eKc,eKn,Nat.reduceEqDiff,↓reduceIte]
     ·simp only [eKc,eKn,Nat.reduceEqDiff,↓reduceIte]
     ·have:ints (pre++[i]++[j])=ints (pre++[i])++[.int .i64 (j:Int)]:=by simp [ints]
      rw [this]; exact o1
     ·rw [hline,lineP_succ hx hs,hup,if_pos he]
      simp only [Option.map_map]
      congr 1
      funext l
      simp
    ·refine fail ?_ _ (by simp only [eKc,↓reduceIte]; simp [he])
     rw [hline,lineP_succ hx hs,hup,if_neg he]; rfl
 ·have hs:c[i].super=noName:=by simpa [noName] using hs
  simp only [tKx,bKx,if_true,f97_k1,qKn,f97_leave,eKc,eKn,Nat.reduceEqDiff,↓reduceIte,h6]
  refine ⟨hkp,ht',?_⟩
  rw [hline,lineP_end hx hs]
  exact ⟨vo,rfl,ho,hnw⟩
end Go.Ce
namespace Go.Ce
section
variable {α:Type} {W:CW} {b n:Nat} {enc:α→List Value}
theorem cells_flat (hn:∀ x,(enc x).length=n):∀ (l:List α) (o:Nat),(∀ i x,l[i]?=some x→Cells W b (o+i*n) (enc x))→Cells W b o (l.flatMap enc)
 | [],o,_=>fun j v h=>by cases h
 | x::l,o,h=>by
  intro j v hj
  rw [List.flatMap_cons] at hj
  by_cases hlt:j<n
  ·have h0:=h 0 x rfl
   rw [Nat.zero_mul,Nat.add_zero] at h0
   rw [List.getElem?_append_left (by rw [hn]; exact hlt)] at hj
   exact h0 j v hj
  ·rw [List.getElem?_append_right (by rw [hn]; omega),hn] at hj
   have:=cells_flat hn l (o+n) (fun i y hy=>by
    have:=h (i+1) y (by simpa using hy)
    rwa [show o+(i+1)*n=o+n+i*n by rw [Nat.succ_mul]; omega] at this) (j-n) v hj
   rwa [show o+n+(j-n)=o+j by omega] at this
theorem flat_cells (hn:∀ x,(enc x).length=n):∀ (l:List α) (o:Nat),Cells W b o (l.flatMap enc)→∀ i x,l[i]?=some x→Cells W b (o+i*n) (enc x)
 | [],o,_=>fun i x h=>by cases h
 | y::l,o,h=>by
  intro i x hx
  rw [List.flatMap_cons] at h
  cases i with
  | zero =>
   cases hx
   intro j v hj
   rw [Nat.zero_mul,Nat.add_zero]
   exact h j v (by rw [List.getElem?_append_left (List.getElem?_eq_some_iff.1 hj).1]; exact hj)
  | succ i =>
   have:=flat_cells hn l (o+n) (fun j v hj=>by
    have:=h (n+j) v (by rw [List.getElem?_append_right (by rw [hn]; omega),hn,Nat.add_sub_cancel_left]; exact hj)
    rwa [show o+(n+j)=o+n+j by omega] at this) i x (by simpa using hx)
   rwa [show o+n+i*n=o+(i+1)*n by rw [Nat.succ_mul]; omega] at this
end
section
variable {P:Program}
theorem w_apps {t u el:TypeId} {ts:List TypeId} {n bytes:Nat} {z:Value} (ut:P.underlying t=some (.slice el)) (hu:noInt P u=true) (hs:siz P el=some n) (hz:zer P el=some z) (hzn:z.cells.size=n) (hn:0<n) (hby:(P.info? el).map (·.bytes)=some bytes) (hb:bytes≤1024)
  {W:CW} (ht:Top W) {v:Value} {cs news:List Value} {a:Option Addr} {m cap:Nat} (hv:Own W el n v cs) (hsrc:0<m→∃ p,a=some p∧Cells W p.block p.off news) (h1:news.all oneCell=true) (hnl:news.length=m*n) (hlim:cs.length+m≤1000000) {K:Value→CW→Prop}
  (hk:∀ v1 W1,Pushed v W W1→Top W1→Own W1 el n v1 (cs++news)→(∀ A,A≤W.sz→Newer A v→Newer A v1)→K v1 W1):wVW (app P (t::u::ts) v (.slice a m cap) W) K:=by
 rcases Nat.eq_zero_or_pos m with rfl | hm
 ·have hnil:news=[]:=List.length_eq_zero_iff.1 (by rw [hnl,Nat.zero_mul])
  subst hnil
  have hble:Nat.ble ((P.info? el).map (·.bytes) |>.getD 2000) 1024=true:=by rw [hby]; exact Nat.ble_eq_true_of_le hb
  have hsr:srcCells (.slice a 0 cap) 0 n W=some []:=by
   show firstN a (0*n) W=some []
   rw [Nat.zero_mul]
   unfold firstN
   cases a <;> rfl
  have hc:app P (t::u::ts) v (.slice a 0 cap) W=some (v,W):=by
   unfold app
   simp only [hu,cond_true]
   cases hv with
   | nil =>
    unfold cappend
    simp only [ut,srcN,optB,hs,hz,hsr,List.all_nil,List.length_nil,Nat.zero_mul,Nat.beq_refl,hzn,hble,Bool.true_and,Bool.and_true]
    rw [show Nat.blt 0 n=true from Nat.ble_eq_true_of_le hn]
    rfl
   | @some b len cs hB hl =>
    have hlen:len≤cs.length:=by rw [hl]; exact Nat.le_mul_of_pos_right _ hn
    unfold cappend
    simp only [ut,srcN,optB,hs,hz,hsr,List.all_nil,List.length_nil,Nat.zero_mul,Nat.beq_refl,hzn,hble,Bool.true_and,Bool.and_true,Nat.add_zero]
    rw [show Nat.blt 0 n=true from Nat.ble_eq_true_of_le hn,show Nat.ble len 1000000=true from Nat.ble_eq_true_of_le (by omega),show Nat.ble len len=true from Nat.ble_eq_true_of_le (Nat.le_refl _)]
    rfl
  refine wVW_of hc (hk v W ⟨Nat.le_refl _,fun _ _ _=>rfl⟩ ht (by rw [List.append_nil]; exact hv) (fun A _ h=>h))
 ·obtain ⟨p,rfl,hcl⟩:=hsrc hm
  refine w_app (m:=m) ut hu hs hz hzn hn hby hb ht hv rfl hm ?_ h1 hnl hlim fun W1 len hg hl hB=>?_
  ·show firstN (some p) (m*n) W=some news
   rw [←hnl]
   exact firstN_of hcl
  ·exact hk _ W1 ⟨by rw [hg.sz]; omega,hg.obj⟩ (hg.top ht) (.some hB hl) (fun A hA _=>newer_own hA)
end
end Go.Ce
namespace Go.Ce
open Go Go.Proofs Go.Proofs.Tryz
theorem Own.kp {W W':CW} {el:TypeId} {n:Nat} {v:Value} {cs:List Value} (h:Own W el n v cs) (ht:Top W) (k:Kp W W'):Own W' el n v cs:=by
 cases h with
 | nil=>exact Own.nil
 | some hB hl=>exact Own.some (hB.ext ht k) hl
theorem lineP_length (c:List Shp):∀ (f i:Nat) (l:List Nat),lineP c f i=some l→l.length≤f+1∧∀ j,j ∈ l→j<c.length
 | f,i,l,h=>by
  unfold lineP at h
  cases hx:c[i]? with
  | none=>rw [hx] at h; cases h
  | some x =>
   rw [hx] at h
   have hi:i<c.length:=(List.getElem?_eq_some_iff.1 hx).1
   simp only at h
   split at h
   ·cases h
    exact ⟨by simp,fun j hj=>by rw [List.mem_singleton.1 hj]; exact hi⟩
   ·cases f with
    | zero=>cases h
    | succ f =>
     simp only at h
     split at h
     ·rename_i j hj
      cases hl:lineP c f j with
      | none=>rw [hl] at h; cases h
      | some m =>
       rw [hl] at h
       cases h
       obtain ⟨h1,h2⟩:=lineP_length c f j m hl
       exact ⟨by simp only [List.length_cons]; omega,fun j hj=>by
        rcases List.mem_cons.1 hj with rfl | hj
        ·exact hi
        ·exact h2 j hj⟩
     ·cases h
termination_by f=>f
def flds (c:List Shp) (j:Nat):List Fld:=match c[j]? with
 | some x=>x.fields
 | none=>[]
def fieldsP (c:List Shp) (i:Nat):List Fld:=match lineP c c.length i with
 | some l=>l.reverse.flatMap (flds c)
 | none=>[]
def encF (f:Fld):List Value:=[.string f.name,.int .u8 f.kind]
theorem encF_len (f:Fld):(encF f).length=2:=rfl
theorem z72:zer prog 72=some (.agg #[.string ⟨#[]⟩,.int .u8 0]):=by kernel_rfl
theorem by72:(prog.info? 72).map (·.bytes)=some 24:=by kernel_rfl
theorem noInt45:noInt prog 45=true:=by kernel_rfl
theorem RFld.cells {W:CW} {b o:Nat} {x:Fld} (h:RFld W b o x):Cells W b o (encF x):=by
 intro j v hj
 match j,hj with
 | 0,hj=>cases hj; exact h.name
 | 1,hj=>cases hj; exact h.kind
theorem flds_len {c:List Shp} {m:Nat} (hf:∀ x,x ∈ c→x.fields.length≤m) (j:Nat):(flds c j).length≤m:=by
 unfold flds
 cases hx:c[j]? with
 | none=>simp
 | some x=>exact hf x (List.mem_of_getElem? hx)
theorem flat_len {c:List Shp} {m:Nat} (hf:∀ x,x ∈ c→x.fields.length≤m):∀ l:List Nat,((l.flatMap (flds c)).flatMap encF).length≤l.length*(2*m)
 | []=>by simp
 | j::l=>by
  rw [List.flatMap_cons,List.flatMap_append,List.length_append,List.length_cons,Nat.succ_mul]
  have h1:=flat_len hf l
  have h2:((flds c j).flatMap encF).length≤2*m:=by
   have h3:=flds_len hf j
   have:∀ fs:List Fld,(fs.flatMap encF).length=2*fs.length:=by
    intro fs
    induction fs with
    | nil=>rfl
    | cons f fs ih=>rw [List.flatMap_cons,List.length_append,ih,List.length_cons,encF_len]; omega
   rw [this]; omega
  omega
theorem ints_get {l:List Nat} {k j:Nat} (h:l[k]?=some j):(ints l)[k]?=some (.int .i64 (j:Int)):=by
 unfold ints
 rw [List.getElem?_map,h]; rfl
def FieldsPost (c:List Shp) (i:Nat) (W:CW):Ending→CW→Prop:=fun e W'=>Kp W W'∧Top W'∧∃ vo,e=.returned vo∧Own W' 72 2 vo ((fieldsP c i).flatMap encF)∧Newer W.sz vo
theorem fields_ok {v:Value} {c:List Shp} {i0:Nat} {W:CW} (ht:Top W) (hc:IsSl 5 (RShp W) v c) (hlen:c.length<200) (hf:∀ x,x ∈ c→x.fields.length≤100) (hi0:i0<c.length):WCall prog pkL 98 [v,.int .i64 i0] W (FieldsPost c i0 W):=by
 refine f98_w ?_
 rw [f98_c]
 refine (line_ok ht hc (by omega) hi0).mono fun en W0 ⟨k0,t0,hpost⟩=>?_
 obtain ⟨l,v13,ok,rfl,hown,hl,hmem,hfp⟩:∃ (l:List Nat) (v13:Value) (ok:Bool),en=.returned (.tuple #[v13,.bool ok])∧Own W0 3 1 v13 (ints l)∧l.length≤c.length+1∧(∀ j,j ∈ l→j<c.length)∧fieldsP c i0=l.reverse.flatMap (flds c):=by
  cases hl:lineP c c.length i0 with
  | none =>
   rw [hl] at hpost
   exact ⟨[],_,_,hpost,Own.nil,by simp,by simp,by unfold fieldsP; rw [hl]; rfl⟩
  | some l =>
   rw [hl] at hpost
   obtain ⟨vo,h1,h2,_⟩:=hpost
   obtain ⟨h3,h4⟩:=lineP_length c _ _ _ hl
   exact ⟨l,vo,true,h1,h2,h3,h4,by unfold fieldsP; rw [hl]⟩
 have hc0:IsSl 5 (RShp W0) v c:=hc.imp fun _ _ _ hr=>hr.kp ht k0
 have e0:ext (.tuple #[v13,.bool ok]) 0=some v13:=rfl
 have e1:ext (.tuple #[v13,.bool ok]) 1=some (.bool ok):=rfl
 simp only [onEnd,e0,e1,wV_some]
 rw [own_clen u40 hown]
 simp only [wV_some,cbin_sub]
 have hll:(ints l).length=l.length:=by simp [ints]
 rw [hll,wrap64 (by omega) (by omega)]
 refine w_loop (fun k e ds W'=>ds=[]∧∃ vo:Value,e 0=v∧e 5=v13∧e 7=vo∧e 8=.int .i64 ((k:Int)-1)∧k≤l.length∧Kp W0 W'∧Top W'∧Newer W0.sz vo∧Own W' 72 2 vo (((l.drop k).reverse.flatMap (flds c)).flatMap encF)) l.length ⟨rfl,.slice none 0 0,rfl,rfl,rfl,rfl,Nat.le_refl _,.refl _,t0,Newer.nil _ _ _,by rw [List.drop_length]; exact Own.nil⟩ ?_
 rintro k e ds W' ⟨rfl,vo,h0,h5,h7,h8,hk,hkp,ht',hnw,hown'⟩
 rw [f98_l0,h0,h5,h7,h8]
 simp only [cbin_geq,wV_some]
 refine wI_bool (fun h=>?_) (fun h=>?_)
 ·have h:(k:Int)-1≥0:=of_decide_eq_true h
  obtain ⟨k,rfl⟩:∃ k',k=k'+1:=⟨k-1,by omega⟩
  have hkk:((k+1:Nat):Int)-1=(k:Int):=by omega
  rw [hkk]
  have hlk:l[k]?=some l[k]:=List.getElem?_eq_getElem _
  have hj:l[k]<c.length:=hmem _ (List.getElem_mem _)
  have hownW:=hown.kp t0 hkp
  have hcW:IsSl 5 (RShp W') v c:=hc0.imp fun _ _ _ hr=>hr.kp t0 hkp
  obtain ⟨a,cap,rfl,hcell⟩:=hcW
  have hxj:=List.getElem?_eq_getElem hj
  obtain ⟨p,rfl,hp⟩:=hcell _ _ hxj
  generalize hints:ints l=il at hownW
  cases hownW with
  | nil=>rw [hints] at hll; simp at hll; omega
  | @some b len _ hB hbl =>
   have hlenl:len=l.length:=by rw [←hints,hll] at hbl; omega
   rw [iad_sl u40 s3 (by omega:k<len)]
   have hcl:W'.cell b (0+k*1)=some (.int .i64 (l[k]:Int)):=by
    rw [Nat.zero_add,Nat.mul_one]
    exact hB.cell (by rw [←hints]; exact ints_get hlk)
   simp only [wV_some,ld_word a3 (a:=⟨b,0+k*1,none⟩) hcl]
   rw [iad_sl u22 s48 hj]
   obtain ⟨vf,hvf,a2,cap2,rfl,hfl⟩:=hp.fields
   simp only [wV_some,fad48_2,ld_word a45 (a:=⟨p.block,p.off+l[k]*5+2,none⟩) hvf]
   have hfj:flds c l[k]=c[l[k]].fields:=by unfold flds; rw [hxj]
   have htot:=flat_len hf (l.drop (k+1)).reverse
   have hdl:(l.drop (k+1)).reverse.length≤201:=by simp; omega
   have hfl1:c[l[k]].fields.length≤100:=hf _ (List.getElem_mem _)
   refine w_apps (news:=c[l[k]].fields.flatMap encF) u45 noInt45 s72 z72 rfl (by omega) by72 (by omega) ht' hown' (fun hm=>?_) ?_ ?_ ?_ fun v1 W1 hpu t1 o1 n1=>?_
   ·obtain ⟨q,rfl,_⟩:=hfl 0 _ (List.getElem?_eq_getElem hm)
    exact ⟨q,rfl,cells_flat encF_len _ _ fun i x hx=>by
     obtain ⟨q',hq',hr⟩:=hfl i x hx
     cases hq'
     exact hr.cells⟩
   ·rw [List.all_eq_true]
    intro x hx
    obtain ⟨f,_,hx⟩:=List.mem_flatMap.1 hx
    simp only [encF,List.mem_cons,List.not_mem_nil,or_false] at hx
    rcases hx with rfl | rfl <;> rfl
   ·generalize c[l[k]].fields=fs
    induction fs with
    | nil=>rfl
    | cons f fs ih=>rw [List.flatMap_cons,List.length_append,ih,List.length_cons,encF_len]; omega
   ·have:(l.drop (k+1)).reverse.length*(2*100)≤201*200:=Nat.mul_le_mul hdl (by omega)
    omega
   ·simp only [f98_k3,qKn,eKc,eKn,Nat.reduceEqDiff,↓reduceIte,h8,cbin_sub,wV_some,tKn]
    refine ⟨k,by omega,trivial,v1,h0,h5,rfl,?_,by omega,hpu.kp hkp hnw,t1,n1 _ hkp.sz hnw,?_⟩
    ·rw [hkk,wrap64 (by omega) (by omega)]
    ·have:(l.drop k).reverse=(l.drop (k+1)).reverse++[l[k]]:=by
      rw [List.drop_eq_getElem_cons (by omega),List.reverse_cons]
     rw [this,List.flatMap_append,List.flatMap_append]
     simp only [List.flatMap_cons,List.flatMap_nil,List.append_nil,hfj]
     exact o1
 ·have h:¬(k:Int)-1≥0:=of_decide_eq_false h
  have hk0:k=0:=by omega
  subst hk0
  simp only [tKx,bKx,if_true,f98_k2,qKn,f98_leave,eKc,eKn,Nat.reduceEqDiff,↓reduceIte,h7]
  refine ⟨k0.trans hkp,ht',vo,rfl,?_,fun b l c hh=>Nat.le_trans k0.sz (hnw b l c hh)⟩
  rw [hfp]
  exact hown'
end Go.Ce
namespace Go.Ce
open Go Go.Proofs Go.Proofs.Tryz
def rowP (c:List Shp) (i:Nat):List Int:=(fieldsP c i).map (·.kind)
def kinds8 (l:List Int):List Value:=l.map fun k=>Value.int .u8 k
theorem z5:zer prog 5=some (.int .u8 0):=by kernel_rfl
theorem by5:(prog.info? 5).map (·.bytes)=some 1:=by kernel_rfl
theorem bsl29 (n:Int) (W:CW):bsl prog 29 1 [(0,.int .u8 n)] W=some (.slice (some ⟨W.sz,0,none⟩) 1 1,W.new (.cells (Tr.nil.putFrom 0 [.int .u8 n]) [Value.int .u8 n].length #[] 5)):=by kernel_rfl
theorem encF_flat_len (fs:List Fld):(fs.flatMap encF).length=2*fs.length:=by
 induction fs with
 | nil=>rfl
 | cons f fs ih=>rw [List.flatMap_cons,List.length_append,ih,List.length_cons,encF_len]; omega
theorem fieldsP_len {c:List Shp} (hlen:c.length<200) (hf:∀ x,x ∈ c→x.fields.length≤100) (i:Nat):(fieldsP c i).length≤20100:=by
 unfold fieldsP
 cases hl:lineP c c.length i with
 | none=>simp
 | some l =>
  have h1:=(lineP_length c _ _ _ hl).1
  have h2:=flat_len hf l.reverse
  rw [encF_flat_len] at h2
  have:l.reverse.length*(2*100)≤200*200:=Nat.mul_le_mul (by simp; omega) (by omega)
  show (l.reverse.flatMap (flds c)).length≤20100
  omega
def RowPost (c:List Shp) (i:Nat) (W:CW):Ending→CW→Prop:=fun e W'=>Kp W W'∧Top W'∧∃ vo,e=.returned vo∧Own W' 5 1 vo (kinds8 (rowP c i))∧Newer W.sz vo
theorem row_ok {v:Value} {c:List Shp} {i0:Nat} {W:CW} (ht:Top W) (hc:IsSl 5 (RShp W) v c) (hlen:c.length<200) (hf:∀ x,x ∈ c→x.fields.length≤100) (hi0:i0<c.length):WCall prog pkL 88 [v,.int .i64 i0] W (RowPost c i0 W):=by
 refine f88_w ?_
 rw [f88_c]
 refine (fields_ok ht hc hlen hf hi0).mono fun en W0 ⟨k0,t0,v10,he,hown,hn10⟩=>?_
 subst he
 have hfl:=fieldsP_len hlen hf i0
 unfold RowPost rowP
 generalize fieldsP c i0=fs at hown hfl ⊢
 refine w_loop (fun k e ds W'=>ds=[]∧∃ (i:Nat) (vo:Value),e 5=v10∧e 6=vo∧e 7=.int .i64 i∧i≤fs.length∧k=fs.length-i∧Kp W0 W'∧Top W'∧Newer W0.sz vo∧Own W' 5 1 vo (kinds8 ((fs.take i).map (·.kind)))) fs.length ⟨rfl,0,.slice none 0 0,rfl,rfl,rfl,Nat.zero_le _,rfl,.refl _,t0,Newer.nil _ _ _,Own.nil⟩ ?_
 rintro k e ds W' ⟨rfl,i,vo,h5,h6,h7,hi,rfl,hkp,ht',hnw,ho⟩
 have hownW:=hown.kp t0 hkp
 obtain ⟨a,cap,ha,hv10⟩:∃ a cap,v10=.slice a fs.length cap∧∀ j f,fs[j]?=some f→∃ b,a=some ⟨b,0,none⟩∧W'.cell b (j*2+1)=some (.int .u8 f.kind):=by
  generalize hcs:fs.flatMap encF=cs at hownW
  have hcl:=encF_flat_len fs
  cases hownW with
  | nil =>
   rw [hcs] at hcl
   have:fs.length=0:=by simp at hcl; omega
   exact ⟨none,0,by rw [this],fun j f hj=>by have:=(List.getElem?_eq_some_iff.1 hj).1; omega⟩
  | @some b len _ hB hbl =>
   have:len=fs.length:=by rw [←hcs] at hbl; omega
   refine ⟨_,len,by rw [this],fun j f hj=>⟨b,rfl,?_⟩⟩
   have h1:=hB.cells
   rw [←hcs] at h1
   have:=flat_cells encF_len fs 0 h1 j f hj 1 (.int .u8 f.kind) rfl
   rwa [Nat.zero_add] at this
 subst ha
 rw [f88_l0,h5,h6,h7,clen_sl u45]
 simp only [wV_some,cbin_lss]
 refine wI_bool (fun h=>?_) (fun h=>?_)
 ·have hlt:i<fs.length:=by simpa using h
  have hx:=List.getElem?_eq_getElem hlt
  obtain ⟨b,rfl,hcell⟩:=hv10 i _ hx
  rw [iad_sl u45 s72 hlt]
  simp only [wV_some,fad72_1]
  rw [ld_word a5 (a:=⟨b,0+i*2+1,none⟩) (by rw [Nat.zero_add]; exact hcell)]
  simp only [wV_some]
  refine w_push u29 s5 z5 rfl (by omega) by5 (by omega) (bsl29 _) rfl rfl ht' ho (by simp [kinds8]; omega) fun u v1 W1 hpu t1 o1 n1=>?_
  simp only [f88_k3,qKn,eKc,eKn,Nat.reduceEqDiff,↓reduceIte,h7,cbin_add,wV_some,tKn]
  refine ⟨fs.length-(i+1),by omega,trivial,i+1,v1,h5,rfl,?_,hlt,rfl,hpu.kp hkp hnw,t1,n1 _ hkp.sz,?_⟩
  ·rw [wrap64 (by omega) (by omega)]; rfl
  ·have:kinds8 ((fs.take (i+1)).map (·.kind))=kinds8 ((fs.take i).map (·.kind))++[.int .u8 fs[i].kind]:=by
    rw [List.take_add_one,hx]
    simp only [kinds8,Option.toList_some,List.map_append,List.map_cons,List.map_nil]
   rw [this]; exact o1
 ·have hge:i=fs.length:=by have:¬i<fs.length:=(by simpa using h); omega
  subst hge
  simp only [tKx,bKx,if_true,f88_k2,qKn,f88_leave,eKc,eKn,Nat.reduceEqDiff,↓reduceIte,h6]
  refine ⟨k0.trans hkp,ht',vo,rfl,?_,fun b l c hh=>Nat.le_trans k0.sz (hnw b l c hh)⟩
  rw [List.take_length] at ho
  exact ho
end Go.Ce
namespace Go.Ce
open Go Go.Proofs Go.Proofs.Tryz
theorem word_ok {n:Int} (h1:-4000000000000≤n) (h2:n≤4000000000000) (W:CW):WCall prog pkL 71 [.int .i64 n] W (Gives (.int .i64 (if n<0 then -2*n-1 else 2*n)) W):=by
 refine f71_w ?_
 rw [f71_c]
 simp only [cbin_lss,cbin_mul,cbin_sub,wV_some]
 refine wI_bool (fun h=>?_) (fun h=>?_)
 ·have h:n<0:=of_decide_eq_true h
  simp only [f71_leave,eKc,↓reduceIte]
  rw [wrap64 (x:=-2*n) (by omega) (by omega),wrap64 (x:=-2*n-1) (by omega) (by omega),if_pos h]
  exact ⟨rfl,rfl⟩
 ·have h:¬n<0:=of_decide_eq_false h
  simp only [f71_leave,eKc,↓reduceIte]
  rw [wrap64 (by omega) (by omega),if_neg h]
  exact ⟨rfl,rfl⟩
def kindP (c:List Shp) (i k:Nat):Int:=match c[i]? with
 | some x=>if x.elem≠0 then x.elem else ((rowP c i)[k]?).getD 0
 | none=>0
theorem kind_ok {v:Value} {c:List Shp} {i k:Nat} {W:CW} (ht:Top W) (hc:IsSl 5 (RShp W) v c) (hlen:c.length<200) (hf:∀ x,x ∈ c→x.fields.length≤100) (hi:i<c.length) (hk:c[i].elem=0→k<(rowP c i).length):WCall prog pkL 70 [v,.int .i64 i,.int .i64 k] W (Ret (.int .u8 (kindP c i k)) W):=by
 refine f70_w ?_
 rw [f70_c]
 have hc2:=hc
 obtain ⟨a,cap,rfl,hcell⟩:=hc2
 have hx:=List.getElem?_eq_getElem hi
 obtain ⟨p,rfl,hp⟩:=hcell i _ hx
 rw [iad_sl u22 s48 hi]
 simp only [wV_some,fad48_3,ld_word a5 (a:=⟨p.block,p.off+i*5+3,none⟩) hp.elem,cbin_neq]
 refine wI_bool (fun h=>?_) (fun h=>?_)
 ·have h:c[i].elem≠0:=by simpa using h
  simp only [f70_leave,eKc,↓reduceIte]
  refine ⟨?_,.refl _,ht⟩
  unfold kindP; rw [hx]; simp only [if_pos h]
 ·have h:c[i].elem=0:=by simpa using h
  refine (row_ok ht hc hlen hf hi).mono fun en W0 ⟨k0,t0,vo,he,ho,hn⟩=>?_
  subst he
  have hk:=hk h
  have hrk:=List.getElem?_eq_getElem hk
  simp only [onEnd]
  generalize hl:kinds8 (rowP c i)=l at ho
  have hll:l.length=(rowP c i).length:=by rw [←hl]; simp [kinds8]
  cases ho with
  | nil=>simp at hll; omega
  | @some b len _ hB hbl =>
   rw [iad_sl u29 s5 (by omega:k<len)]
   have:W0.cell b (0+k*1)=some (.int .u8 ((rowP c i)[k])):=by
    rw [Nat.zero_add,Nat.mul_one]
    exact hB.cell (by rw [←hl]; unfold kinds8; rw [List.getElem?_map,hrk]; rfl)
   simp only [wV_some,ld_word a5 (a:=⟨b,0+k*1,none⟩) this,f70_leave,eKc,↓reduceIte]
   refine ⟨?_,k0,t0⟩
   unfold kindP; rw [hx]; simp only [h,ne_eq,not_true_eq_false,if_false,hrk,Option.getD_some]
def RStr (W:CW) (b o:Nat) (x:ByteArray):Prop:=W.cell b o=some (.string x)
theorem index_ok {v:Value} {l:List ByteArray} {s:ByteArray} {W:CW} (hc:IsSl 1 (RStr W) v l) (hlen:l.length<1000000):WCall prog pkL 66 [v,.string s] W (Gives (.int .i64 (idxI l fun x=>decide (x=s))) W):=by
 refine f66_w ?_
 rw [f66_c]
 refine w_loop (fun k e ds W'=>W'=W∧ds=[]∧∃ i:Nat,e 0=v∧e 1=.string s∧e 5=.int .i64 i∧i≤l.length∧k=l.length-i∧∀ j x,j<i→l[j]?=some x→decide (x=s)=false) l.length ⟨rfl,rfl,0,rfl,rfl,rfl,by omega,by omega,by omega⟩ ?_
 rintro k e ds W' ⟨rfl,rfl,i,h0,h1,h5,hi,rfl,hpre⟩
 obtain ⟨a,cap,rfl,hcell⟩:=hc
 rw [f66_l0,h0,h1,h5,clen_sl u51]
 simp only [wV_some,cbin_lss]
 refine wI_bool (fun h=>?_) (fun h=>?_)
 ·have hlt:i<l.length:=by simpa using h
  have hx:=List.getElem?_eq_getElem hlt
  obtain ⟨p,rfl,hp⟩:=hcell i _ hx
  rw [iad_sl u51 s9 hlt]
  simp only [wV_some,ld_word a9 (a:=⟨p.block,p.off+i*1,none⟩) hp,cbin_seql,bEq_dec]
  refine wI_bool (fun hq=>?_) (fun hq=>?_)
  ·simp only [f66_k1,qKr,tKr,bKr,f66_k0,f66_leave,eKc,↓reduceIte]
   refine ⟨?_,rfl⟩
   rw [idxI_some hlt hq hpre]
  ·simp only [f66_k1,qKn,eKc,eKn,Nat.reduceEqDiff,↓reduceIte,h0,h1,h5,cbin_add,wV_some,tKn]
   refine ⟨l.length-(i+1),by omega,trivial,trivial,i+1,trivial,trivial,?_,hlt,rfl,fun j x hj hx'=>?_⟩
   ·rw [wrap64 (by omega) (by omega)]
    rfl
   ·rcases Nat.lt_succ_iff_lt_or_eq.1 hj with h2 | rfl
    ·exact hpre j x h2 hx'
    ·rw [hx] at hx'; cases hx'; exact hq
 ·have hge:i=l.length:=by have:¬i<l.length:=(by simpa using h); omega
  simp only [tKx,bKx,if_true,f66_k0,qKn,f66_leave,eKc,↓reduceIte]
  refine ⟨?_,rfl⟩
  rw [idxI_none fun j x hj hx=>hpre j x (by omega) hx]
end Go.Ce
namespace Go.Ce
open Go Go.Proofs Go.Proofs.Tryz
def numP (n:Nat):List Int:=if n<128 then [(n:Int)] else ((n % 128+128:Nat):Int)::numP (n / 128)
termination_by n
decreasing_by omega
theorem numP_len (n:Nat):(numP n).length≤n+1∧0<(numP n).length:=by
 induction n using Nat.strongRecOn with
 | ind n ih =>
  unfold numP
  split
  ·exact ⟨by simp,by simp⟩
  ·have:=ih (n / 128) (by omega)
   simp only [List.length_cons]
   omega
theorem noInt29:noInt prog 29=true:=by kernel_rfl
theorem cvw35 (n:Int):cvw prog 3 5 (.int .i64 n)=some (.int .u8 (IntKind.u8.wrap n)):=by kernel_rfl
theorem wrap8 {x:Int} (h1:0≤x) (h2:x<256):IntKind.u8.wrap x=x:=by
 unfold IntKind.wrap
 simp [IntKind.bits,IntKind.signed]
 omega
def NumPost (l:List Int) (W:CW):Ending→CW→Prop:=fun e W'=>Kp W W'∧Top W'∧∃ vo,e=.returned vo∧Own W' 5 1 vo (kinds8 l)∧Newer W.sz vo
theorem number_ok:∀ (n:Nat),n<100000000000000→∀ {W:CW},Top W→WCall prog pkL 67 [.int .i64 n] W (NumPost (numP n) W):=by
 intro n
 induction n using Nat.strongRecOn with
 | ind n ih =>
  intro hn W ht
  refine f67_w ?_
  rw [f67_c]
  simp only [cbin_lss,wV_some]
  refine wI_bool (fun h=>?_) (fun h=>?_)
  ·have h:n<128:=by have:(n:Int)<128:=of_decide_eq_true h; omega
   rw [cvw35,wrap8 (by omega) (by omega)]
   simp only [wV_some]
   refine wVW_of (bsl29 _ W) ?_
   simp only [f67_leave,eKc,↓reduceIte]
   refine ⟨.new _,ht.new _,_,rfl,?_,newer_own (Nat.le_refl _)⟩
   have:numP n=[(n:Int)]:=by unfold numP; rw [if_pos h]
   rw [this]
   exact own_one _ _ _
  ·have h:¬n<128:=by have:¬(n:Int)<128:=of_decide_eq_false h; omega
   rw [cbin_rem _ _ _ (by omega),cbin_quo _ _ _ (by omega)]
   have e1:(n:Int).tmod 128=((n % 128:Nat):Int):=by rw [Int.tmod_eq_emod_of_nonneg (by omega)]; omega
   have e2:(n:Int).tdiv 128=((n / 128:Nat):Int):=by rw [Int.tdiv_eq_ediv_of_nonneg (by omega)]; omega
   rw [e1,e2,wrap64 (x:=((n / 128:Nat):Int)) (by omega) (by omega)]
   simp only [wV_some,cbin_add]
   rw [wrap64 (by omega) (by omega),cvw35,wrap8 (by omega) (by omega)]
   simp only [wV_some]
   refine wVW_of (bsl29 _ W) ?_
   have hk1:Kp W (W.new (.cells (Tr.nil.putFrom 0 [.int .u8 (((n % 128:Nat):Int)+128)]) [Value.int .u8 (((n % 128:Nat):Int)+128)].length #[] 5)):=.new _
   have ht1:=ht.new (.cells (Tr.nil.putFrom 0 [.int .u8 (((n % 128:Nat):Int)+128)]) [Value.int .u8 (((n % 128:Nat):Int)+128)].length #[] 5)
   have ho1:=own_one W 5 (.int .u8 (((n % 128:Nat):Int)+128))
   generalize W.new (.cells (Tr.nil.putFrom 0 [.int .u8 (((n % 128:Nat):Int)+128)]) [Value.int .u8 (((n % 128:Nat):Int)+128)].length #[] 5)=W1 at hk1 ht1 ho1
   refine (ih (n / 128) (by omega) (by omega) ht1).mono fun en W2 ⟨k2,t2,vo,he,ho2,hn2⟩=>?_
   subst he
   simp only [onEnd]
   have ho1':=ho1.kp ht1 k2
   have hlen:=numP_len (n / 128)
   have hkl:(kinds8 (numP (n / 128))).length=(numP (n / 128)).length:=by simp [kinds8]
   have hsmall:(numP (n / 128)).length≤900000:=by
    have:∀ (f m:Nat),m<128 ^ f→(numP m).length≤f+1:=by
     intro f
     induction f with
     | zero=>intro m hm; unfold numP; rw [if_pos (by simp at hm; omega)]; simp
     | succ f ihf =>
      intro m hm
      unfold numP
      split
      ·simp
      ·have:=ihf (m / 128) (by rw [Nat.pow_succ] at hm; exact Nat.div_lt_of_lt_mul (by rw [Nat.mul_comm]; exact hm))
       simp only [List.length_cons]; omega
    have:=this 8 (n / 128) (by omega)
    omega
   generalize hl:kinds8 (numP (n / 128))=l at ho2 hkl
   cases ho2 with
   | nil=>simp at hkl; omega
   | @some b len _ hB hbl =>
    refine w_apps (news:=l) u29 noInt29 s5 z5 rfl (by omega) by5 (by omega) t2 ho1' (fun _=>⟨_,rfl,hB.cells⟩) ?_ (by omega) (by simp; omega) fun v1 W3 hpu t3 o3 n3=>?_
    ·rw [←hl,List.all_eq_true]
     intro x hx
     obtain ⟨y,_,rfl⟩:=List.mem_map.1 hx
     rfl
    ·simp only [f67_leave,eKc,↓reduceIte]
     have hk2:=hk1.trans k2
     refine ⟨hpu.kp hk2 (newer_own (Nat.le_refl _)),t3,v1,rfl,?_,n3 _ hk2.sz (newer_own (Nat.le_refl _))⟩
     have:numP n=((n % 128+128:Nat):Int)::numP (n / 128):=by rw [numP,if_neg h]
     rw [this]
     show Own W3 5 1 v1 (Value.int .u8 ((n % 128+128:Nat):Int)::kinds8 (numP (n / 128)))
     rw [hl,Int.natCast_add]
     exact o3
end Go.Ce
namespace Go.Ce
open Go Go.Proofs Go.Proofs.Tryz
def bytesI (s:ByteArray):List Int:=(sb s).map fun b=>(b.toNat:Int)
def textP (s:ByteArray):List Int:=numP s.size++bytesI s
theorem text_ok {s:ByteArray} {W:CW} (ht:Top W) (hlen:s.size<1000):WCall prog pkL 68 [.string s] W (NumPost (textP s) W):=by
 refine f68_w ?_
 rw [f68_c,clen_str u9]
 simp only [wV_some]
 refine (number_ok s.size (by omega) ht).mono fun en W1 ⟨k1,t1,vo,he,ho,hn⟩=>?_
 subst he
 simp only [onEnd]
 refine w_cvs t1 fun v7 W2 k2 t2 hv=>?_
 obtain ⟨a,cap,rfl,hcell⟩:=hv
 have hsl:=sb_length s
 have hnl:=(numP_len s.size).1
 have hkl:(kinds8 (numP s.size)).length=(numP s.size).length:=by simp [kinds8]
 refine w_apps (news:=kinds8 (bytesI s)) u29 noInt29 s5 z5 rfl (by omega) by5 (by omega) t2 (ho.kp t1 k2) (fun hm=>?_) ?_ (by simp [kinds8,bytesI]) (by omega) fun v1 W3 hpu t3 o3 n3=>?_
 ·obtain ⟨p,rfl,_⟩:=hcell 0 _ (List.getElem?_eq_getElem hm)
  refine ⟨p,rfl,fun j v hj=>?_⟩
  unfold kinds8 bytesI at hj
  rw [List.map_map,List.getElem?_map] at hj
  cases hx:(sb s)[j]? with
  | none=>rw [hx] at hj; cases hj
  | some x =>
   rw [hx] at hj
   cases hj
   obtain ⟨q,hq,hr⟩:=hcell j x hx
   cases hq
   unfold RByte at hr
   rw [Nat.mul_one] at hr
   exact hr
 ·rw [List.all_eq_true]
  intro x hx
  obtain ⟨y,_,rfl⟩:=List.mem_map.1 hx
  rfl
 ·simp only [f68_leave,eKc,↓reduceIte]
  have k12:=k1.trans k2
  have hn':Newer W.sz vo:=hn
  refine ⟨hpu.kp k12 hn',t3,v1,rfl,?_,n3 _ k12.sz hn'⟩
  have:kinds8 (textP s)=kinds8 (numP s.size)++kinds8 (bytesI s):=by simp [textP,kinds8]
  rw [this]
  exact o3
end Go.Ce
namespace Go.Ce
open Go Go.Proofs Go.Proofs.Tryz
def f41_k0 (ro:Option Nat) (K:Kont):Kont:=seqK (fun e ds W=>K .ret (Env.of e [(2,(.int .i64 0))]) ds W) K
def f41_k1 (ro:Option Nat) (K:Kont):Kont:=seqK (fun e ds W=>WEnv prog pkL ro 41 129 (.loop (loopAt prog 41 1)) (Env.of e [(5,(.int .i64 0))]) ds W (blkK 2 (f41_k0 ro K))) K
theorem f41_c (v0:Value) (K:Kont) (W:CW):wCode prog pkL none 41 129 (bodyOf prog 41) (Env.args [v0]) [] W K=(wV (clen prog 22 v0 W) fun v12=>wV (cbin prog .gtr 3 true v12 (.int .i64 100)) fun v13=>wI v13 (K .ret (Env.of (Env.args [v0]) [(2,(.int .i64 210)),(13,v13),(12,v12),(11,v0),(2,(.int .i64 0))]) [] W) (WEnv prog pkL none 41 129 (.loop (loopAt prog 41 0)) (Env.of (Env.args [v0]) [(3,(.int .i64 0)),(13,v13),(12,v12),(11,v0),(2,(.int .i64 0))]) [] W (blkK 0 (f41_k1 none K)))):=by kernel_rfl
def f41_k2 (ro:Option Nat) (K:Kont):Kont:=seqK (fun e ds W=>wV (cbin prog .add 3 true (e 3) (.int .i64 1)) fun v19=>K .normal (Env.of e [(3,v19),(19,v19),(18,(e 3))]) ds W) K
def f41_k5 (ro:Option Nat) (K:Kont):Kont:=seqK (fun e ds W=>wI (e 70) ((f41_k2 ro K) .ret (Env.of e [(2,(.int .i64 210))]) ds W) ((f41_k2 ro K) .normal e ds W)) (blkK 1 (f41_k2 ro K))
theorem f41_l0 (ro:Option Nat) (e:Env) (ds:List Deferred) (K:Kont) (W:CW):wCode prog pkL ro 41 129 (loopAt prog 41 0) e ds W K=(wV (clen prog 22 (e 0) W) fun v16=>wV (cbin prog .lss 3 false (e 3) v16) fun v17=>wI v17 (wV (iad prog 22 (e 0) (e 3)) fun v22=>wV (ld prog 48 v22 W) fun v23=>wVW (alc prog 48 W) fun v4 W3=>wV (sto prog 48 v4 v23 W3) fun W4=>wV (fad prog 48 v4 0) fun v24=>wV (ld prog 9 v24 W4) fun v25=>WCall prog pkL 95 [v25] W4 (onEnd (fun v26 W6=>wV (ngt v26) fun v27=>wI v27 ((((True)∧ld prog 9 v24 W4=some v25)∧True)∧True∧(f41_k5 ro K) .normal (Env.of e [(70,(.bool true)),(69,undef),(65,(.bool true)),(68,undef),(65,(.bool true)),(67,undef),(65,(.bool true)),(66,undef),(65,(.bool true)),(65,(.bool true)),(64,(.bool true)),(63,undef),(43,(.bool true)),(62,undef),(61,undef),(60,undef),(59,undef),(58,undef),(57,undef),(56,undef),(55,undef),(54,undef),(53,undef),(52,undef),(51,undef),(50,undef),(49,undef),(48,undef),(47,undef),(43,(.bool true)),(46,undef),(43,(.bool true)),(45,undef),(43,(.bool true)),(44,undef),(43,(.bool true)),(43,(.bool true)),(42,(.bool true)),(41,undef),(28,(.bool true)),(40,undef),(39,undef),(38,undef),(37,undef),(36,undef),(35,undef),(34,undef),(33,undef),(32,undef),(31,undef),(28,(.bool true)),(30,undef),(28,(.bool true)),(29,undef),(28,(.bool true)),(28,v27),(27,v27),(26,v26),(25,v25),(24,v24),(4,v4),(23,v23),(22,v22),(21,(e 3)),(20,(e 0)),(17,v17),(16,v16),(15,(e 0)),(14,(e 3))]) ds W6) (wV (cbin prog .gtr 3 true (e 3) (.int .i64 0)) fun v30=>wI v30 (wV (cbin prog .sub 3 true (e 3) (.int .i64 1)) fun v34=>wV (iad prog 22 (e 0) v34) fun v35=>wV (fad prog 48 v35 0) fun v36=>wV (ld prog 9 v36 W6) fun v37=>wV (fad prog 48 v4 0) fun v38=>wV (ld prog 9 v38 W6) fun v39=>wV (cbin prog .geq 9 false v37 v39) fun v40=>wI v40 ((((ld prog 9 v38 W6=some v39)∧True)∧(((ld prog 9 v36 W6=some v37)∧True)∧(((True)∧ld prog 9 v24 W4=some v25)∧True)))∧True∧(f41_k5 ro K) .normal (Env.of e [(70,(.bool true)),(69,undef),(65,(.bool true)),(68,undef),(65,(.bool true)),(67,undef),(65,(.bool true)),(66,undef),(65,(.bool true)),(65,(.bool true)),(64,(.bool true)),(63,undef),(43,(.bool true)),(62,undef),(61,undef),(60,undef),(59,undef),(58,undef),(57,undef),(56,undef),(55,undef),(54,undef),(53,undef),(52,undef),(51,undef),(50,undef),(49,undef),(48,undef),(47,undef),(43,(.bool true)),(46,undef),(43,(.bool true)),(45,undef),(43,(.bool true)),(44,undef),(43,(.bool true)),(43,v40),(42,v40),(41,v40),(28,(.bool false)),(40,v40),(31,(.bool true)),(39,v39),(31,(.bool true)),(38,v38),(31,(.bool true)),(37,v37),(31,(.bool true)),(36,v36),(31,(.bool true)),(35,v35),(31,(.bool true)),(34,v34),(31,(.bool true)),(33,(e 3)),(31,(.bool true)),(32,(e 0)),(31,(.bool true)),(31,v30),(28,(.bool false)),(30,v30),(28,(.bool false)),(29,(e 3)),(28,(.bool false)),(28,v27),(27,v27),(26,v26),(25,v25),(24,v24),(4,v4),(23,v23),(22,v22),(21,(e 3)),(20,(e 0)),(17,v17),(16,v16),(15,(e 0)),(14,(e 3))]) ds W6) (wV (fad prog 48 v4 3) fun v44=>wV (ld prog 5 v44 W6) fun v45=>wV (cbin prog .neq 5 true v45 (.int .u8 0)) fun v46=>wI v46 (wV (fad prog 48 v4 3) fun v48=>wV (ld prog 5 v48 W6) fun v49=>WCall prog pkL 96 [v49] W6 (onEnd (fun v50 W8=>wV (ngt v50) fun v51=>wI v51 ((((True)∧((ld prog 5 v48 W6=some v49)∧True))∧(((True)∧((ld prog 5 v44 W6=some v45)∧True))∧(((True)∧((ld prog 9 v38 W6=some v39)∧True))∧(((True)∧((ld prog 9 v36 W6=some v37)∧True))∧(((True)∧((True)∧ld prog 9 v24 W4=some v25))∧True)))))∧True∧(f41_k5 ro K) .normal (Env.of e [(70,(.bool true)),(69,undef),(65,(.bool true)),(68,undef),(65,(.bool true)),(67,undef),(65,(.bool true)),(66,undef),(65,(.bool true)),(65,(.bool true)),(64,(.bool true)),(63,(.bool true)),(43,(.bool false)),(62,(.bool true)),(47,(.bool true)),(61,undef),(57,(.bool true)),(60,undef),(57,(.bool true)),(59,undef),(57,(.bool true)),(58,undef),(57,(.bool true)),(57,(.bool true)),(47,(.bool true)),(56,(.bool true)),(47,(.bool true)),(55,undef),(52,(.bool true)),(54,undef),(52,(.bool true)),(53,undef),(52,(.bool true)),(52,v51),(47,(.bool true)),(51,v51),(47,(.bool true)),(50,v50),(47,(.bool true)),(49,v49),(47,(.bool true)),(48,v48),(47,(.bool true)),(47,v46),(43,(.bool false)),(46,v46),(43,(.bool false)),(45,v45),(43,(.bool false)),(44,v44),(43,(.bool false)),(43,v40),(42,v40),(41,v40),(28,(.bool false)),(40,v40),(31,(.bool true)),(39,v39),(31,(.bool true)),(38,v38),(31,(.bool true)),(37,v37),(31,(.bool true)),(36,v36),(31,(.bool true)),(35,v35),(31,(.bool true)),(34,v34),(31,(.bool true)),(33,(e 3)),(31,(.bool true)),(32,(e 0)),(31,(.bool true)),(31,v30),(28,(.bool false)),(30,v30),(28,(.bool false)),(29,(e 3)),(28,(.bool false)),(28,v27),(27,v27),(26,v26),(25,v25),(24,v24),(4,v4),(23,v23),(22,v22),(21,(e 3)),(20,(e 0)),(17,v17),(16,v16),(15,(e 0)),(14,(e 3))]) ds W8) (wV (fad prog 48 v4 1) fun v53=>wV (ld prog 9 v53 W8) fun v54=>wV (cbin prog .neq 9 true v54 (.string ⟨#[]⟩)) fun v55=>wI v55 ((((ld prog 9 v53 W8=some v54)∧True)∧(((True)∧((ld prog 5 v48 W6=some v49)∧True))∧(((True)∧((ld prog 5 v44 W6=some v45)∧True))∧(((True)∧((ld prog 9 v38 W6=some v39)∧True))∧(((True)∧((ld prog 9 v36 W6=some v37)∧True))∧(((True)∧((True)∧ld prog 9 v24 W4=some v25))∧True))))))∧True∧(f41_k5 ro K) .normal (Env.of e [(70,(.bool true)),(69,undef),(65,(.bool true)),(68,undef),(65,(.bool true)),(67,undef),(65,(.bool true)),(66,undef),(65,(.bool true)),(65,(.bool true)),(64,(.bool true)),(63,(.bool true)),(43,(.bool false)),(62,(.bool true)),(47,(.bool true)),(61,undef),(57,(.bool true)),(60,undef),(57,(.bool true)),(59,undef),(57,(.bool true)),(58,undef),(57,(.bool true)),(57,v55),(47,(.bool true)),(56,v55),(47,(.bool true)),(55,v55),(52,(.bool false)),(54,v54),(52,(.bool false)),(53,v53),(52,(.bool false)),(52,v51),(47,(.bool true)),(51,v51),(47,(.bool true)),(50,v50),(47,(.bool true)),(49,v49),(47,(.bool true)),(48,v48),(47,(.bool true)),(47,v46),(43,(.bool false)),(46,v46),(43,(.bool false)),(45,v45),(43,(.bool false)),(44,v44),(43,(.bool false)),(43,v40),(42,v40),(41,v40),(28,(.bool false)),(40,v40),(31,(.bool true)),(39,v39),(31,(.bool true)),(38,v38),(31,(.bool true)),(37,v37),(31,(.bool true)),(36,v36),(31,(.bool true)),(35,v35),(31,(.bool true)),(34,v34),(31,(.bool true)),(33,(e 3)),(31,(.bool true)),(32,(e 0)),(31,(.bool true)),(31,v30),(28,(.bool false)),(30,v30),(28,(.bool false)),(29,(e 3)),(28,(.bool false)),(28,v27),(27,v27),(26,v26),(25,v25),(24,v24),(4,v4),(23,v23),(22,v22),(21,(e 3)),(20,(e 0)),(17,v17),(16,v16),(15,(e 0)),(14,(e 3))]) ds W8) (wV (fad prog 48 v4 2) fun v58=>wV (ld prog 45 v58 W8) fun v59=>wV (clen prog 45 v59 W8) fun v60=>wV (cbin prog .gtr 3 true v60 (.int .i64 0)) fun v61=>wI v61 ((((clen prog 45 v59 W8=some v60)∧True)∧(((ld prog 45 v58 W8=some v59)∧True)∧(((ld prog 9 v53 W8=some v54)∧True)∧(((True)∧((ld prog 5 v48 W6=some v49)∧True))∧(((True)∧((ld prog 5 v44 W6=some v45)∧True))∧(((True)∧((ld prog 9 v38 W6=some v39)∧True))∧(((True)∧((ld prog 9 v36 W6=some v37)∧True))∧(((True)∧((True)∧ld prog 9 v24 W4=some v25))∧True))))))))∧True∧(f41_k5 ro K) .normal (Env.of e [(70,(.bool true)),(69,undef),(65,(.bool true)),(68,undef),(65,(.bool true)),(67,undef),(65,(.bool true)),(66,undef),(65,(.bool true)),(65,v61),(64,v61),(63,v61),(43,(.bool false)),(62,v61),(47,(.bool true)),(61,v61),(57,(.bool false)),(60,v60),(57,(.bool false)),(59,v59),(57,(.bool false)),(58,v58),(57,(.bool false)),(57,v55),(47,(.bool true)),(56,v55),(47,(.bool true)),(55,v55),(52,(.bool false)),(54,v54),(52,(.bool false)),(53,v53),(52,(.bool false)),(52,v51),(47,(.bool true)),(51,v51),(47,(.bool true)),(50,v50),(47,(.bool true)),(49,v49),(47,(.bool true)),(48,v48),(47,(.bool true)),(47,v46),(43,(.bool false)),(46,v46),(43,(.bool false)),(45,v45),(43,(.bool false)),(44,v44),(43,(.bool false)),(43,v40),(42,v40),(41,v40),(28,(.bool false)),(40,v40),(31,(.bool true)),(39,v39),(31,(.bool true)),(38,v38),(31,(.bool true)),(37,v37),(31,(.bool true)),(36,v36),(31,(.bool true)),(35,v35),(31,(.bool true)),(34,v34),(31,(.bool true)),(33,(e 3)),(31,(.bool true)),(32,(e 0)),(31,(.bool true)),(31,v30),(28,(.bool false)),(30,v30),(28,(.bool false)),(29,(e 3)),(28,(.bool false)),(28,v27),(27,v27),(26,v26),(25,v25),(24,v24),(4,v4),(23,v23),(22,v22),(21,(e 3)),(20,(e 0)),(17,v17),(16,v16),(15,(e 0)),(14,(e 3))]) ds W8) (wV (fad prog 48 v4 2) fun v66=>wV (ld prog 45 v66 W8) fun v67=>wV (clen prog 45 v67 W8) fun v68=>wV (cbin prog .gtr 3 true v68 (.int .i64 20)) fun v69=>(((clen prog 45 v67 W8=some v68)∧True)∧(((ld prog 45 v66 W8=some v67)∧True)∧(((clen prog 45 v59 W8=some v60)∧True)∧(((ld prog 45 v58 W8=some v59)∧True)∧(((ld prog 9 v53 W8=some v54)∧True)∧(((True)∧((ld prog 5 v48 W6=some v49)∧True))∧(((True)∧((ld prog 5 v44 W6=some v45)∧True))∧(((True)∧((ld prog 9 v38 W6=some v39)∧True))∧(((True)∧((ld prog 9 v36 W6=some v37)∧True))∧(((True)∧((True)∧ld prog 9 v24 W4=some v25))∧True))))))))))∧True∧(f41_k5 ro K) .normal (Env.of e [(70,v69),(69,v69),(65,(.bool false)),(68,v68),(65,(.bool false)),(67,v67),(65,(.bool false)),(66,v66),(65,(.bool false)),(65,v61),(64,v61),(63,v61),(43,(.bool false)),(62,v61),(47,(.bool true)),(61,v61),(57,(.bool false)),(60,v60),(57,(.bool false)),(59,v59),(57,(.bool false)),(58,v58),(57,(.bool false)),(57,v55),(47,(.bool true)),(56,v55),(47,(.bool true)),(55,v55),(52,(.bool false)),(54,v54),(52,(.bool false)),(53,v53),(52,(.bool false)),(52,v51),(47,(.bool true)),(51,v51),(47,(.bool true)),(50,v50),(47,(.bool true)),(49,v49),(47,(.bool true)),(48,v48),(47,(.bool true)),(47,v46),(43,(.bool false)),(46,v46),(43,(.bool false)),(45,v45),(43,(.bool false)),(44,v44),(43,(.bool false)),(43,v40),(42,v40),(41,v40),(28,(.bool false)),(40,v40),(31,(.bool true)),(39,v39),(31,(.bool true)),(38,v38),(31,(.bool true)),(37,v37),(31,(.bool true)),(36,v36),(31,(.bool true)),(35,v35),(31,(.bool true)),(34,v34),(31,(.bool true)),(33,(e 3)),(31,(.bool true)),(32,(e 0)),(31,(.bool true)),(31,v30),(28,(.bool false)),(30,v30),(28,(.bool false)),(29,(e 3)),(28,(.bool false)),(28,v27),(27,v27),(26,v26),(25,v25),(24,v24),(4,v4),(23,v23),(22,v22),(21,(e 3)),(20,(e 0)),(17,v17),(16,v16),(15,(e 0)),(14,(e 3))]) ds W8)))) (fun ch9 W9=>False))) (wV (fad prog 48 v4 2) fun v66=>wV (ld prog 45 v66 W6) fun v67=>wV (clen prog 45 v67 W6) fun v68=>wV (cbin prog .gtr 3 true v68 (.int .i64 20)) fun v69=>(((clen prog 45 v67 W6=some v68)∧True)∧(((ld prog 45 v66 W6=some v67)∧True)∧(((ld prog 5 v44 W6=some v45)∧True)∧(((ld prog 9 v38 W6=some v39)∧True)∧(((ld prog 9 v36 W6=some v37)∧True)∧(((True)∧ld prog 9 v24 W4=some v25)∧True))))))∧True∧(f41_k5 ro K) .normal (Env.of e [(70,v69),(69,v69),(65,(.bool false)),(68,v68),(65,(.bool false)),(67,v67),(65,(.bool false)),(66,v66),(65,(.bool false)),(65,(.bool false)),(64,(.bool false)),(63,(.bool false)),(43,(.bool false)),(62,undef),(47,(.bool false)),(61,undef),(60,undef),(59,undef),(58,undef),(57,undef),(47,(.bool false)),(56,undef),(47,(.bool false)),(55,undef),(54,undef),(53,undef),(52,undef),(47,(.bool false)),(51,undef),(47,(.bool false)),(50,undef),(47,(.bool false)),(49,undef),(47,(.bool false)),(48,undef),(47,(.bool false)),(47,v46),(43,(.bool false)),(46,v46),(43,(.bool false)),(45,v45),(43,(.bool false)),(44,v44),(43,(.bool false)),(43,v40),(42,v40),(41,v40),(28,(.bool false)),(40,v40),(31,(.bool true)),(39,v39),(31,(.bool true)),(38,v38),(31,(.bool true)),(37,v37),(31,(.bool true)),(36,v36),(31,(.bool true)),(35,v35),(31,(.bool true)),(34,v34),(31,(.bool true)),(33,(e 3)),(31,(.bool true)),(32,(e 0)),(31,(.bool true)),(31,v30),(28,(.bool false)),(30,v30),(28,(.bool false)),(29,(e 3)),(28,(.bool false)),(28,v27),(27,v27),(26,v26),(25,v25),(24,v24),(4,v4),(23,v23),(22,v22),(21,(e 3)),(20,(e 0)),(17,v17),(16,v16),(15,(e 0)),(14,(e 3))]) ds W6))) (wV (fad prog 48 v4 3) fun v44=>wV (ld prog 5 v44 W6) fun v45=>wV (cbin prog .neq 5 true v45 (.int .u8 0)) fun v46=>wI v46 (wV (fad prog 48 v4 3) fun v48=>wV (ld prog 5 v48 W6) fun v49=>WCall prog pkL 96 [v49] W6 (onEnd (fun v50 W10=>wV (ngt v50) fun v51=>wI v51 ((((True)∧((ld prog 5 v48 W6=some v49)∧True))∧(((True)∧((ld prog 5 v44 W6=some v45)∧True))∧(((True)∧((True)∧ld prog 9 v24 W4=some v25))∧True)))∧True∧(f41_k5 ro K) .normal (Env.of e [(70,(.bool true)),(69,undef),(65,(.bool true)),(68,undef),(65,(.bool true)),(67,undef),(65,(.bool true)),(66,undef),(65,(.bool true)),(65,(.bool true)),(64,(.bool true)),(63,(.bool true)),(43,(.bool false)),(62,(.bool true)),(47,(.bool true)),(61,undef),(57,(.bool true)),(60,undef),(57,(.bool true)),(59,undef),(57,(.bool true)),(58,undef),(57,(.bool true)),(57,(.bool true)),(47,(.bool true)),(56,(.bool true)),(47,(.bool true)),(55,undef),(52,(.bool true)),(54,undef),(52,(.bool true)),(53,undef),(52,(.bool true)),(52,v51),(47,(.bool true)),(51,v51),(47,(.bool true)),(50,v50),(47,(.bool true)),(49,v49),(47,(.bool true)),(48,v48),(47,(.bool true)),(47,v46),(43,(.bool false)),(46,v46),(43,(.bool false)),(45,v45),(43,(.bool false)),(44,v44),(43,(.bool false)),(43,(.bool false)),(42,(.bool false)),(41,(.bool false)),(28,(.bool false)),(40,undef),(31,(.bool false)),(39,undef),(31,(.bool false)),(38,undef),(31,(.bool false)),(37,undef),(31,(.bool false)),(36,undef),(31,(.bool false)),(35,undef),(31,(.bool false)),(34,undef),(31,(.bool false)),(33,undef),(31,(.bool false)),(32,undef),(31,(.bool false)),(31,v30),(28,(.bool false)),(30,v30),(28,(.bool false)),(29,(e 3)),(28,(.bool false)),(28,v27),(27,v27),(26,v26),(25,v25),(24,v24),(4,v4),(23,v23),(22,v22),(21,(e 3)),(20,(e 0)),(17,v17),(16,v16),(15,(e 0)),(14,(e 3))]) ds W10) (wV (fad prog 48 v4 1) fun v53=>wV (ld prog 9 v53 W10) fun v54=>wV (cbin prog .neq 9 true v54 (.string ⟨#[]⟩)) fun v55=>wI v55 ((((ld prog 9 v53 W10=some v54)∧True)∧(((True)∧((ld prog 5 v48 W6=some v49)∧True))∧(((True)∧((ld prog 5 v44 W6=some v45)∧True))∧(((True)∧((True)∧ld prog 9 v24 W4=some v25))∧True))))∧True∧(f41_k5 ro K) .normal (Env.of e [(70,(.bool true)),(69,undef),(65,(.bool true)),(68,undef),(65,(.bool true)),(67,undef),(65,(.bool true)),(66,undef),(65,(.bool true)),(65,(.bool true)),(64,(.bool true)),(63,(.bool true)),(43,(.bool false)),(62,(.bool true)),(47,(.bool true)),(61,undef),(57,(.bool true)),(60,undef),(57,(.bool true)),(59,undef),(57,(.bool true)),(58,undef),(57,(.bool true)),(57,v55),(47,(.bool true)),(56,v55),(47,(.bool true)),(55,v55),(52,(.bool false)),(54,v54),(52,(.bool false)),(53,v53),(52,(.bool false)),(52,v51),(47,(.bool true)),(51,v51),(47,(.bool true)),(50,v50),(47,(.bool true)),(49,v49),(47,(.bool true)),(48,v48),(47,(.bool true)),(47,v46),(43,(.bool false)),(46,v46),(43,(.bool false)),(45,v45),(43,(.bool false)),(44,v44),(43,(.bool false)),(43,(.bool false)),(42,(.bool false)),(41,(.bool false)),(28,(.bool false)),(40,undef),(31,(.bool false)),(39,undef),(31,(.bool false)),(38,undef),(31,(.bool false)),(37,undef),(31,(.bool false)),(36,undef),(31,(.bool false)),(35,undef),(31,(.bool false)),(34,undef),(31,(.bool false)),(33,undef),(31,(.bool false)),(32,undef),(31,(.bool false)),(31,v30),(28,(.bool false)),(30,v30),(28,(.bool false)),(29,(e 3)),(28,(.bool false)),(28,v27),(27,v27),(26,v26),(25,v25),(24,v24),(4,v4),(23,v23),(22,v22),(21,(e 3)),(20,(e 0)),(17,v17),(16,v16),(15,(e 0)),(14,(e 3))]) ds W10) (wV (fad prog 48 v4 2) fun v58=>wV (ld prog 45 v58 W10) fun v59=>wV (clen prog 45 v59 W10) fun v60=>wV (cbin prog .gtr 3 true v60 (.int .i64 0)) fun v61=>wI v61 ((((clen prog 45 v59 W10=some v60)∧True)∧(((ld prog 45 v58 W10=some v59)∧True)∧(((ld prog 9 v53 W10=some v54)∧True)∧(((True)∧((ld prog 5 v48 W6=some v49)∧True))∧(((True)∧((ld prog 5 v44 W6=some v45)∧True))∧(((True)∧((True)∧ld prog 9 v24 W4=some v25))∧True))))))∧True∧(f41_k5 ro K) .normal (Env.of e [(70,(.bool true)),(69,undef),(65,(.bool true)),(68,undef),(65,(.bool true)),(67,undef),(65,(.bool true)),(66,undef),(65,(.bool true)),(65,v61),(64,v61),(63,v61),(43,(.bool false)),(62,v61),(47,(.bool true)),(61,v61),(57,(.bool false)),(60,v60),(57,(.bool false)),(59,v59),(57,(.bool false)),(58,v58),(57,(.bool false)),(57,v55),(47,(.bool true)),(56,v55),(47,(.bool true)),(55,v55),(52,(.bool false)),(54,v54),(52,(.bool false)),(53,v53),(52,(.bool false)),(52,v51),(47,(.bool true)),(51,v51),(47,(.bool true)),(50,v50),(47,(.bool true)),(49,v49),(47,(.bool true)),(48,v48),(47,(.bool true)),(47,v46),(43,(.bool false)),(46,v46),(43,(.bool false)),(45,v45),(43,(.bool false)),(44,v44),(43,(.bool false)),(43,(.bool false)),(42,(.bool false)),(41,(.bool false)),(28,(.bool false)),(40,undef),(31,(.bool false)),(39,undef),(31,(.bool false)),(38,undef),(31,(.bool false)),(37,undef),(31,(.bool false)),(36,undef),(31,(.bool false)),(35,undef),(31,(.bool false)),(34,undef),(31,(.bool false)),(33,undef),(31,(.bool false)),(32,undef),(31,(.bool false)),(31,v30),(28,(.bool false)),(30,v30),(28,(.bool false)),(29,(e 3)),(28,(.bool false)),(28,v27),(27,v27),(26,v26),(25,v25),(24,v24),(4,v4),(23,v23),(22,v22),(21,(e 3)),(20,(e 0)),(17,v17),(16,v16),(15,(e 0)),(14,(e 3))]) ds W10) (wV (fad prog 48 v4 2) fun v66=>wV (ld prog 45 v66 W10) fun v67=>wV (clen prog 45 v67 W10) fun v68=>wV (cbin prog .gtr 3 true v68 (.int .i64 20)) fun v69=>(((clen prog 45 v67 W10=some v68)∧True)∧(((ld prog 45 v66 W10=some v67)∧True)∧(((clen prog 45 v59 W10=some v60)∧True)∧(((ld prog 45 v58 W10=some v59)∧True)∧(((ld prog 9 v53 W10=some v54)∧True)∧(((True)∧((ld prog 5 v48 W6=some v49)∧True))∧(((True)∧((ld prog 5 v44 W6=some v45)∧True))∧(((True)∧((True)∧ld prog 9 v24 W4=some v25))∧True))))))))∧True∧(f41_k5 ro K) .normal (Env.of e [(70,v69),(69,v69),(65,(.bool false)),(68,v68),(65,(.bool false)),(67,v67),(65,(.bool false)),(66,v66),(65,(.bool false)),(65,v61),(64,v61),(63,v61),(43,(.bool false)),(62,v61),(47,(.bool true)),(61,v61),(57,(.bool false)),(60,v60),(57,(.bool false)),(59,v59),(57,(.bool false)),(58,v58),(57,(.bool false)),(57,v55),(47,(.bool true)),(56,v55),(47,(.bool true)),(55,v55),(52,(.bool false)),(54,v54),(52,(.bool false)),(53,v53),(52,(.bool false)),(52,v51),(47,(.bool true)),(51,v51),(47,(.bool true)),(50,v50),(47,(.bool true)),(49,v49),(47,(.bool true)),(48,v48),(47,(.bool true)),(47,v46),(43,(.bool false)),(46,v46),(43,(.bool false)),(45,v45),(43,(.bool false)),(44,v44),(43,(.bool false)),(43,(.bool false)),(42,(.bool false)),(41,(.bool false)),(28,(.bool false)),(40,undef),(31,(.bool false)),(39,undef),(31,(.bool false)),(38,undef),(31,(.bool false)),(37,undef),(31,(.bool false)),(36,undef),(31,(.bool false)),(35,undef),(31,(.bool false)),(34,undef),(31,(.bool false)),(33,undef),(31,(.bool false)),(32,undef),(31,(.bool false)),(31,v30),(28,(.bool false)),(30,v30),(28,(.bool false)),(29,(e 3)),(28,(.bool false)),(28,v27),(27,v27),(26,v26),(25,v25),(24,v24),(4,v4),(23,v23),(22,v22),(21,(e 3)),(20,(e 0)),(17,v17),(16,v16),(15,(e 0)),(14,(e 3))]) ds W10)))) (fun ch11 W11=>False))) (wV (fad prog 48 v4 2) fun v66=>wV (ld prog 45 v66 W6) fun v67=>wV (clen prog 45 v67 W6) fun v68=>wV (cbin prog .gtr 3 true v68 (.int .i64 20)) fun v69=>(((clen prog 45 v67 W6=some v68)∧True)∧(((ld prog 45 v66 W6=some v67)∧True)∧(((ld prog 5 v44 W6=some v45)∧True)∧(((True)∧ld prog 9 v24 W4=some v25)∧True))))∧True∧(f41_k5 ro K) .normal (Env.of e [(70,v69),(69,v69),(65,(.bool false)),(68,v68),(65,(.bool false)),(67,v67),(65,(.bool false)),(66,v66),(65,(.bool false)),(65,(.bool false)),(64,(.bool false)),(63,(.bool false)),(43,(.bool false)),(62,undef),(47,(.bool false)),(61,undef),(60,undef),(59,undef),(58,undef),(57,undef),(47,(.bool false)),(56,undef),(47,(.bool false)),(55,undef),(54,undef),(53,undef),(52,undef),(47,(.bool false)),(51,undef),(47,(.bool false)),(50,undef),(47,(.bool false)),(49,undef),(47,(.bool false)),(48,undef),(47,(.bool false)),(47,v46),(43,(.bool false)),(46,v46),(43,(.bool false)),(45,v45),(43,(.bool false)),(44,v44),(43,(.bool false)),(43,(.bool false)),(42,(.bool false)),(41,(.bool false)),(28,(.bool false)),(40,undef),(31,(.bool false)),(39,undef),(31,(.bool false)),(38,undef),(31,(.bool false)),(37,undef),(31,(.bool false)),(36,undef),(31,(.bool false)),(35,undef),(31,(.bool false)),(34,undef),(31,(.bool false)),(33,undef),(31,(.bool false)),(32,undef),(31,(.bool false)),(31,v30),(28,(.bool false)),(30,v30),(28,(.bool false)),(29,(e 3)),(28,(.bool false)),(28,v27),(27,v27),(26,v26),(25,v25),(24,v24),(4,v4),(23,v23),(22,v22),(21,(e 3)),(20,(e 0)),(17,v17),(16,v16),(15,(e 0)),(14,(e 3))]) ds W6)))) (fun ch7 W7=>False))) (K (.exit 0) (Env.of e [(17,v17),(16,v16),(15,(e 0)),(14,(e 3))]) ds W)):=by kernel_rfl
def f41_k12 (ro:Option Nat) (K:Kont):Kont:=seqK (fun e ds W=>wV (cbin prog .add 3 true (e 5) (.int .i64 1)) fun v76=>K .normal (Env.of e [(5,v76),(76,v76),(75,(e 5))]) ds W) K
theorem f41_l1 (ro:Option Nat) (e:Env) (ds:List Deferred) (K:Kont) (W:CW):wCode prog pkL ro 41 129 (loopAt prog 41 1) e ds W K=(wV (clen prog 22 (e 0) W) fun v73=>wV (cbin prog .lss 3 false (e 5) v73) fun v74=>wI v74 (WCall prog pkL 97 [(e 0),(e 5)] W (onEnd (fun v80 W13=>wV (ext v80 0) fun v81=>wV (ext v80 1) fun v82=>wV (ngt v82) fun v84=>wI v84 ((f41_k12 ro K) .ret (Env.of e [(2,(.int .i64 210)),(84,v84),(83,v82),(7,v82),(6,v81),(82,v82),(81,v81),(77,v80),(80,v80),(79,(e 5)),(78,(e 0)),(74,v74),(73,v73),(72,(e 0)),(71,(e 5))]) ds W13) (WCall prog pkL 98 [(e 0),(e 5)] W13 (onEnd (fun v87 W15=>wV (clen prog 45 v87 W15) fun v89=>wV (cbin prog .gtr 3 true v89 (.int .i64 60)) fun v90=>wI v90 ((f41_k12 ro K) .ret (Env.of e [(2,(.int .i64 210)),(90,v90),(89,v89),(88,v87),(8,v87),(87,v87),(86,(e 5)),(85,(e 0)),(84,v84),(83,v82),(7,v82),(6,v81),(82,v82),(81,v81),(77,v80),(80,v80),(79,(e 5)),(78,(e 0)),(74,v74),(73,v73),(72,(e 0)),(71,(e 5))]) ds W15) (WEnv prog pkL ro 41 129 (.loop (loopAt prog 41 2)) (Env.of e [(9,(.int .i64 0)),(90,v90),(89,v89),(88,v87),(8,v87),(87,v87),(86,(e 5)),(85,(e 0)),(84,v84),(83,v82),(7,v82),(6,v81),(82,v82),(81,v81),(77,v80),(80,v80),(79,(e 5)),(78,(e 0)),(74,v74),(73,v73),(72,(e 0)),(71,(e 5))]) ds W15 (blkK 4 (blkK 3 (f41_k12 ro K))))) (fun ch16 W16=>(f41_k12 ro K) (.panic ch16) (Env.of e [(86,(e 5)),(85,(e 0)),(84,v84),(83,v82),(7,v82),(6,v81),(82,v82),(81,v81),(77,v80),(80,v80),(79,(e 5)),(78,(e 0)),(74,v74),(73,v73),(72,(e 0)),(71,(e 5))]) ds W16)))) (fun ch14 W14=>(f41_k12 ro K) (.panic ch14) (Env.of e [(79,(e 5)),(78,(e 0)),(74,v74),(73,v73),(72,(e 0)),(71,(e 5))]) ds W14))) (K (.exit 2) (Env.of e [(74,v74),(73,v73),(72,(e 0)),(71,(e 5))]) ds W)):=by kernel_rfl
def f41_k17 (ro:Option Nat) (K:Kont):Kont:=seqK (fun e ds W=>wV (cbin prog .add 3 true (e 9) (.int .i64 1)) fun v96=>K .normal (Env.of e [(9,v96),(96,v96),(95,(e 9))]) ds W) K
def f41_k18 (ro:Option Nat) (K:Kont):Kont:=seqK (fun e ds W=>WEnv prog pkL ro 41 129 (.loop (loopAt prog 41 3)) (Env.of e [(10,(.int .i64 0))]) ds W (blkK 6 (blkK 5 (f41_k17 ro K)))) (blkK 5 (f41_k17 ro K))
def f41_k19 (ro:Option Nat) (K:Kont):Kont:=seqK (fun e ds W=>wI (e 112) ((f41_k18 ro K) .ret (Env.of e [(2,(.int .i64 210))]) ds W) ((f41_k18 ro K) .normal e ds W)) (f41_k18 ro K)
theorem f41_l2 (ro:Option Nat) (e:Env) (ds:List Deferred) (K:Kont) (W:CW):wCode prog pkL ro 41 129 (loopAt prog 41 2) e ds W K=(wV (clen prog 45 (e 8) W) fun v93=>wV (cbin prog .lss 3 false (e 9) v93) fun v94=>wI v94 (wV (iad prog 45 (e 8) (e 9)) fun v99=>wV (fad prog 72 v99 0) fun v100=>wV (ld prog 9 v100 W) fun v101=>WCall prog pkL 95 [v101] W (onEnd (fun v102 W20=>wV (ngt v102) fun v103=>wI v103 ((f41_k19 ro K) .normal (Env.of e [(112,(.bool true)),(111,undef),(104,(.bool true)),(110,undef),(104,(.bool true)),(109,undef),(104,(.bool true)),(108,undef),(104,(.bool true)),(107,undef),(104,(.bool true)),(106,undef),(104,(.bool true)),(105,undef),(104,(.bool true)),(104,v103),(103,v103),(102,v102),(101,v101),(100,v100),(99,v99),(98,(e 9)),(97,(e 8)),(94,v94),(93,v93),(92,(e 8)),(91,(e 9))]) ds W20) (wV (iad prog 45 (e 8) (e 9)) fun v107=>wV (fad prog 72 v107 1) fun v108=>wV (ld prog 5 v108 W20) fun v109=>WCall prog pkL 96 [v109] W20 (onEnd (fun v110 W22=>wV (ngt v110) fun v111=>(f41_k19 ro K) .normal (Env.of e [(112,v111),(111,v111),(104,(.bool false)),(110,v110),(104,(.bool false)),(109,v109),(104,(.bool false)),(108,v108),(104,(.bool false)),(107,v107),(104,(.bool false)),(106,(e 9)),(104,(.bool false)),(105,(e 8)),(104,(.bool false)),(104,v103),(103,v103),(102,v102),(101,v101),(100,v100),(99,v99),(98,(e 9)),(97,(e 8)),(94,v94),(93,v93),(92,(e 8)),(91,(e 9))]) ds W22) (fun ch23 W23=>(f41_k19 ro K) (.panic ch23) (Env.of e [(104,(.bool false)),(109,v109),(104,(.bool false)),(108,v108),(104,(.bool false)),(107,v107),(104,(.bool false)),(106,(e 9)),(104,(.bool false)),(105,(e 8)),(104,(.bool false)),(104,v103),(103,v103),(102,v102),(101,v101),(100,v100),(99,v99),(98,(e 9)),(97,(e 8)),(94,v94),(93,v93),(92,(e 8)),(91,(e 9))]) ds W23)))) (fun ch21 W21=>(f41_k19 ro K) (.panic ch21) (Env.of e [(101,v101),(100,v100),(99,v99),(98,(e 9)),(97,(e 8)),(94,v94),(93,v93),(92,(e 8)),(91,(e 9))]) ds W21))) (K (.exit 4) (Env.of e [(94,v94),(93,v93),(92,(e 8)),(91,(e 9))]) ds W)):=by kernel_rfl
def f41_k24 (ro:Option Nat) (K:Kont):Kont:=seqK (fun e ds W=>wV (cbin prog .add 3 true (e 10) (.int .i64 1)) fun v117=>K .normal (Env.of e [(10,v117),(117,v117),(116,(e 10))]) ds W) K
theorem f41_l3 (ro:Option Nat) (e:Env) (ds:List Deferred) (K:Kont) (W:CW):wCode prog pkL ro 41 129 (loopAt prog 41 3) e ds W K=(wV (cbin prog .lss 3 false (e 10) (e 9)) fun v115=>wI v115 (wV (iad prog 45 (e 8) (e 10)) fun v120=>wV (fad prog 72 v120 0) fun v121=>wV (ld prog 9 v121 W) fun v122=>wV (iad prog 45 (e 8) (e 9)) fun v125=>wV (fad prog 72 v125 0) fun v126=>wV (ld prog 9 v126 W) fun v127=>wV (cbin prog .eql 9 false v122 v127) fun v128=>(ld prog 9 v126 W=some v127∧(ld prog 9 v121 W=some v122∧True))∧True∧wI v128 ((f41_k24 ro K) .ret (Env.of e [(2,(.int .i64 210)),(128,v128),(127,v127),(126,v126),(125,v125),(124,(e 9)),(123,(e 8)),(122,v122),(121,v121),(120,v120),(119,(e 10)),(118,(e 8)),(115,v115),(114,(e 9)),(113,(e 10))]) ds W) ((f41_k24 ro K) .normal (Env.of e [(128,v128),(127,v127),(126,v126),(125,v125),(124,(e 9)),(123,(e 8)),(122,v122),(121,v121),(120,v120),(119,(e 10)),(118,(e 8)),(115,v115),(114,(e 9)),(113,(e 10))]) ds W)) (K (.exit 6) (Env.of e [(115,v115),(114,(e 9)),(113,(e 10))]) ds W)):=by kernel_rfl
theorem f41_leave (Q:Ending→CW→Prop) (e:Env) (W:CW):wLeave prog Tryz.f41 Q .ret e [] W=Q (.returned (e 2)) W:=by kernel_rfl
theorem f41_w {Q:Ending→CW→Prop} {v0:Value} {W:CW} (h:wCode prog pkL none 41 129 (bodyOf prog 41) (Env.args [v0]) [] W (wLeave prog Tryz.f41 Q)):WCall prog pkL 41 [v0] W Q:=wCall_of Tryz.func41 (by kernel_rfl) (by kernel_rfl) (by kernel_rfl) (by kernel_rfl) (by kernel_rfl) h
def f43_k2 (ro:Option Nat) (K:Kont):Kont:=seqK (fun e ds W=>K .ret (Env.of e [(4,(e 5)),(16,(e 5))]) ds W) K
def f43_k3 (ro:Option Nat) (K:Kont):Kont:=seqK (fun e ds W=>wI (e 15) ((f43_k2 ro K) .normal (Env.of e [(5,(.int .i64 212))]) ds W) ((f43_k2 ro K) .normal e ds W)) (f43_k2 ro K)
theorem f43_c (v0 v1:Value) (K:Kont) (W:CW):wCode prog pkL none 43 17 (bodyOf prog 43) (Env.args [v0,v1]) [] W K=(WCall prog pkL 41 [v0] W (onEnd (fun v7 W0=>wV (cbin prog .eql 30 true v7 (.int .i64 0)) fun v9=>wI v9 (WCall prog pkL 99 [v0,v1] W0 (onEnd (fun v13 W4=>wV (ngt v13) fun v14=>(f43_k3 none K) .normal (Env.of (Env.args [v0,v1]) [(15,v14),(14,v14),(10,(.bool true)),(13,v13),(10,(.bool true)),(12,v1),(10,(.bool true)),(11,v0),(10,(.bool true)),(10,v9),(9,v9),(8,v7),(5,v7),(7,v7),(6,v0),(4,(.int .i64 0))]) [] W4) (fun ch5 W5=>(f43_k3 none K) (.panic ch5) (Env.of (Env.args [v0,v1]) [(10,(.bool true)),(12,v1),(10,(.bool true)),(11,v0),(10,(.bool true)),(10,v9),(9,v9),(8,v7),(5,v7),(7,v7),(6,v0),(4,(.int .i64 0))]) [] W5))) ((f43_k3 none K) .normal (Env.of (Env.args [v0,v1]) [(15,(.bool false)),(14,undef),(10,(.bool false)),(13,undef),(10,(.bool false)),(12,undef),(10,(.bool false)),(11,undef),(10,(.bool false)),(10,v9),(9,v9),(8,v7),(5,v7),(7,v7),(6,v0),(4,(.int .i64 0))]) [] W0)) (fun ch1 W1=>K (.panic ch1) (Env.of (Env.args [v0,v1]) [(6,v0),(4,(.int .i64 0))]) [] W1))):=by kernel_rfl
theorem f43_leave (Q:Ending→CW→Prop) (e:Env) (W:CW):wLeave prog Tryz.f43 Q .ret e [] W=Q (.returned (e 4)) W:=by kernel_rfl
theorem f43_w {Q:Ending→CW→Prop} {v0 v1:Value} {W:CW} (h:wCode prog pkL none 43 17 (bodyOf prog 43) (Env.args [v0,v1]) [] W (wLeave prog Tryz.f43 Q)):WCall prog pkL 43 [v0,v1] W Q:=wCall_of Tryz.func43 (by kernel_rfl) (by kernel_rfl) (by kernel_rfl) (by kernel_rfl) (by kernel_rfl) h
def f63_k4 (ro:Option Nat) (K:Kont):Kont:=seqK (fun e ds W=>K .ret (Env.of e [(8,(.int .i64 0))]) ds W) K
def f63_k5 (ro:Option Nat) (K:Kont):Kont:=seqK (fun e ds W=>wI (e 27) ((f63_k4 ro K) .ret (Env.of e [(8,(.int .i64 1))]) ds W) ((f63_k4 ro K) .normal e ds W)) (f63_k4 ro K)
theorem f63_c (v0 v1 v2 v3:Value) (K:Kont) (W:CW):wCode prog pkL none 63 28 (bodyOf prog 63) (Env.args [v0,v1,v2,v3]) [] W K=(WCall prog pkL 43 [v0,v1] W (onEnd (fun v12 W0=>wV (cbin prog .neq 30 true v12 (.int .i64 0)) fun v14=>wI v14 (K .ret (Env.of (Env.args [v0,v1,v2,v3]) [(8,v12),(15,v12),(14,v14),(13,v12),(9,v12),(12,v12),(11,v1),(10,v0),(8,(.int .i64 0))]) [] W0) (WCall prog pkL 94 [v0,v2] W0 (onEnd (fun v18 W2=>wV (cbin prog .geq 3 true v18 (.int .i64 0)) fun v19=>wI v19 (K .ret (Env.of (Env.args [v0,v1,v2,v3]) [(8,(.int .i64 211)),(19,v19),(18,v18),(17,v2),(16,v0),(14,v14),(13,v12),(9,v12),(12,v12),(11,v1),(10,v0),(8,(.int .i64 0))]) [] W2) (wV (cbin prog .lss 3 true v3 (.int .i64 0)) fun v21=>wI v21 ((f63_k5 none K) .normal (Env.of (Env.args [v0,v1,v2,v3]) [(27,(.bool true)),(26,undef),(22,(.bool true)),(25,undef),(22,(.bool true)),(24,undef),(22,(.bool true)),(23,undef),(22,(.bool true)),(22,v21),(21,v21),(20,v3),(19,v19),(18,v18),(17,v2),(16,v0),(14,v14),(13,v12),(9,v12),(12,v12),(11,v1),(10,v0),(8,(.int .i64 0))]) [] W2) (wV (clen prog 24 v2 W2) fun v25=>wV (cbin prog .gtr 3 false v3 v25) fun v26=>(f63_k5 none K) .normal (Env.of (Env.args [v0,v1,v2,v3]) [(27,v26),(26,v26),(22,(.bool false)),(25,v25),(22,(.bool false)),(24,v2),(22,(.bool false)),(23,v3),(22,(.bool false)),(22,v21),(21,v21),(20,v3),(19,v19),(18,v18),(17,v2),(16,v0),(14,v14),(13,v12),(9,v12),(12,v12),(11,v1),(10,v0),(8,(.int .i64 0))]) [] W2))) (fun ch3 W3=>K (.panic ch3) (Env.of (Env.args [v0,v1,v2,v3]) [(17,v2),(16,v0),(14,v14),(13,v12),(9,v12),(12,v12),(11,v1),(10,v0),(8,(.int .i64 0))]) [] W3)))) (fun ch1 W1=>K (.panic ch1) (Env.of (Env.args [v0,v1,v2,v3]) [(11,v1),(10,v0),(8,(.int .i64 0))]) [] W1))):=by kernel_rfl
theorem f63_leave (Q:Ending→CW→Prop) (e:Env) (W:CW):wLeave prog Tryz.f63 Q .ret e [] W=Q (.returned (e 8)) W:=by kernel_rfl
theorem f63_w {Q:Ending→CW→Prop} {v0 v1 v2 v3:Value} {W:CW} (h:wCode prog pkL none 63 28 (bodyOf prog 63) (Env.args [v0,v1,v2,v3]) [] W (wLeave prog Tryz.f63 Q)):WCall prog pkL 63 [v0,v1,v2,v3] W Q:=wCall_of Tryz.func63 (by kernel_rfl) (by kernel_rfl) (by kernel_rfl) (by kernel_rfl) (by kernel_rfl) h
def f94_k0 (ro:Option Nat) (K:Kont):Kont:=seqK (fun e ds W=>K .ret (Env.of e [(4,(.int .i64 (-1)))]) ds W) K
theorem f94_c (v0 v1:Value) (K:Kont) (W:CW):wCode prog pkL none 94 25 (bodyOf prog 94) (Env.args [v0,v1]) [] W K=(wV (clen prog 24 v1 W) fun v7=>wV (cbin prog .gtr 3 true v7 (.int .i64 1000)) fun v8=>wI v8 (K .ret (Env.of (Env.args [v0,v1]) [(4,(.int .i64 1000)),(8,v8),(7,v7),(6,v1),(4,(.int .i64 0))]) [] W) (WEnv prog pkL none 94 25 (.loop (loopAt prog 94 0)) (Env.of (Env.args [v0,v1]) [(5,(.int .i64 0)),(8,v8),(7,v7),(6,v1),(4,(.int .i64 0))]) [] W (blkK 0 (f94_k0 none K)))):=by kernel_rfl
def f94_k1 (ro:Option Nat) (K:Kont):Kont:=seqK (fun e ds W=>wV (cbin prog .add 3 true (e 5) (.int .i64 1)) fun v14=>K .normal (Env.of e [(5,v14),(14,v14),(13,(e 5))]) ds W) K
theorem f94_l0 (ro:Option Nat) (e:Env) (ds:List Deferred) (K:Kont) (W:CW):wCode prog pkL ro 94 25 (loopAt prog 94 0) e ds W K=(wV (clen prog 24 (e 1) W) fun v11=>wV (cbin prog .lss 3 false (e 5) v11) fun v12=>wI v12 (wV (iad prog 24 (e 1) (e 5)) fun v18=>wV (ld prog 56 v18 W) fun v19=>wV (clen prog 24 (e 1) W) fun v21=>WCall prog pkL 122 [(e 0),v19,v21] W (onEnd (fun v22 W2=>wV (ngt v22) fun v23=>wI v23 ((f94_k1 ro K) .ret (Env.of e [(4,(e 5)),(24,(e 5)),(23,v23),(22,v22),(21,v21),(20,(e 1)),(19,v19),(18,v18),(17,(e 5)),(16,(e 1)),(15,(e 0)),(12,v12),(11,v11),(10,(e 1)),(9,(e 5))]) ds W2) ((f94_k1 ro K) .normal (Env.of e [(23,v23),(22,v22),(21,v21),(20,(e 1)),(19,v19),(18,v18),(17,(e 5)),(16,(e 1)),(15,(e 0)),(12,v12),(11,v11),(10,(e 1)),(9,(e 5))]) ds W2)) (fun ch3 W3=>(f94_k1 ro K) (.panic ch3) (Env.of e [(21,v21),(20,(e 1)),(19,v19),(18,v18),(17,(e 5)),(16,(e 1)),(15,(e 0)),(12,v12),(11,v11),(10,(e 1)),(9,(e 5))]) ds W3))) (K (.exit 0) (Env.of e [(12,v12),(11,v11),(10,(e 1)),(9,(e 5))]) ds W)):=by kernel_rfl
theorem f94_leave (Q:Ending→CW→Prop) (e:Env) (W:CW):wLeave prog Tryz.f94 Q .ret e [] W=Q (.returned (e 4)) W:=by kernel_rfl
theorem f94_w {Q:Ending→CW→Prop} {v0 v1:Value} {W:CW} (h:wCode prog pkL none 94 25 (bodyOf prog 94) (Env.args [v0,v1]) [] W (wLeave prog Tryz.f94 Q)):WCall prog pkL 94 [v0,v1] W Q:=wCall_of Tryz.func94 (by kernel_rfl) (by kernel_rfl) (by kernel_rfl) (by kernel_rfl) (by kernel_rfl) h
def f99_k0 (ro:Option Nat) (K:Kont):Kont:=seqK (fun e ds W=>K .ret (Env.of e [(4,(.bool true))]) ds W) K
theorem f99_c (v0 v1:Value) (K:Kont) (W:CW):wCode prog pkL none 99 175 (bodyOf prog 99) (Env.args [v0,v1]) [] W K=(wV (clen prog 23 v1 W) fun v15=>wV (cbin prog .gtr 3 true v15 (.int .i64 20)) fun v16=>wI v16 (K .ret (Env.of (Env.args [v0,v1]) [(4,(.bool false)),(16,v16),(15,v15),(14,v1),(4,(.bool false))]) [] W) (WEnv prog pkL none 99 175 (.loop (loopAt prog 99 0)) (Env.of (Env.args [v0,v1]) [(5,(.int .i64 0)),(16,v16),(15,v15),(14,v1),(4,(.bool false))]) [] W (blkK 0 (f99_k0 none K)))):=by kernel_rfl
def f99_k1 (ro:Option Nat) (K:Kont):Kont:=seqK (fun e ds W=>wV (cbin prog .add 3 true (e 5) (.int .i64 1)) fun v22=>K .normal (Env.of e [(5,v22),(22,v22),(21,(e 5))]) ds W) K
def f99_k10 (ro:Option Nat) (K:Kont):Kont:=seqK (fun e ds W=>WCall prog pkL 88 [(e 0),(e 6)] W (onEnd (fun v114 W6=>WCall prog pkL 88 [(e 0),(e 7)] W6 (onEnd (fun v117 W8=>wV (iad prog 23 (e 1) (e 5)) fun v120=>wV (fad prog 58 v120 2) fun v121=>wV (ld prog 40 v121 W8) fun v122=>wV (clen prog 40 v122 W8) fun v123=>wV (clen prog 29 v117 W8) fun v125=>wV (cbin prog .neq 3 false v123 v125) fun v126=>wI v126 ((f99_k1 ro K) .ret (Env.of e [(4,(.bool false)),(126,v126),(125,v125),(124,v117),(123,v123),(122,v122),(121,v121),(120,v120),(119,(e 5)),(118,(e 1)),(10,v117),(117,v117),(116,(e 7)),(115,(e 0)),(9,v114),(114,v114),(113,(e 6)),(112,(e 0))]) ds W8) (WEnv prog pkL ro 99 175 (.loop (loopAt prog 99 2)) (Env.of e [(11,(.int .i64 0)),(126,v126),(125,v125),(124,v117),(123,v123),(122,v122),(121,v121),(120,v120),(119,(e 5)),(118,(e 1)),(10,v117),(117,v117),(116,(e 7)),(115,(e 0)),(9,v114),(114,v114),(113,(e 6)),(112,(e 0))]) ds W8 (blkK 4 (blkK 1 (f99_k1 ro K))))) (fun ch9 W9=>(f99_k1 ro K) (.panic ch9) (Env.of e [(116,(e 7)),(115,(e 0)),(9,v114),(114,v114),(113,(e 6)),(112,(e 0))]) ds W9))) (fun ch7 W7=>(f99_k1 ro K) (.panic ch7) (Env.of e [(113,(e 6)),(112,(e 0))]) ds W7))) (blkK 1 (f99_k1 ro K))
def f99_k11 (ro:Option Nat) (K:Kont):Kont:=seqK (fun e ds W=>WEnv prog pkL ro 99 175 (.loop (loopAt prog 99 1)) (Env.of e [(8,(.int .i64 0))]) ds W (blkK 2 (f99_k10 ro K))) (blkK 1 (f99_k1 ro K))
def f99_k12 (ro:Option Nat) (K:Kont):Kont:=seqK (fun e ds W=>wI (e 76) ((f99_k11 ro K) .ret (Env.of e [(4,(.bool false))]) ds W) ((f99_k11 ro K) .normal e ds W)) (f99_k11 ro K)
theorem f99_l0 (ro:Option Nat) (e:Env) (ds:List Deferred) (K:Kont) (W:CW):wCode prog pkL ro 99 175 (loopAt prog 99 0) e ds W K=(wV (clen prog 23 (e 1) W) fun v19=>wV (cbin prog .lss 3 false (e 5) v19) fun v20=>wI v20 (wV (iad prog 23 (e 1) (e 5)) fun v26=>wV (fad prog 58 v26 0) fun v27=>wV (ld prog 9 v27 W) fun v28=>WCall prog pkL 69 [(e 0),v28] W (onEnd (fun v29 W2=>wV (iad prog 23 (e 1) (e 5)) fun v33=>wV (fad prog 58 v33 1) fun v34=>wV (ld prog 9 v34 W2) fun v35=>WCall prog pkL 69 [(e 0),v35] W2 (onEnd (fun v36 W4=>wV (cbin prog .lss 3 true v29 (.int .i64 0)) fun v38=>wI v38 (True∧True∧(f99_k12 ro K) .normal (Env.of e [(76,(.bool true)),(75,undef),(59,(.bool true)),(74,undef),(73,undef),(72,undef),(71,undef),(70,undef),(69,undef),(68,undef),(67,undef),(66,undef),(65,undef),(64,undef),(63,undef),(62,undef),(59,(.bool true)),(61,undef),(59,(.bool true)),(60,undef),(59,(.bool true)),(59,(.bool true)),(58,(.bool true)),(57,undef),(51,(.bool true)),(56,undef),(51,(.bool true)),(55,undef),(51,(.bool true)),(54,undef),(51,(.bool true)),(53,undef),(51,(.bool true)),(52,undef),(51,(.bool true)),(51,(.bool true)),(50,(.bool true)),(49,undef),(43,(.bool true)),(48,undef),(43,(.bool true)),(47,undef),(43,(.bool true)),(46,undef),(43,(.bool true)),(45,undef),(43,(.bool true)),(44,undef),(43,(.bool true)),(43,(.bool true)),(42,(.bool true)),(41,undef),(39,(.bool true)),(40,undef),(39,(.bool true)),(39,v38),(38,v38),(37,v29),(7,v36),(36,v36),(35,v35),(34,v34),(33,v33),(32,(e 5)),(31,(e 1)),(30,(e 0)),(6,v29),(29,v29),(28,v28),(27,v27),(26,v26),(25,(e 5)),(24,(e 1)),(23,(e 0)),(20,v20),(19,v19),(18,(e 1)),(17,(e 5))]) ds W4) (wV (cbin prog .lss 3 true v36 (.int .i64 0)) fun v41=>wI v41 (True∧True∧(f99_k12 ro K) .normal (Env.of e [(76,(.bool true)),(75,undef),(59,(.bool true)),(74,undef),(73,undef),(72,undef),(71,undef),(70,undef),(69,undef),(68,undef),(67,undef),(66,undef),(65,undef),(64,undef),(63,undef),(62,undef),(59,(.bool true)),(61,undef),(59,(.bool true)),(60,undef),(59,(.bool true)),(59,(.bool true)),(58,(.bool true)),(57,undef),(51,(.bool true)),(56,undef),(51,(.bool true)),(55,undef),(51,(.bool true)),(54,undef),(51,(.bool true)),(53,undef),(51,(.bool true)),(52,undef),(51,(.bool true)),(51,(.bool true)),(50,(.bool true)),(49,undef),(43,(.bool true)),(48,undef),(43,(.bool true)),(47,undef),(43,(.bool true)),(46,undef),(43,(.bool true)),(45,undef),(43,(.bool true)),(44,undef),(43,(.bool true)),(43,v41),(42,v41),(41,v41),(39,(.bool false)),(40,v36),(39,(.bool false)),(39,v38),(38,v38),(37,v29),(7,v36),(36,v36),(35,v35),(34,v34),(33,v33),(32,(e 5)),(31,(e 1)),(30,(e 0)),(6,v29),(29,v29),(28,v28),(27,v27),(26,v26),(25,(e 5)),(24,(e 1)),(23,(e 0)),(20,v20),(19,v19),(18,(e 1)),(17,(e 5))]) ds W4) (wV (iad prog 22 (e 0) v29) fun v46=>wV (fad prog 48 v46 3) fun v47=>wV (ld prog 5 v47 W4) fun v48=>wV (cbin prog .neq 5 true v48 (.int .u8 0)) fun v49=>wI v49 ((ld prog 5 v47 W4=some v48∧True)∧True∧(f99_k12 ro K) .normal (Env.of e [(76,(.bool true)),(75,undef),(59,(.bool true)),(74,undef),(73,undef),(72,undef),(71,undef),(70,undef),(69,undef),(68,undef),(67,undef),(66,undef),(65,undef),(64,undef),(63,undef),(62,undef),(59,(.bool true)),(61,undef),(59,(.bool true)),(60,undef),(59,(.bool true)),(59,(.bool true)),(58,(.bool true)),(57,undef),(51,(.bool true)),(56,undef),(51,(.bool true)),(55,undef),(51,(.bool true)),(54,undef),(51,(.bool true)),(53,undef),(51,(.bool true)),(52,undef),(51,(.bool true)),(51,v49),(50,v49),(49,v49),(43,(.bool false)),(48,v48),(43,(.bool false)),(47,v47),(43,(.bool false)),(46,v46),(43,(.bool false)),(45,v29),(43,(.bool false)),(44,(e 0)),(43,(.bool false)),(43,v41),(42,v41),(41,v41),(39,(.bool false)),(40,v36),(39,(.bool false)),(39,v38),(38,v38),(37,v29),(7,v36),(36,v36),(35,v35),(34,v34),(33,v33),(32,(e 5)),(31,(e 1)),(30,(e 0)),(6,v29),(29,v29),(28,v28),(27,v27),(26,v26),(25,(e 5)),(24,(e 1)),(23,(e 0)),(20,v20),(19,v19),(18,(e 1)),(17,(e 5))]) ds W4) (wV (iad prog 22 (e 0) v36) fun v54=>wV (fad prog 48 v54 3) fun v55=>wV (ld prog 5 v55 W4) fun v56=>wV (cbin prog .neq 5 true v56 (.int .u8 0)) fun v57=>wI v57 ((ld prog 5 v55 W4=some v56∧(ld prog 5 v47 W4=some v48∧True))∧True∧(f99_k12 ro K) .normal (Env.of e [(76,(.bool true)),(75,undef),(59,(.bool true)),(74,undef),(73,undef),(72,undef),(71,undef),(70,undef),(69,undef),(68,undef),(67,undef),(66,undef),(65,undef),(64,undef),(63,undef),(62,undef),(59,(.bool true)),(61,undef),(59,(.bool true)),(60,undef),(59,(.bool true)),(59,v57),(58,v57),(57,v57),(51,(.bool false)),(56,v56),(51,(.bool false)),(55,v55),(51,(.bool false)),(54,v54),(51,(.bool false)),(53,v36),(51,(.bool false)),(52,(e 0)),(51,(.bool false)),(51,v49),(50,v49),(49,v49),(43,(.bool false)),(48,v48),(43,(.bool false)),(47,v47),(43,(.bool false)),(46,v46),(43,(.bool false)),(45,v29),(43,(.bool false)),(44,(e 0)),(43,(.bool false)),(43,v41),(42,v41),(41,v41),(39,(.bool false)),(40,v36),(39,(.bool false)),(39,v38),(38,v38),(37,v29),(7,v36),(36,v36),(35,v35),(34,v34),(33,v33),(32,(e 5)),(31,(e 1)),(30,(e 0)),(6,v29),(29,v29),(28,v28),(27,v27),(26,v26),(25,(e 5)),(24,(e 1)),(23,(e 0)),(20,v20),(19,v19),(18,(e 1)),(17,(e 5))]) ds W4) (wV (cbin prog .gtr 3 true (e 5) (.int .i64 0)) fun v61=>wI v61 (wV (cbin prog .sub 3 true (e 5) (.int .i64 1)) fun v65=>wV (iad prog 23 (e 1) v65) fun v66=>wV (fad prog 58 v66 0) fun v67=>wV (ld prog 9 v67 W4) fun v68=>wV (iad prog 23 (e 1) (e 5)) fun v71=>wV (fad prog 58 v71 0) fun v72=>wV (ld prog 9 v72 W4) fun v73=>wV (cbin prog .geq 9 false v68 v73) fun v74=>(ld prog 9 v72 W4=some v73∧(ld prog 9 v67 W4=some v68∧(ld prog 5 v55 W4=some v56∧(ld prog 5 v47 W4=some v48∧True))))∧True∧(f99_k12 ro K) .normal (Env.of e [(76,v74),(75,v74),(59,(.bool false)),(74,v74),(62,(.bool true)),(73,v73),(62,(.bool true)),(72,v72),(62,(.bool true)),(71,v71),(62,(.bool true)),(70,(e 5)),(62,(.bool true)),(69,(e 1)),(62,(.bool true)),(68,v68),(62,(.bool true)),(67,v67),(62,(.bool true)),(66,v66),(62,(.bool true)),(65,v65),(62,(.bool true)),(64,(e 5)),(62,(.bool true)),(63,(e 1)),(62,(.bool true)),(62,v61),(59,(.bool false)),(61,v61),(59,(.bool false)),(60,(e 5)),(59,(.bool false)),(59,v57),(58,v57),(57,v57),(51,(.bool false)),(56,v56),(51,(.bool false)),(55,v55),(51,(.bool false)),(54,v54),(51,(.bool false)),(53,v36),(51,(.bool false)),(52,(e 0)),(51,(.bool false)),(51,v49),(50,v49),(49,v49),(43,(.bool false)),(48,v48),(43,(.bool false)),(47,v47),(43,(.bool false)),(46,v46),(43,(.bool false)),(45,v29),(43,(.bool false)),(44,(e 0)),(43,(.bool false)),(43,v41),(42,v41),(41,v41),(39,(.bool false)),(40,v36),(39,(.bool false)),(39,v38),(38,v38),(37,v29),(7,v36),(36,v36),(35,v35),(34,v34),(33,v33),(32,(e 5)),(31,(e 1)),(30,(e 0)),(6,v29),(29,v29),(28,v28),(27,v27),(26,v26),(25,(e 5)),(24,(e 1)),(23,(e 0)),(20,v20),(19,v19),(18,(e 1)),(17,(e 5))]) ds W4) ((ld prog 5 v55 W4=some v56∧(ld prog 5 v47 W4=some v48∧True))∧True∧(f99_k12 ro K) .normal (Env.of e [(76,(.bool false)),(75,(.bool false)),(59,(.bool false)),(74,undef),(62,(.bool false)),(73,undef),(62,(.bool false)),(72,undef),(62,(.bool false)),(71,undef),(62,(.bool false)),(70,undef),(62,(.bool false)),(69,undef),(62,(.bool false)),(68,undef),(62,(.bool false)),(67,undef),(62,(.bool false)),(66,undef),(62,(.bool false)),(65,undef),(62,(.bool false)),(64,undef),(62,(.bool false)),(63,undef),(62,(.bool false)),(62,v61),(59,(.bool false)),(61,v61),(59,(.bool false)),(60,(e 5)),(59,(.bool false)),(59,v57),(58,v57),(57,v57),(51,(.bool false)),(56,v56),(51,(.bool false)),(55,v55),(51,(.bool false)),(54,v54),(51,(.bool false)),(53,v36),(51,(.bool false)),(52,(e 0)),(51,(.bool false)),(51,v49),(50,v49),(49,v49),(43,(.bool false)),(48,v48),(43,(.bool false)),(47,v47),(43,(.bool false)),(46,v46),(43,(.bool false)),(45,v29),(43,(.bool false)),(44,(e 0)),(43,(.bool false)),(43,v41),(42,v41),(41,v41),(39,(.bool false)),(40,v36),(39,(.bool false)),(39,v38),(38,v38),(37,v29),(7,v36),(36,v36),(35,v35),(34,v34),(33,v33),(32,(e 5)),(31,(e 1)),(30,(e 0)),(6,v29),(29,v29),(28,v28),(27,v27),(26,v26),(25,(e 5)),(24,(e 1)),(23,(e 0)),(20,v20),(19,v19),(18,(e 1)),(17,(e 5))]) ds W4)))))) (fun ch5 W5=>(f99_k1 ro K) (.panic ch5) (Env.of e [(35,v35),(34,v34),(33,v33),(32,(e 5)),(31,(e 1)),(30,(e 0)),(6,v29),(29,v29),(28,v28),(27,v27),(26,v26),(25,(e 5)),(24,(e 1)),(23,(e 0)),(20,v20),(19,v19),(18,(e 1)),(17,(e 5))]) ds W5))) (fun ch3 W3=>(f99_k1 ro K) (.panic ch3) (Env.of e [(28,v28),(27,v27),(26,v26),(25,(e 5)),(24,(e 1)),(23,(e 0)),(20,v20),(19,v19),(18,(e 1)),(17,(e 5))]) ds W3))) (K (.exit 0) (Env.of e [(20,v20),(19,v19),(18,(e 1)),(17,(e 5))]) ds W)):=by kernel_rfl
def f99_k13 (ro:Option Nat) (K:Kont):Kont:=seqK (fun e ds W=>wV (cbin prog .add 3 true (e 8) (.int .i64 1)) fun v82=>K .normal (Env.of e [(8,v82),(82,v82),(81,(e 8))]) ds W) K
def f99_k14 (ro:Option Nat) (K:Kont):Kont:=seqK (fun e ds W=>wI (e 111) ((f99_k13 ro K) .ret (Env.of e [(4,(.bool false))]) ds W) ((f99_k13 ro K) .normal e ds W)) (blkK 3 (f99_k13 ro K))
theorem f99_l1 (ro:Option Nat) (e:Env) (ds:List Deferred) (K:Kont) (W:CW):wCode prog pkL ro 99 175 (loopAt prog 99 1) e ds W K=(wV (clen prog 23 (e 1) W) fun v79=>wV (cbin prog .lss 3 false (e 8) v79) fun v80=>wI v80 (wV (iad prog 23 (e 1) (e 8)) fun v85=>wV (fad prog 58 v85 0) fun v86=>wV (ld prog 9 v86 W) fun v87=>wV (iad prog 23 (e 1) (e 5)) fun v90=>wV (fad prog 58 v90 1) fun v91=>wV (ld prog 9 v91 W) fun v92=>wV (cbin prog .eql 9 false v87 v92) fun v93=>wI v93 ((ld prog 9 v91 W=some v92∧(ld prog 9 v86 W=some v87∧True))∧True∧(f99_k14 ro K) .normal (Env.of e [(111,(.bool true)),(110,undef),(94,(.bool true)),(109,undef),(108,undef),(107,undef),(106,undef),(105,undef),(104,undef),(103,undef),(102,undef),(101,undef),(100,undef),(99,undef),(98,undef),(94,(.bool true)),(97,undef),(94,(.bool true)),(96,undef),(94,(.bool true)),(95,undef),(94,(.bool true)),(94,v93),(93,v93),(92,v92),(91,v91),(90,v90),(89,(e 5)),(88,(e 1)),(87,v87),(86,v86),(85,v85),(84,(e 8)),(83,(e 1)),(80,v80),(79,v79),(78,(e 1)),(77,(e 8))]) ds W) (wV (cbin prog .lss 3 false (e 8) (e 5)) fun v97=>wI v97 (wV (iad prog 23 (e 1) (e 8)) fun v101=>wV (fad prog 58 v101 1) fun v102=>wV (ld prog 9 v102 W) fun v103=>wV (iad prog 23 (e 1) (e 5)) fun v106=>wV (fad prog 58 v106 1) fun v107=>wV (ld prog 9 v107 W) fun v108=>wV (cbin prog .eql 9 false v103 v108) fun v109=>(ld prog 9 v107 W=some v108∧(ld prog 9 v102 W=some v103∧(ld prog 9 v91 W=some v92∧(ld prog 9 v86 W=some v87∧True))))∧True∧(f99_k14 ro K) .normal (Env.of e [(111,v109),(110,v109),(94,(.bool false)),(109,v109),(98,(.bool true)),(108,v108),(98,(.bool true)),(107,v107),(98,(.bool true)),(106,v106),(98,(.bool true)),(105,(e 5)),(98,(.bool true)),(104,(e 1)),(98,(.bool true)),(103,v103),(98,(.bool true)),(102,v102),(98,(.bool true)),(101,v101),(98,(.bool true)),(100,(e 8)),(98,(.bool true)),(99,(e 1)),(98,(.bool true)),(98,v97),(94,(.bool false)),(97,v97),(94,(.bool false)),(96,(e 5)),(94,(.bool false)),(95,(e 8)),(94,(.bool false)),(94,v93),(93,v93),(92,v92),(91,v91),(90,v90),(89,(e 5)),(88,(e 1)),(87,v87),(86,v86),(85,v85),(84,(e 8)),(83,(e 1)),(80,v80),(79,v79),(78,(e 1)),(77,(e 8))]) ds W) ((ld prog 9 v91 W=some v92∧(ld prog 9 v86 W=some v87∧True))∧True∧(f99_k14 ro K) .normal (Env.of e [(111,(.bool false)),(110,(.bool false)),(94,(.bool false)),(109,undef),(98,(.bool false)),(108,undef),(98,(.bool false)),(107,undef),(98,(.bool false)),(106,undef),(98,(.bool false)),(105,undef),(98,(.bool false)),(104,undef),(98,(.bool false)),(103,undef),(98,(.bool false)),(102,undef),(98,(.bool false)),(101,undef),(98,(.bool false)),(100,undef),(98,(.bool false)),(99,undef),(98,(.bool false)),(98,v97),(94,(.bool false)),(97,v97),(94,(.bool false)),(96,(e 5)),(94,(.bool false)),(95,(e 8)),(94,(.bool false)),(94,v93),(93,v93),(92,v92),(91,v91),(90,v90),(89,(e 5)),(88,(e 1)),(87,v87),(86,v86),(85,v85),(84,(e 8)),(83,(e 1)),(80,v80),(79,v79),(78,(e 1)),(77,(e 8))]) ds W))) (K (.exit 2) (Env.of e [(80,v80),(79,v79),(78,(e 1)),(77,(e 8))]) ds W)):=by kernel_rfl
def f99_k15 (ro:Option Nat) (K:Kont):Kont:=seqK (fun e ds W=>wV (cbin prog .add 3 true (e 11) (.int .i64 1)) fun v132=>K .normal (Env.of e [(11,v132),(132,v132),(131,(e 11))]) ds W) K
def f99_k16 (ro:Option Nat) (K:Kont):Kont:=seqK (fun e ds W=>WEnv prog pkL ro 99 175 (.loop (loopAt prog 99 3)) (Env.of e [(13,(.int .i64 0))]) ds W (blkK 6 (blkK 5 (f99_k15 ro K)))) (blkK 5 (f99_k15 ro K))
def f99_k17 (ro:Option Nat) (K:Kont):Kont:=seqK (fun e ds W=>wI (e 159) ((f99_k16 ro K) .ret (Env.of e [(4,(.bool false))]) ds W) ((f99_k16 ro K) .normal e ds W)) (f99_k16 ro K)
theorem f99_l2 (ro:Option Nat) (e:Env) (ds:List Deferred) (K:Kont) (W:CW):wCode prog pkL ro 99 175 (loopAt prog 99 2) e ds W K=(wV (clen prog 29 (e 10) W) fun v129=>wV (cbin prog .lss 3 false (e 11) v129) fun v130=>wI v130 (wV (iad prog 23 (e 1) (e 5)) fun v135=>wV (fad prog 58 v135 2) fun v136=>wV (ld prog 40 v136 W) fun v137=>wV (iad prog 40 v137 (e 11)) fun v139=>wV (ld prog 3 v139 W) fun v140=>wV (cbin prog .lss 3 true v140 (.int .i64 0)) fun v142=>wI v142 (True∧True∧(f99_k17 ro K) .normal (Env.of e [(159,(.bool true)),(158,undef),(149,(.bool true)),(157,undef),(149,(.bool true)),(156,undef),(149,(.bool true)),(155,undef),(149,(.bool true)),(154,undef),(149,(.bool true)),(153,undef),(149,(.bool true)),(152,undef),(149,(.bool true)),(151,undef),(149,(.bool true)),(150,undef),(149,(.bool true)),(149,(.bool true)),(148,(.bool true)),(147,undef),(143,(.bool true)),(146,undef),(143,(.bool true)),(145,undef),(143,(.bool true)),(144,undef),(143,(.bool true)),(143,v142),(142,v142),(141,v140),(12,v140),(140,v140),(139,v139),(138,(e 11)),(137,v137),(136,v136),(135,v135),(134,(e 5)),(133,(e 1)),(130,v130),(129,v129),(128,(e 10)),(127,(e 11))]) ds W) (wV (clen prog 29 (e 9) W) fun v146=>wV (cbin prog .geq 3 false v140 v146) fun v147=>wI v147 ((clen prog 29 (e 9) W=some v146∧True)∧True∧(f99_k17 ro K) .normal (Env.of e [(159,(.bool true)),(158,undef),(149,(.bool true)),(157,undef),(149,(.bool true)),(156,undef),(149,(.bool true)),(155,undef),(149,(.bool true)),(154,undef),(149,(.bool true)),(153,undef),(149,(.bool true)),(152,undef),(149,(.bool true)),(151,undef),(149,(.bool true)),(150,undef),(149,(.bool true)),(149,v147),(148,v147),(147,v147),(143,(.bool false)),(146,v146),(143,(.bool false)),(145,(e 9)),(143,(.bool false)),(144,v140),(143,(.bool false)),(143,v142),(142,v142),(141,v140),(12,v140),(140,v140),(139,v139),(138,(e 11)),(137,v137),(136,v136),(135,v135),(134,(e 5)),(133,(e 1)),(130,v130),(129,v129),(128,(e 10)),(127,(e 11))]) ds W) (wV (iad prog 29 (e 9) v140) fun v152=>wV (ld prog 5 v152 W) fun v153=>wV (iad prog 29 (e 10) (e 11)) fun v156=>wV (ld prog 5 v156 W) fun v157=>wV (cbin prog .neq 5 false v153 v157) fun v158=>(ld prog 5 v156 W=some v157∧(ld prog 5 v152 W=some v153∧(clen prog 29 (e 9) W=some v146∧True)))∧True∧(f99_k17 ro K) .normal (Env.of e [(159,v158),(158,v158),(149,(.bool false)),(157,v157),(149,(.bool false)),(156,v156),(149,(.bool false)),(155,(e 11)),(149,(.bool false)),(154,(e 10)),(149,(.bool false)),(153,v153),(149,(.bool false)),(152,v152),(149,(.bool false)),(151,v140),(149,(.bool false)),(150,(e 9)),(149,(.bool false)),(149,v147),(148,v147),(147,v147),(143,(.bool false)),(146,v146),(143,(.bool false)),(145,(e 9)),(143,(.bool false)),(144,v140),(143,(.bool false)),(143,v142),(142,v142),(141,v140),(12,v140),(140,v140),(139,v139),(138,(e 11)),(137,v137),(136,v136),(135,v135),(134,(e 5)),(133,(e 1)),(130,v130),(129,v129),(128,(e 10)),(127,(e 11))]) ds W))) (K (.exit 4) (Env.of e [(130,v130),(129,v129),(128,(e 10)),(127,(e 11))]) ds W)):=by kernel_rfl
def f99_k18 (ro:Option Nat) (K:Kont):Kont:=seqK (fun e ds W=>wV (cbin prog .add 3 true (e 13) (.int .i64 1)) fun v164=>K .normal (Env.of e [(13,v164),(164,v164),(163,(e 13))]) ds W) K
theorem f99_l3 (ro:Option Nat) (e:Env) (ds:List Deferred) (K:Kont) (W:CW):wCode prog pkL ro 99 175 (loopAt prog 99 3) e ds W K=(wV (cbin prog .lss 3 false (e 13) (e 11)) fun v162=>wI v162 (wV (iad prog 23 (e 1) (e 5)) fun v167=>wV (fad prog 58 v167 2) fun v168=>wV (ld prog 40 v168 W) fun v169=>wV (iad prog 40 v169 (e 13)) fun v171=>wV (ld prog 3 v171 W) fun v172=>wV (cbin prog .eql 3 false v172 (e 12)) fun v174=>wI v174 ((f99_k18 ro K) .ret (Env.of e [(4,(.bool false)),(174,v174),(173,(e 12)),(172,v172),(171,v171),(170,(e 13)),(169,v169),(168,v168),(167,v167),(166,(e 5)),(165,(e 1)),(162,v162),(161,(e 11)),(160,(e 13))]) ds W) ((f99_k18 ro K) .normal (Env.of e [(174,v174),(173,(e 12)),(172,v172),(171,v171),(170,(e 13)),(169,v169),(168,v168),(167,v167),(166,(e 5)),(165,(e 1)),(162,v162),(161,(e 11)),(160,(e 13))]) ds W)) (K (.exit 6) (Env.of e [(162,v162),(161,(e 11)),(160,(e 13))]) ds W)):=by kernel_rfl
theorem f99_leave (Q:Ending→CW→Prop) (e:Env) (W:CW):wLeave prog Tryz.f99 Q .ret e [] W=Q (.returned (e 4)) W:=by kernel_rfl
theorem f99_w {Q:Ending→CW→Prop} {v0 v1:Value} {W:CW} (h:wCode prog pkL none 99 175 (bodyOf prog 99) (Env.args [v0,v1]) [] W (wLeave prog Tryz.f99 Q)):WCall prog pkL 99 [v0,v1] W Q:=wCall_of Tryz.func99 (by kernel_rfl) (by kernel_rfl) (by kernel_rfl) (by kernel_rfl) (by kernel_rfl) h
def f122_k3 (ro:Option Nat) (K:Kont):Kont:=seqK (fun e ds W=>K .ret (Env.of e [(6,(.bool true))]) ds W) K
def f122_k4 (ro:Option Nat) (K:Kont):Kont:=seqK (fun e ds W=>WEnv prog pkL ro 122 89 (.loop (loopAt prog 122 0)) (Env.of e [(8,(.int .i64 0))]) ds W (blkK 0 (f122_k3 ro K))) K
def f122_k5 (ro:Option Nat) (K:Kont):Kont:=seqK (fun e ds W=>wI (e 47) ((f122_k4 ro K) .ret (Env.of e [(6,(.bool false))]) ds W) ((f122_k4 ro K) .normal e ds W)) (f122_k4 ro K)
theorem f122_c (v0 v1 v2:Value) (K:Kont) (W:CW):wCode prog pkL none 122 89 (bodyOf prog 122) (Env.args [v0,v1,v2]) [] W K=(wVW (bxw prog 56 v1 W) fun v4 W0=>wV (fad prog 56 v4 0) fun v11=>wV (ld prog 9 v11 W0) fun v12=>WCall prog pkL 69 [v0,v12] W0 (onEnd (fun v13 W1=>wV (cbin prog .lss 3 true v13 (.int .i64 0)) fun v15=>wI v15 (True∧True∧(f122_k5 none K) .normal (Env.of (Env.args [v0,v1,v2]) [(47,(.bool true)),(46,undef),(30,(.bool true)),(45,undef),(44,undef),(43,undef),(42,undef),(41,undef),(40,undef),(39,undef),(38,undef),(37,undef),(30,(.bool true)),(36,undef),(30,(.bool true)),(35,undef),(30,(.bool true)),(34,undef),(30,(.bool true)),(33,undef),(30,(.bool true)),(32,undef),(30,(.bool true)),(31,undef),(30,(.bool true)),(30,(.bool true)),(29,(.bool true)),(28,undef),(16,(.bool true)),(27,undef),(26,undef),(25,undef),(24,undef),(23,undef),(16,(.bool true)),(22,undef),(16,(.bool true)),(21,undef),(16,(.bool true)),(20,undef),(16,(.bool true)),(19,undef),(16,(.bool true)),(18,undef),(16,(.bool true)),(17,undef),(16,(.bool true)),(16,v15),(15,v15),(14,v13),(7,v13),(13,v13),(12,v12),(11,v11),(10,v0),(6,(.bool false)),(4,v4)]) [] W1) (wV (iad prog 22 v0 v13) fun v19=>wV (fad prog 48 v19 3) fun v20=>wV (ld prog 5 v20 W1) fun v21=>wV (cbin prog .neq 5 true v21 (.int .u8 0)) fun v22=>wI v22 (wV (fad prog 56 v4 1) fun v24=>wV (ld prog 40 v24 W1) fun v25=>wV (clen prog 40 v25 W1) fun v26=>wV (cbin prog .gtr 3 true v26 (.int .i64 200)) fun v27=>wI v27 ((clen prog 40 v25 W1=some v26∧(ld prog 40 v24 W1=some v25∧(ld prog 5 v20 W1=some v21∧True)))∧True∧(f122_k5 none K) .normal (Env.of (Env.args [v0,v1,v2]) [(47,(.bool true)),(46,undef),(30,(.bool true)),(45,undef),(44,undef),(43,undef),(42,undef),(41,undef),(40,undef),(39,undef),(38,undef),(37,undef),(30,(.bool true)),(36,undef),(30,(.bool true)),(35,undef),(30,(.bool true)),(34,undef),(30,(.bool true)),(33,undef),(30,(.bool true)),(32,undef),(30,(.bool true)),(31,undef),(30,(.bool true)),(30,v27),(29,v27),(28,v27),(16,(.bool false)),(27,v27),(23,(.bool true)),(26,v26),(23,(.bool true)),(25,v25),(23,(.bool true)),(24,v24),(23,(.bool true)),(23,v22),(16,(.bool false)),(22,v22),(16,(.bool false)),(21,v21),(16,(.bool false)),(20,v20),(16,(.bool false)),(19,v19),(16,(.bool false)),(18,v13),(16,(.bool false)),(17,v0),(16,(.bool false)),(16,v15),(15,v15),(14,v13),(7,v13),(13,v13),(12,v12),(11,v11),(10,v0),(6,(.bool false)),(4,v4)]) [] W1) (wV (iad prog 22 v0 v13) fun v33=>wV (fad prog 48 v33 3) fun v34=>wV (ld prog 5 v34 W1) fun v35=>wV (cbin prog .eql 5 true v35 (.int .u8 0)) fun v36=>wI v36 (wV (fad prog 56 v4 1) fun v38=>wV (ld prog 40 v38 W1) fun v39=>wV (clen prog 40 v39 W1) fun v40=>WCall prog pkL 88 [v0,v13] W1 (onEnd (fun v43 W6=>wV (clen prog 29 v43 W6) fun v44=>wV (cbin prog .neq 3 false v40 v44) fun v45=>(((clen prog 29 v43 W6=some v44)∧True)∧(((clen prog 40 v39 W6=some v40)∧clen prog 40 v39 W1=some v40)∧(((ld prog 40 v38 W6=some v39)∧ld prog 40 v38 W1=some v39)∧(((True)∧ld prog 5 v34 W1=some v35)∧(((True)∧clen prog 40 v25 W1=some v26)∧(((True)∧ld prog 40 v24 W1=some v25)∧(((True)∧ld prog 5 v20 W1=some v21)∧True)))))))∧True∧(f122_k5 none K) .normal (Env.of (Env.args [v0,v1,v2]) [(47,v45),(46,v45),(30,(.bool false)),(45,v45),(37,(.bool true)),(44,v44),(37,(.bool true)),(43,v43),(37,(.bool true)),(42,v13),(37,(.bool true)),(41,v0),(37,(.bool true)),(40,v40),(37,(.bool true)),(39,v39),(37,(.bool true)),(38,v38),(37,(.bool true)),(37,v36),(30,(.bool false)),(36,v36),(30,(.bool false)),(35,v35),(30,(.bool false)),(34,v34),(30,(.bool false)),(33,v33),(30,(.bool false)),(32,v13),(30,(.bool false)),(31,v0),(30,(.bool false)),(30,v27),(29,v27),(28,v27),(16,(.bool false)),(27,v27),(23,(.bool true)),(26,v26),(23,(.bool true)),(25,v25),(23,(.bool true)),(24,v24),(23,(.bool true)),(23,v22),(16,(.bool false)),(22,v22),(16,(.bool false)),(21,v21),(16,(.bool false)),(20,v20),(16,(.bool false)),(19,v19),(16,(.bool false)),(18,v13),(16,(.bool false)),(17,v0),(16,(.bool false)),(16,v15),(15,v15),(14,v13),(7,v13),(13,v13),(12,v12),(11,v11),(10,v0),(6,(.bool false)),(4,v4)]) [] W6) (fun ch7 W7=>False))) ((ld prog 5 v34 W1=some v35∧(clen prog 40 v25 W1=some v26∧(ld prog 40 v24 W1=some v25∧(ld prog 5 v20 W1=some v21∧True))))∧True∧(f122_k5 none K) .normal (Env.of (Env.args [v0,v1,v2]) [(47,(.bool false)),(46,(.bool false)),(30,(.bool false)),(45,undef),(37,(.bool false)),(44,undef),(37,(.bool false)),(43,undef),(37,(.bool false)),(42,undef),(37,(.bool false)),(41,undef),(37,(.bool false)),(40,undef),(37,(.bool false)),(39,undef),(37,(.bool false)),(38,undef),(37,(.bool false)),(37,v36),(30,(.bool false)),(36,v36),(30,(.bool false)),(35,v35),(30,(.bool false)),(34,v34),(30,(.bool false)),(33,v33),(30,(.bool false)),(32,v13),(30,(.bool false)),(31,v0),(30,(.bool false)),(30,v27),(29,v27),(28,v27),(16,(.bool false)),(27,v27),(23,(.bool true)),(26,v26),(23,(.bool true)),(25,v25),(23,(.bool true)),(24,v24),(23,(.bool true)),(23,v22),(16,(.bool false)),(22,v22),(16,(.bool false)),(21,v21),(16,(.bool false)),(20,v20),(16,(.bool false)),(19,v19),(16,(.bool false)),(18,v13),(16,(.bool false)),(17,v0),(16,(.bool false)),(16,v15),(15,v15),(14,v13),(7,v13),(13,v13),(12,v12),(11,v11),(10,v0),(6,(.bool false)),(4,v4)]) [] W1))) (wV (iad prog 22 v0 v13) fun v33=>wV (fad prog 48 v33 3) fun v34=>wV (ld prog 5 v34 W1) fun v35=>wV (cbin prog .eql 5 true v35 (.int .u8 0)) fun v36=>wI v36 (wV (fad prog 56 v4 1) fun v38=>wV (ld prog 40 v38 W1) fun v39=>wV (clen prog 40 v39 W1) fun v40=>WCall prog pkL 88 [v0,v13] W1 (onEnd (fun v43 W8=>wV (clen prog 29 v43 W8) fun v44=>wV (cbin prog .neq 3 false v40 v44) fun v45=>(((clen prog 29 v43 W8=some v44)∧True)∧(((clen prog 40 v39 W8=some v40)∧clen prog 40 v39 W1=some v40)∧(((ld prog 40 v38 W8=some v39)∧ld prog 40 v38 W1=some v39)∧(((True)∧ld prog 5 v34 W1=some v35)∧(((True)∧ld prog 5 v20 W1=some v21)∧True)))))∧True∧(f122_k5 none K) .normal (Env.of (Env.args [v0,v1,v2]) [(47,v45),(46,v45),(30,(.bool false)),(45,v45),(37,(.bool true)),(44,v44),(37,(.bool true)),(43,v43),(37,(.bool true)),(42,v13),(37,(.bool true)),(41,v0),(37,(.bool true)),(40,v40),(37,(.bool true)),(39,v39),(37,(.bool true)),(38,v38),(37,(.bool true)),(37,v36),(30,(.bool false)),(36,v36),(30,(.bool false)),(35,v35),(30,(.bool false)),(34,v34),(30,(.bool false)),(33,v33),(30,(.bool false)),(32,v13),(30,(.bool false)),(31,v0),(30,(.bool false)),(30,(.bool false)),(29,(.bool false)),(28,(.bool false)),(16,(.bool false)),(27,undef),(23,(.bool false)),(26,undef),(23,(.bool false)),(25,undef),(23,(.bool false)),(24,undef),(23,(.bool false)),(23,v22),(16,(.bool false)),(22,v22),(16,(.bool false)),(21,v21),(16,(.bool false)),(20,v20),(16,(.bool false)),(19,v19),(16,(.bool false)),(18,v13),(16,(.bool false)),(17,v0),(16,(.bool false)),(16,v15),(15,v15),(14,v13),(7,v13),(13,v13),(12,v12),(11,v11),(10,v0),(6,(.bool false)),(4,v4)]) [] W8) (fun ch9 W9=>False))) ((ld prog 5 v34 W1=some v35∧(ld prog 5 v20 W1=some v21∧True))∧True∧(f122_k5 none K) .normal (Env.of (Env.args [v0,v1,v2]) [(47,(.bool false)),(46,(.bool false)),(30,(.bool false)),(45,undef),(37,(.bool false)),(44,undef),(37,(.bool false)),(43,undef),(37,(.bool false)),(42,undef),(37,(.bool false)),(41,undef),(37,(.bool false)),(40,undef),(37,(.bool false)),(39,undef),(37,(.bool false)),(38,undef),(37,(.bool false)),(37,v36),(30,(.bool false)),(36,v36),(30,(.bool false)),(35,v35),(30,(.bool false)),(34,v34),(30,(.bool false)),(33,v33),(30,(.bool false)),(32,v13),(30,(.bool false)),(31,v0),(30,(.bool false)),(30,(.bool false)),(29,(.bool false)),(28,(.bool false)),(16,(.bool false)),(27,undef),(23,(.bool false)),(26,undef),(23,(.bool false)),(25,undef),(23,(.bool false)),(24,undef),(23,(.bool false)),(23,v22),(16,(.bool false)),(22,v22),(16,(.bool false)),(21,v21),(16,(.bool false)),(20,v20),(16,(.bool false)),(19,v19),(16,(.bool false)),(18,v13),(16,(.bool false)),(17,v0),(16,(.bool false)),(16,v15),(15,v15),(14,v13),(7,v13),(13,v13),(12,v12),(11,v11),(10,v0),(6,(.bool false)),(4,v4)]) [] W1)))) (fun ch2 W2=>K (.panic ch2) (Env.of (Env.args [v0,v1,v2]) [(12,v12),(11,v11),(10,v0),(6,(.bool false)),(4,v4)]) [] W2))):=by kernel_rfl
def f122_k10 (ro:Option Nat) (K:Kont):Kont:=seqK (fun e ds W=>wV (cbin prog .add 3 true (e 8) (.int .i64 1)) fun v54=>K .normal (Env.of e [(8,v54),(54,v54),(53,(e 8))]) ds W) K
def f122_k11 (ro:Option Nat) (K:Kont):Kont:=seqK (fun e ds W=>wI (e 88) ((f122_k10 ro K) .ret (Env.of e [(6,(.bool false))]) ds W) ((f122_k10 ro K) .normal e ds W)) (blkK 1 (f122_k10 ro K))
theorem f122_l0 (ro:Option Nat) (e:Env) (ds:List Deferred) (K:Kont) (W:CW):wCode prog pkL ro 122 89 (loopAt prog 122 0) e ds W K=(wV (fad prog 56 (e 4) 1) fun v49=>wV (ld prog 40 v49 W) fun v50=>wV (clen prog 40 v50 W) fun v51=>wV (cbin prog .lss 3 false (e 8) v51) fun v52=>wI v52 (wV (fad prog 56 (e 4) 1) fun v55=>wV (ld prog 40 v55 W) fun v56=>wV (iad prog 40 v56 (e 8)) fun v58=>wV (ld prog 3 v58 W) fun v59=>WCall prog pkL 70 [(e 0),(e 7),(e 8)] W (onEnd (fun v63 W12=>wV (cbin prog .eql 5 true v63 (.int .u8 1)) fun v64=>wI v64 (wV (cbin prog .lss 3 true v59 (.int .i64 (-1000000000))) fun v67=>wI v67 ((f122_k11 ro K) .normal (Env.of e [(88,(.bool true)),(87,undef),(73,(.bool true)),(86,undef),(85,undef),(84,undef),(83,undef),(82,undef),(81,undef),(80,undef),(79,undef),(73,(.bool true)),(78,undef),(73,(.bool true)),(77,undef),(73,(.bool true)),(76,undef),(73,(.bool true)),(75,undef),(73,(.bool true)),(74,undef),(73,(.bool true)),(73,(.bool true)),(72,(.bool true)),(71,(.bool true)),(65,(.bool true)),(70,undef),(68,(.bool true)),(69,undef),(68,(.bool true)),(68,v67),(65,(.bool true)),(67,v67),(65,(.bool true)),(66,v59),(65,(.bool true)),(65,v64),(64,v64),(63,v63),(62,(e 8)),(61,(e 7)),(60,(e 0)),(9,v59),(59,v59),(58,v58),(57,(e 8)),(56,v56),(55,v55),(52,v52),(51,v51),(50,v50),(49,v49),(48,(e 8))]) ds W12) (wV (cbin prog .gtr 3 true v59 (.int .i64 1000000000)) fun v70=>wI v70 ((f122_k11 ro K) .normal (Env.of e [(88,(.bool true)),(87,undef),(73,(.bool true)),(86,undef),(85,undef),(84,undef),(83,undef),(82,undef),(81,undef),(80,undef),(79,undef),(73,(.bool true)),(78,undef),(73,(.bool true)),(77,undef),(73,(.bool true)),(76,undef),(73,(.bool true)),(75,undef),(73,(.bool true)),(74,undef),(73,(.bool true)),(73,v70),(72,v70),(71,v70),(65,(.bool true)),(70,v70),(68,(.bool false)),(69,v59),(68,(.bool false)),(68,v67),(65,(.bool true)),(67,v67),(65,(.bool true)),(66,v59),(65,(.bool true)),(65,v64),(64,v64),(63,v63),(62,(e 8)),(61,(e 7)),(60,(e 0)),(9,v59),(59,v59),(58,v58),(57,(e 8)),(56,v56),(55,v55),(52,v52),(51,v51),(50,v50),(49,v49),(48,(e 8))]) ds W12) (WCall prog pkL 70 [(e 0),(e 7),(e 8)] W12 (onEnd (fun v77 W14=>wV (cbin prog .eql 5 true v77 (.int .u8 2)) fun v78=>wI v78 (wV (cbin prog .lss 3 true v59 (.int .i64 0)) fun v81=>wI v81 ((f122_k11 ro K) .normal (Env.of e [(88,(.bool true)),(87,(.bool true)),(73,(.bool false)),(86,(.bool true)),(79,(.bool true)),(85,undef),(82,(.bool true)),(84,undef),(82,(.bool true)),(83,undef),(82,(.bool true)),(82,v81),(79,(.bool true)),(81,v81),(79,(.bool true)),(80,v59),(79,(.bool true)),(79,v78),(73,(.bool false)),(78,v78),(73,(.bool false)),(77,v77),(73,(.bool false)),(76,(e 8)),(73,(.bool false)),(75,(e 7)),(73,(.bool false)),(74,(e 0)),(73,(.bool false)),(73,v70),(72,v70),(71,v70),(65,(.bool true)),(70,v70),(68,(.bool false)),(69,v59),(68,(.bool false)),(68,v67),(65,(.bool true)),(67,v67),(65,(.bool true)),(66,v59),(65,(.bool true)),(65,v64),(64,v64),(63,v63),(62,(e 8)),(61,(e 7)),(60,(e 0)),(9,v59),(59,v59),(58,v58),(57,(e 8)),(56,v56),(55,v55),(52,v52),(51,v51),(50,v50),(49,v49),(48,(e 8))]) ds W14) (wV (cbin prog .gtr 3 false v59 (e 2)) fun v85=>(f122_k11 ro K) .normal (Env.of e [(88,v85),(87,v85),(73,(.bool false)),(86,v85),(79,(.bool true)),(85,v85),(82,(.bool false)),(84,(e 2)),(82,(.bool false)),(83,v59),(82,(.bool false)),(82,v81),(79,(.bool true)),(81,v81),(79,(.bool true)),(80,v59),(79,(.bool true)),(79,v78),(73,(.bool false)),(78,v78),(73,(.bool false)),(77,v77),(73,(.bool false)),(76,(e 8)),(73,(.bool false)),(75,(e 7)),(73,(.bool false)),(74,(e 0)),(73,(.bool false)),(73,v70),(72,v70),(71,v70),(65,(.bool true)),(70,v70),(68,(.bool false)),(69,v59),(68,(.bool false)),(68,v67),(65,(.bool true)),(67,v67),(65,(.bool true)),(66,v59),(65,(.bool true)),(65,v64),(64,v64),(63,v63),(62,(e 8)),(61,(e 7)),(60,(e 0)),(9,v59),(59,v59),(58,v58),(57,(e 8)),(56,v56),(55,v55),(52,v52),(51,v51),(50,v50),(49,v49),(48,(e 8))]) ds W14)) ((f122_k11 ro K) .normal (Env.of e [(88,(.bool false)),(87,(.bool false)),(73,(.bool false)),(86,undef),(79,(.bool false)),(85,undef),(84,undef),(83,undef),(82,undef),(79,(.bool false)),(81,undef),(79,(.bool false)),(80,undef),(79,(.bool false)),(79,v78),(73,(.bool false)),(78,v78),(73,(.bool false)),(77,v77),(73,(.bool false)),(76,(e 8)),(73,(.bool false)),(75,(e 7)),(73,(.bool false)),(74,(e 0)),(73,(.bool false)),(73,v70),(72,v70),(71,v70),(65,(.bool true)),(70,v70),(68,(.bool false)),(69,v59),(68,(.bool false)),(68,v67),(65,(.bool true)),(67,v67),(65,(.bool true)),(66,v59),(65,(.bool true)),(65,v64),(64,v64),(63,v63),(62,(e 8)),(61,(e 7)),(60,(e 0)),(9,v59),(59,v59),(58,v58),(57,(e 8)),(56,v56),(55,v55),(52,v52),(51,v51),(50,v50),(49,v49),(48,(e 8))]) ds W14)) (fun ch15 W15=>(f122_k11 ro K) (.panic ch15) (Env.of e [(73,(.bool false)),(76,(e 8)),(73,(.bool false)),(75,(e 7)),(73,(.bool false)),(74,(e 0)),(73,(.bool false)),(73,v70),(72,v70),(71,v70),(65,(.bool true)),(70,v70),(68,(.bool false)),(69,v59),(68,(.bool false)),(68,v67),(65,(.bool true)),(67,v67),(65,(.bool true)),(66,v59),(65,(.bool true)),(65,v64),(64,v64),(63,v63),(62,(e 8)),(61,(e 7)),(60,(e 0)),(9,v59),(59,v59),(58,v58),(57,(e 8)),(56,v56),(55,v55),(52,v52),(51,v51),(50,v50),(49,v49),(48,(e 8))]) ds W15))))) (WCall prog pkL 70 [(e 0),(e 7),(e 8)] W12 (onEnd (fun v77 W16=>wV (cbin prog .eql 5 true v77 (.int .u8 2)) fun v78=>wI v78 (wV (cbin prog .lss 3 true v59 (.int .i64 0)) fun v81=>wI v81 ((f122_k11 ro K) .normal (Env.of e [(88,(.bool true)),(87,(.bool true)),(73,(.bool false)),(86,(.bool true)),(79,(.bool true)),(85,undef),(82,(.bool true)),(84,undef),(82,(.bool true)),(83,undef),(82,(.bool true)),(82,v81),(79,(.bool true)),(81,v81),(79,(.bool true)),(80,v59),(79,(.bool true)),(79,v78),(73,(.bool false)),(78,v78),(73,(.bool false)),(77,v77),(73,(.bool false)),(76,(e 8)),(73,(.bool false)),(75,(e 7)),(73,(.bool false)),(74,(e 0)),(73,(.bool false)),(73,(.bool false)),(72,(.bool false)),(71,undef),(65,(.bool false)),(70,undef),(69,undef),(68,undef),(65,(.bool false)),(67,undef),(65,(.bool false)),(66,undef),(65,(.bool false)),(65,v64),(64,v64),(63,v63),(62,(e 8)),(61,(e 7)),(60,(e 0)),(9,v59),(59,v59),(58,v58),(57,(e 8)),(56,v56),(55,v55),(52,v52),(51,v51),(50,v50),(49,v49),(48,(e 8))]) ds W16) (wV (cbin prog .gtr 3 false v59 (e 2)) fun v85=>(f122_k11 ro K) .normal (Env.of e [(88,v85),(87,v85),(73,(.bool false)),(86,v85),(79,(.bool true)),(85,v85),(82,(.bool false)),(84,(e 2)),(82,(.bool false)),(83,v59),(82,(.bool false)),(82,v81),(79,(.bool true)),(81,v81),(79,(.bool true)),(80,v59),(79,(.bool true)),(79,v78),(73,(.bool false)),(78,v78),(73,(.bool false)),(77,v77),(73,(.bool false)),(76,(e 8)),(73,(.bool false)),(75,(e 7)),(73,(.bool false)),(74,(e 0)),(73,(.bool false)),(73,(.bool false)),(72,(.bool false)),(71,undef),(65,(.bool false)),(70,undef),(69,undef),(68,undef),(65,(.bool false)),(67,undef),(65,(.bool false)),(66,undef),(65,(.bool false)),(65,v64),(64,v64),(63,v63),(62,(e 8)),(61,(e 7)),(60,(e 0)),(9,v59),(59,v59),(58,v58),(57,(e 8)),(56,v56),(55,v55),(52,v52),(51,v51),(50,v50),(49,v49),(48,(e 8))]) ds W16)) ((f122_k11 ro K) .normal (Env.of e [(88,(.bool false)),(87,(.bool false)),(73,(.bool false)),(86,undef),(79,(.bool false)),(85,undef),(84,undef),(83,undef),(82,undef),(79,(.bool false)),(81,undef),(79,(.bool false)),(80,undef),(79,(.bool false)),(79,v78),(73,(.bool false)),(78,v78),(73,(.bool false)),(77,v77),(73,(.bool false)),(76,(e 8)),(73,(.bool false)),(75,(e 7)),(73,(.bool false)),(74,(e 0)),(73,(.bool false)),(73,(.bool false)),(72,(.bool false)),(71,undef),(65,(.bool false)),(70,undef),(69,undef),(68,undef),(65,(.bool false)),(67,undef),(65,(.bool false)),(66,undef),(65,(.bool false)),(65,v64),(64,v64),(63,v63),(62,(e 8)),(61,(e 7)),(60,(e 0)),(9,v59),(59,v59),(58,v58),(57,(e 8)),(56,v56),(55,v55),(52,v52),(51,v51),(50,v50),(49,v49),(48,(e 8))]) ds W16)) (fun ch17 W17=>(f122_k11 ro K) (.panic ch17) (Env.of e [(73,(.bool false)),(76,(e 8)),(73,(.bool false)),(75,(e 7)),(73,(.bool false)),(74,(e 0)),(73,(.bool false)),(73,(.bool false)),(72,(.bool false)),(71,undef),(65,(.bool false)),(70,undef),(69,undef),(68,undef),(65,(.bool false)),(67,undef),(65,(.bool false)),(66,undef),(65,(.bool false)),(65,v64),(64,v64),(63,v63),(62,(e 8)),(61,(e 7)),(60,(e 0)),(9,v59),(59,v59),(58,v58),(57,(e 8)),(56,v56),(55,v55),(52,v52),(51,v51),(50,v50),(49,v49),(48,(e 8))]) ds W17)))) (fun ch13 W13=>(f122_k11 ro K) (.panic ch13) (Env.of e [(62,(e 8)),(61,(e 7)),(60,(e 0)),(9,v59),(59,v59),(58,v58),(57,(e 8)),(56,v56),(55,v55),(52,v52),(51,v51),(50,v50),(49,v49),(48,(e 8))]) ds W13))) (K (.exit 0) (Env.of e [(52,v52),(51,v51),(50,v50),(49,v49),(48,(e 8))]) ds W)):=by kernel_rfl
theorem f122_leave (Q:Ending→CW→Prop) (e:Env) (W:CW):wLeave prog Tryz.f122 Q .ret e [] W=Q (.returned (e 6)) W:=by kernel_rfl
theorem f122_w {Q:Ending→CW→Prop} {v0 v1 v2:Value} {W:CW} (h:wCode prog pkL none 122 89 (bodyOf prog 122) (Env.args [v0,v1,v2]) [] W (wLeave prog Tryz.f122 Q)):WCall prog pkL 122 [v0,v1,v2] W Q:=wCall_of Tryz.func122 (by kernel_rfl) (by kernel_rfl) (by kernel_rfl) (by kernel_rfl) (by kernel_rfl) h
end Go.Ce
