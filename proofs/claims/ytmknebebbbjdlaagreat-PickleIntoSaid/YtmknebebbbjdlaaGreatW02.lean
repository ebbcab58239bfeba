/- A part of the proof: Fd, Fe, Ga, Ha, Pa, ShU, ShT1, ShL5, Ff, ShR, Sh1, Sh0, Hb, Hc, Pb, Pc, Hd, He, Pd, Pe, Hf, Pf, Hg, Pg, Ph, Pi, Pj, Pk, ShA. -/
import Derived.Test.YtmknebebbbjdlaaGreatW01
import Derived.Test.YtmknebebbbjdlaaGreatProg
set_option linter.unusedSectionVars false
set_option linter.unusedVariables false
set_option linter.unusedSimpArgs false
set_option maxRecDepth 200000
namespace Go.Ce
def AE (a:AI) (e:Env) (ds:List Deferred):Prop:=(∀ t,a.at t=e t)∧a.defers=ds
theorem AE.eval {a:AI} {e:Env} {ds:List Deferred} (h:AE a e ds):a.eval=e.ev:=by
 funext x
 cases x with
 | tmp t=>rw [AI.NX]; exact h.1 t
 | _=>rfl
theorem AE.put {a:AI} {e:Env} {ds:List Deferred} (h:AE a e ds) (d:Option Tmp) (v:Value):AE (a.put d v) (e.put d v) ds:=by
 refine ⟨fun t=>?_,by rw [AI.put_defers]; exact h.2⟩
 cases d with
 | none=>exact h.1 t
 | some d =>
  rw [AI.bA]; simp only [Env.put,cond_eq_ite,Nat.beq_eq]
  split
  ·rfl
  ·exact h.1 t
theorem bQ {v:Value} {X Y:Prop} (h:wI v X Y):∃ b,v=.bool b∧cond b X Y:=by
 unfold wI at h
 split at h
 ·exact ⟨true,rfl,h⟩
 ·exact ⟨false,rfl,h⟩
 ·obtain ⟨b,hb,h1,h2⟩:=h
  cases b with
  | true=>exact ⟨_,hb,h1 rfl⟩
  | false=>exact ⟨_,hb,h2 rfl⟩
theorem AL {b:Bool} {X Y:Prop} (h1:b=true→X) (h2:b=false→Y):wI (.bool b) X Y:=by
 cases b with
 | true=>exact h1 rfl
 | false=>exact h2 rfl
section
variable (P:Program) (L:List FuncId)
def eI:Value→Bool
 | .tuple _=>true
 | _=>false
def Mv (sk:List Nat) (ops:Array Oper) (o:Oper) (e:Env) (K:Bool→Env→Prop):Prop:=match o.guard with
 | none=>K true e
 | some (j,want)=>match (ops[j]?).bind (·.dst) with
  | some d=>cond (Be sk j) (cond (eI (e d)) (K false e) False) (wI (e d) (K (true == want) (fun t=>cond (Nat.beq t d) (.bool true) (e t))) (K (false == want) (fun t=>cond (Nat.beq t d) (.bool false) (e t))))
  | none=>False
def WY (o:Oper):Bool:=match o.op with
 | .call c=>match c.callee with
  | .value _=>true
  | _=>false
 | _=>false
def bR (ops:Array Oper):Nat→List Nat→List Oper→Env→List Deferred→CW→(Exit→Env→List Deferred→CW→Prop)→Prop
 | _,_,[],e,ds,W,K=>K .normal e ds W
 | i,sk,o::rest,e,ds,W,K=>Mv sk ops o e fun b e=>cond b
   (yh P L o e.ev W (fun v W=>bR ops (i+1) sk rest (e.put o.dst v) ds W K) (fun W=>bR ops (i+1) sk rest (e.put o.dst undef) ds W K) (fun d W=>bR ops (i+1) sk rest (e.put o.dst undef) (d::ds) W K) (fun ch W=>K (.panic ch) e ds W))
   (bR ops (i+1) (i::sk) rest (e.put o.dst undef) ds W K)
def SU (ops:Array Oper) (ev:Operand→Value) (W:CW):Nat→Operand→Value
 | n+1,.tmp t=>match ops.toList.find? (fun o=>match o.dst with | some d=>Nat.beq d t | none=>false) with
  | some o=>cond (CR P o) ((BD P o (SU ops ev W n) W).elim undef fun l=>l.head?.elim undef fun p=>match p.1 with | .value v=>v | _=>undef) undef
  | none=>ev (.tmp t)
 | _,x=>ev x
def Oh (ops:Array Oper) (ev:Operand→Value) (W:CW) (o:Oper):Operand→Value :=
 match o.op with
 | .makeSlice _ _ _=>SU P ops ev W 6
 | _=>ev
def Yb (ops:Array Oper) (ev:Operand→Value):List Nat→CW→Option (List (Nat × Value × Option As) × CW)
 | [],W=>some ([],W)
 | i::is,W=>match ops[i]? with
  | some o=>match BD P o (Oh P ops ev W o) W with
   | some [(.value v,W1)]=>match Yb ops ev is W1 with
    | some (l,W2)=>some ((i,v,W1.obj W.sz)::l,W2)
    | none=>none
   | _=>none
  | none=>none
def SV (o:Oper) (ev:Operand→Value) (v:Value) (ob:Option As):Bool :=
 match o.op with
 | .makeSlice _ _ _=>match v with
  | .slice (some b) _ _=>(BD P o ev ⟨.nil,b.block⟩).any fun l=>l.head?.any fun p=>match p.1 with
   | .value u=>Vt 8 u v && B6 (p.2.obj b.block) ob
   | _=>false
  | _=>false
 | _=>true
def RF (ops:Array Oper) (i:Nat) (an:List Nat) (ok:CW→Prop):List (Nat × CW)→CW→Prop
 | [],W=>ok W
 | (j,Wj)::before,W=>cond (r8 ops j i) True (ok W)∧cond (Be an j) True (RF ops i an ok before Wj)
def Mw (ops:Array Oper) (ws:List (Nat × CW)) (W:CW):List (Nat × (CW→Prop))→Prop
 | []=>True
 | (i,ok)::rd=>RF ops i (FB ops i) ok ws W∧Mw ops ws W rd
def JA (v:Value) (ob:Option As) (W:CW):Bool:=match v with
 | .pointer (some b)=>B6 (W.obj b.block) ob
 | .map (some b)=>B6 (W.obj b) ob
 | .slice (some b) _ _=>B6 (W.obj b.block) ob
 | _=>false
def eJ (ops:Array Oper) (ws:List (Nat × CW)) (W:CW):List (Nat × Value × Option As)→Prop
 | []=>True
 | (i,v,ob)::fl=>RF ops i (FB ops i) (fun W=>JA v ob W=true) ws W∧eJ ops ws W fl
def WZ (ops:Array Oper) (fl:List (Nat × Value × Option As)):Nat→List Nat→List Oper→Env→CW→List (Nat × CW)→List (Nat × (CW→Prop))→(Env→CW→List (Nat × CW)→List (Nat × (CW→Prop))→Prop)→Prop
 | _,_,[],e,W,ws,rd,K=>K e W ws rd
 | i,sk,o::rest,e,W,ws,rd,K=>match fl.find? fun p=>Nat.beq p.1 i with
  | some (_,v,ob)=>SV P o e.ev v ob=true∧WZ ops fl (i+1) sk rest (e.put o.dst v) W ws rd K
  | none=>Mv sk ops o e fun b e=>cond b
    (cond (CR P o) (wV (gB P o e.ev) fun v=>WZ ops fl (i+1) sk rest (e.put o.dst v) W ws rd K)
     (cond (DD P o) (wV (aD P o e.ev W) fun v=>WZ ops fl (i+1) sk rest (e.put o.dst v) W ws ((i,fun W'=>aD P o e.ev W'=some v)::rd) K)
      (yh P L o e.ev W (fun v W1=>WZ ops fl (i+1) sk rest (e.put o.dst v) W1 ((i,W)::ws) rd K) (fun W1=>WZ ops fl (i+1) sk rest (e.put o.dst undef) W1 ((i,W)::ws) rd K) (fun _ _=>False) (fun _ _=>False))))
    (WZ ops fl (i+1) (i::sk) rest (e.put o.dst undef) W ws rd K)
def kV (ops:Array Oper) (e:Env) (W:CW) (K:Env→CW→Prop):Prop:=match Yb P ops e.ev (FZ P ops) W with
 | some (fl,W1)=>WZ P L ops fl 0 [] ops.toList e W1 [] [] fun e W ws rd=>Mw ops ws W rd∧eJ ops ws W fl∧K e W
 | none=>False
def QE (ops:Array Oper) (i0:Nat):Nat→List Nat→List Oper→Env→CW→List (Nat × (CW→Prop))→(List (Nat × (CW→Prop))→Prop)→Prop
 | _,_,[],_,_,rd,K=>K rd
 | i,sk,o::rest,e,W,rd,K=>cond (KL ops i0 i) (QE ops i0 (i+1) sk rest (e.put o.dst undef) W rd K)
   (Mv sk ops o e fun b e=>cond b
    (cond (CR P o) (wV (gB P o e.ev) fun v=>QE ops i0 (i+1) sk rest (e.put o.dst v) W rd K)
     (cond (DD P o) (wV (aD P o e.ev W) fun v=>QE ops i0 (i+1) sk rest (e.put o.dst v) W ((i,fun W'=>aD P o e.ev W'=some v)::rd) K) False))
    (QE ops i0 (i+1) (i::sk) rest (e.put o.dst undef) W rd K))
def Nh (ops:Array Oper) (fl:List (Nat × Value × Option As)) (KP:List PanicEntry→CW→Prop):Nat→List Nat→List Oper→Env→CW→List (Nat × CW)→List (Nat × (CW→Prop))→(Env→CW→List (Nat × CW)→List (Nat × (CW→Prop))→Prop)→Prop
 | _,_,[],e,W,ws,rd,K=>K e W ws rd
 | i,sk,o::rest,e,W,ws,rd,K=>match fl.find? fun p=>Nat.beq p.1 i with
  | some (_,v,ob)=>SV P o e.ev v ob=true∧Nh ops fl KP (i+1) sk rest (e.put o.dst v) W ws rd K
  | none=>Mv sk ops o e fun b e=>cond b
    (cond (CR P o) (wV (gB P o e.ev) fun v=>Nh ops fl KP (i+1) sk rest (e.put o.dst v) W ws rd K)
     (cond (DD P o) (wV (aD P o e.ev W) fun v=>Nh ops fl KP (i+1) sk rest (e.put o.dst v) W ws ((i,fun W'=>aD P o e.ev W'=some v)::rd) K)
      (yh P L o e.ev W (fun v W1=>Nh ops fl KP (i+1) sk rest (e.put o.dst v) W1 ((i,W)::ws) rd K) (fun W1=>Nh ops fl KP (i+1) sk rest (e.put o.dst undef) W1 ((i,W)::ws) rd K) (fun _ _=>False)
       (fun ch W2=>cond (WY o && fl.isEmpty && ws.all fun x=>Be (FB ops i) x.1) (QE P ops i (i+1) sk rest (e.put o.dst undef) W rd fun rd=>Mw ops ws W rd∧KP ch W2) False))))
    (Nh ops fl KP (i+1) (i::sk) rest (e.put o.dst undef) W ws rd K)
def bS (ops:Array Oper) (e:Env) (W:CW) (K:Env→CW→Prop) (KP:List PanicEntry→CW→Prop):Prop:=match Yb P ops e.ev (FZ P ops) W with
 | some (fl,W1)=>Nh P L ops fl KP 0 [] ops.toList e W1 [] [] fun e W ws rd=>Mw ops ws W rd∧eJ ops ws W fl∧K e W
 | none=>False
def Env.bad:Env:=fun t=>cond (Nat.beq t 0) (.complex .f64 0 0) undef
def C1 (ro:Option Nat) (fn:FuncId) (nt:Nat) (c:Code) (e:Env) (ds:List Deferred) (W:CW) (K:Exit→Env→List Deferred→CW→Prop):Prop :=
 ∀ a:AI,AE a e ds→a.nt=nt→kR P L ro fn c a W fun x a' W'=>∃ e',AE a' e' a'.defers∧a'.nt=nt∧K x e' a'.defers W'
abbrev AG:=Exit→Env→List Deferred→CW→Prop
def Aq (Y:Env→List Deferred→CW→Prop) (K:AG):AG:=fun x e ds W=>match x with
 | .normal=>Y e ds W
 | x=>K x e ds W
def BU (id:Nat) (K:AG):AG:=fun x e ds W=>match x with
 | .exit PV=>cond (Nat.beq PV id) (K .normal e ds W) (K (.exit PV) e ds W)
 | x=>K x e ds W
def AP (ro:Option Nat) (fn:FuncId) (nt:Nat):Code→Env→List Deferred→CW→(Exit→Env→List Deferred→CW→Prop)→Prop
 | .skip,e,ds,W,K=>K .normal e ds W
 | .label _,e,ds,W,K=>K .normal e ds W
 | .exit id,e,ds,W,K=>K (.exit id) e ds W
 | .ret,e,ds,W,K=>K .ret e ds W
 | .region _ ops false,e,ds,W,K=>bR P L ops 0 [] ops.toList e ds W K
 | .region _ ops true,e,ds,W,K=>cond (Be L (fn+1500000)) (bS P L ops e W (fun e W=>K .normal e ds W) (fun ch W=>K (.panic ch) Env.bad ds W)) (kV P L ops e W fun e W=>K .normal e ds W)
 | .seq x y,e,ds,W,K=>AP ro fn nt x e ds W (Aq (fun e ds W=>AP ro fn nt y e ds W K) K)
 | .cond c x y,e,ds,W,K=>wI (e.ev c) (AP ro fn nt x e ds W K) (AP ro fn nt y e ds W K)
 | .block id b,e,ds,W,K=>AP ro fn nt b e ds W (BU id K)
 | .scope b,e,ds,W,K=>AP ro fn nt b e ds W K
 | c,e,ds,W,K=>C1 P L ro fn nt c e ds W K
end
section
variable {P:Program} {L:List FuncId}
theorem Wb {n m:Nat} (h:n≤m) {f:FuncId} {args:List Value} {W:CW} {o:List (Ending × CW)} (hc:(CM P L n).call f args W=some o):(CM P L m).call f args W=some o:=(DF h).call hc
theorem SW {n m:Nat} (h:n≤m) {l:Nat} {args:List Value} {W:CW} {o:List (Ending × CW)} (hc:(CM P L n).round l args W=some o):(CM P L m).round l args W=some o:=(DF h).round hc
theorem FU {n m:Nat} (h:n≤m) {ro:Option Nat} {fn:FuncId} {c:Code} {a:AI} {W:CW} {o:List (Exit × AI × CW)} (hc:(CM P L n).code ro fn c a W=some o):(CM P L m).code ro fn c a W=some o:=(DF h).code hc
theorem BK {α β:Type} (x:α) (f:α→Option (List β)) {y:List β} (h:f x=some y):B0 (some [x]) f=some y:=by
 simp [B0,EH,h]
theorem JB {sk:List Nat} {ops:Array Oper} {o:Oper} {e:Env} {ds:List Deferred} {a:AI} (ha:AE a e ds) {K:Bool→Env→Prop} (h:Mv sk ops o e K):∃ e',AE a e' ds∧K (CO ops o a) e'∧DO ops o a=some (CO ops o a):=by
 unfold Mv at h; unfold CO DO
 split at h
 ·rename_i hg; rw [hg]; exact ⟨e,ha,h,by first | rfl | trivial⟩
 ·rename_i j want hg; rw [hg]
  split at h
  ·rename_i d hd; obtain ⟨oj,j9,WG⟩:=Option.bind_eq_some_iff.1 hd
   cases hm:Be sk j with
   | true =>
    rw [hm] at h; simp only [cond_true] at h
    cases hu:eI (e d) with
    | false=>rw [hu] at h; exact h.elim
    | true =>
     rw [hu] at h; simp only [cond_true] at h
     have hy:Ie ops a j=none:=by
      unfold Ie; rw [j9]; simp only [WG]; have h1:=ha.1 d; unfold AI.at at h1
      cases K2:a.t.get d with
      | none=>rfl
      | some u =>
       rw [K2] at h1; have h1:u=e d:=h1; subst h1
       cases Ni:e d <;> rw [Ni] at hu <;> first | rfl | cases hu
     simp only [hy]; exact ⟨e,ha,h,by first | rfl | trivial⟩
   | false =>
   rw [hm] at h; simp only [cond_false] at h; obtain ⟨b,hb,hK⟩:=bQ h
   replace hK:K (b == want) (fun t=>cond (Nat.beq t d) (.bool b) (e t)):=by cases b <;> exact hK
   have hy:Ie ops a j=some b:=by
    unfold Ie; rw [j9]; simp only [WG]; have h1:=ha.1 d; rw [hb] at h1; unfold AI.at at h1
    cases K2:a.t.get d with
    | none=>rw [K2] at h1; cases h1
    | some u =>
     rw [K2] at h1; have h1:u=.bool b:=h1; subst h1; rfl
   simp only [hy]; refine ⟨_,⟨fun t=>?_,ha.2⟩,hK,by first | rfl | trivial⟩; simp only [cond_eq_ite,Nat.beq_eq]
   split
   ·rename_i ht; subst ht; rw [ha.1 t,hb]
   ·exact ha.1 t
  ·exact h.elim
theorem Fg {ops:Array Oper}:∀ {i:Nat} {sk:List Nat} {rest:List Oper} {a:AI} {e:Env} {ds:List Deferred} {W:CW} {K:Exit→Env→List Deferred→CW→Prop},bR P L ops i sk rest e ds W K→AE a e ds →
  ∃ n o e',EI P (CM P L n) ops rest a W=some [o]∧AE o.2.1 e' o.2.1.defers∧o.2.1.nt=a.nt∧K o.1 e' o.2.1.defers o.2.2
 | i,sk,[],a,e,ds,W,K,h,ha=>by
  refine ⟨0,(.normal,a,W),e,rfl,?_,rfl,?_⟩
  ·rw [ha.2]; exact ha
  ·rw [ha.2]; exact h
 | i,sk,o::rest,a,e,ds,W,K,h,ha=>by
  simp only [bR] at h; obtain ⟨e1,CZ,h,_⟩:=JB ha h
  cases hw:CO ops o a with
  | false =>
   rw [hw] at h; obtain ⟨n,x,e',h1,h2,h3,h4⟩:=Fg h (CZ.put _ _); exact ⟨n,x,e',by simp only [EI,hw]; exact h1,h2,by rw [h3,AI.BL],h4⟩
  | true =>
   rw [hw] at h; simp only [cond_true] at h; obtain ⟨p,hp,Fh⟩:=Og h; obtain ⟨nx,W1⟩:=p; have HL:BD P o a.eval W=some [(nx,W1)]:=by rw [CZ.eval]; exact hp
   have step:∀ {n:Nat} {x:Exit × AI × CW},(match nx with
     | .value v=>EI P (CM P L n) ops rest (a.put o.dst v) W1
     | .skip=>EI P (CM P L n) ops rest (a.put o.dst undef) W1
     | .defer d=>EI P (CM P L n) ops rest ({ a with defers:=d::a.defers }.put o.dst undef) W1
     | .enter f args=>B0 ((CM P L n).call f args W1) fun (e,W)=>match e with
      | .returned v=>EI P (CM P L n) ops rest (a.put o.dst v) W
      | .panicked ch=>some [(.panic ch,a,W)]
      | .outgrown=>none
     | .round l args=>B0 ((CM P L n).round l args W1) fun (e,W)=>match e with
      | .returned v=>EI P (CM P L n) ops rest (a.put o.dst v) W
      | .panicked ch=>some [(.panic ch,a,W)]
      | .outgrown=>none
     | .recover=>none
     | .panic v=>some [(.panic [{ v,recovered:=false }],a,W1)])=some [x]→EI P (CM P L n) ops (o::rest) a W=some [x]:=by
    intro n x hx; simp only [EI,hw,HL]; refine BK _ _ ?_
    cases nx <;> exact hx
   have up:∀ {n m:Nat} (hle:n≤m) {a:AI} {W:CW} {r:List (Exit × AI × CW)},EI P (CM P L n) ops rest a W=some r→EI P (CM P L m) ops rest a W=some r:=fun hle=>Ej (DF hle)
   cases nx with
   | value v =>
    obtain ⟨n,x,e',h1,h2,h3,h4⟩:=Fg (a:=a.put o.dst v) Fh (CZ.put _ _); exact ⟨n,x,e',step h1,h2,by rw [h3,AI.BL],h4⟩
   | skip =>
    obtain ⟨n,x,e',h1,h2,h3,h4⟩:=Fg (a:=a.put o.dst undef) Fh (CZ.put _ _); exact ⟨n,x,e',step h1,h2,by rw [h3,AI.BL],h4⟩
   | defer d =>
    obtain ⟨n,x,e',h1,h2,h3,h4⟩:=Fg (a:=({ a with defers:=d::a.defers }:AI).put o.dst undef) Fh (AE.put (a:={ a with defers:=d::a.defers }) ⟨CZ.1,by show d::a.defers=d::ds; rw [CZ.2]⟩ _ _); exact ⟨n,x,e',step h1,h2,by rw [h3,AI.BL],h4⟩
   | enter f args =>
    obtain ⟨n1,y,hy,hQ⟩:=Fh; obtain ⟨en,W2⟩:=y
    cases en with
    | returned v =>
     obtain ⟨n,x,e',h1,h2,h3,h4⟩:=Fg (a:=a.put o.dst v) hQ (CZ.put _ _); refine ⟨max n n1,x,e',step ?_,h2,by rw [h3,AI.BL],h4⟩; simp only [Wb (Nat.le_max_right n n1) hy]; exact BK _ _ (up (Nat.le_max_left _ _) h1)
    | panicked ch =>
     refine ⟨n1,(.panic ch,a,W2),e1,step ?_,by rw [CZ.2]; exact CZ,rfl,by rw [CZ.2]; exact hQ⟩; simp only [hy]; exact BK _ _ rfl
    | outgrown=>exact hQ.elim
   | round l args =>
    obtain ⟨n1,y,hy,hQ⟩:=Fh; obtain ⟨en,W2⟩:=y
    cases en with
    | returned v =>
     obtain ⟨n,x,e',h1,h2,h3,h4⟩:=Fg (a:=a.put o.dst v) hQ (CZ.put _ _); refine ⟨max n n1,x,e',step ?_,h2,by rw [h3,AI.BL],h4⟩; simp only [SW (Nat.le_max_right n n1) hy]; exact BK _ _ (up (Nat.le_max_left _ _) h1)
    | panicked ch =>
     refine ⟨n1,(.panic ch,a,W2),e1,step ?_,by rw [CZ.2]; exact CZ,rfl,by rw [CZ.2]; exact hQ⟩; simp only [hy]; exact BK _ _ rfl
    | outgrown=>exact hQ.elim
   | recover=>exact Fh.elim
   | panic v=>exact ⟨0,(.panic [{ v,recovered:=false }],a,W1),e1,step rfl,by rw [CZ.2]; exact CZ,rfl,by rw [CZ.2]; exact Fh⟩
theorem Yc (ops:Array Oper) (a:AI) (W:CW):∀ (n:Nat) (x:Operand),early P ops a W n x=SU P ops a.eval W n x
 | 0,x=>by cases x <;> rfl
 | n+1,x=>by
  cases x with
  | tmp t =>
   simp only [early,SU]; have:early P ops a W n=SU P ops a.eval W n:=funext fun x=>Yc ops a W n x; rw [this]; rfl
  | _=>rfl
theorem Yd (ops:Array Oper) (a:AI) (W:CW) (o:Oper):Rx P ops a W o=Oh P ops a.eval W o:=by
 unfold Rx Oh
 cases o.op <;> first | rfl | (funext x; exact Yc ops a W 6 x)
theorem K8 (ops:Array Oper) (a:AI):∀ (is:List Nat) (W:CW),Gm P ops a is W=Yb P ops a.eval is W
 | [],W=>rfl
 | i::is,W=>by
  simp only [Gm,Yb,Yd,K8 ops a is]; rfl
theorem SX (o:Oper) (a:AI) (v:Value) (ob:Option As):NL P o a v ob=SV P o a.eval v ob:=rfl
theorem Oi {ops:Array Oper} {i:Nat} {an:List Nat} {ok:CW→Bool} {okP:CW→Prop} (h:∀ W,okP W→ok W=true):∀ {ws:List (Nat × CW)} {W:CW},RF ops i an okP ws W→CS ops i an ok ws W=true
 | [],W,hw=>h W hw
 | (j,Wj)::before,W,hw=>by
  obtain ⟨h1,h2⟩:=hw; simp only [CS,Bool.and_eq_true,Bool.or_eq_true]
  refine ⟨?_,?_⟩
  ·cases ha:r8 ops j i with
   | true=>exact .inl rfl
   | false=>rw [ha] at h1; exact .inr (h W h1)
  ·cases hm:Be an j with
   | true=>rfl
   | false=>rw [hm] at h2; exact Oi h h2
def Nj (P:Program):List (Nat × (CW→Prop))→List (Nat × Oper × AI × Value)→Prop
 | [],[]=>True
 | (i,ok)::rd,(i',o,a,v)::rd'=>(i=i'∧∀ W,ok W→BD P o a.eval W=some [(.value v,W)])∧Nj P rd rd'
 | _,_=>False
theorem Jm (x:Ending × CW):merged (some [x])=some [x]:=rfl
theorem D0 {ops:Array Oper} {fl:List (Nat × Value × Option As)} {K:Env→CW→List (Nat × CW)→List (Nat × (CW→Prop))→Prop}:∀ {rest:List Oper} {i:Nat} {sk:List Nat} {e:Env} {W:CW} {ws:List (Nat × CW)} {rd:List (Nat × (CW→Prop))} {a:AI} {ds:List Deferred} {rd':List (Nat × Oper × AI × Value)},
  WZ P L ops fl i sk rest e W ws rd K→AE a e ds→Nj P rd rd'→∃ n s e' HW,DP P (CM P L n) ops fl i rest ⟨a,W,ws,rd'⟩=some s∧AE s.a e' ds∧s.a.nt=a.nt∧Nj P HW s.rd∧K e' s.W s.ws HW
 | [],i,sk,e,W,ws,rd,a,ds,rd',h,ha,hr=>⟨0,_,e,rd,rfl,ha,rfl,hr,h⟩
 | o::rest,i,sk,e,W,ws,rd,a,ds,rd',h,ha,hr=>by
  have up:∀ {n m:Nat} (hle:n≤m) {i:Nat} {s s':Dx},DP P (CM P L n) ops fl i rest s=some s'→DP P (CM P L m) ops fl i rest s=some s':=fun hle=>HK (DF hle)
  have go:∀ {n:Nat} {s1 s:Dx},BI P (CM P L n) ops fl i o ⟨a,W,ws,rd'⟩=some s1→DP P (CM P L n) ops fl (i+1) rest s1=some s→DP P (CM P L n) ops fl i (o::rest) ⟨a,W,ws,rd'⟩=some s:=by
   intro n s1 s h1 h2; simp only [DP,h1]; exact h2
  simp only [WZ] at h
  cases hf:fl.find? fun p=>Nat.beq p.1 i with
  | some y =>
   obtain ⟨i',v,ob⟩:=y; rw [hf] at h; obtain ⟨KW,h⟩:=h; obtain ⟨n,s,e',HW,h1,h2,h3,h4,h5⟩:=D0 h (ha.put o.dst v) hr; refine ⟨n,s,e',HW,go ?_ h1,h2,by rw [h3,AI.BL],h4,h5⟩; unfold BI; rw [hf]; simp only [SX,ha.eval,KW,cond_true]
  | none =>
   rw [hf] at h; obtain ⟨e1,CZ,h,F'⟩:=JB ha h
   have st:∀ {n:Nat},BI P (CM P L n) ops fl i o ⟨a,W,ws,rd'⟩=(match DO ops o a with
     | none=>none
     | some false=>some { (⟨a,W,ws,rd'⟩:Dx) with a:=a.put o.dst undef }
     | some true =>
      cond (CR P o) (match BD P o a.eval W with
       | some [(.value v,_)]=>some { (⟨a,W,ws,rd'⟩:Dx) with a:=a.put o.dst v }
       | _=>none)
      (cond (DD P o) (match BD P o a.eval W with
       | some [(.value v,_)]=>some { (⟨a,W,ws,rd'⟩:Dx) with a:=a.put o.dst v,rd:=(i,o,a,v)::rd' }
       | _=>none)
      (match BD P o a.eval W with
      | some [(.value v,W1)]=>some { (⟨a,W,ws,rd'⟩:Dx) with a:=a.put o.dst v,W:=W1,ws:=(i,W)::ws }
      | some [(.skip,W1)]=>some { (⟨a,W,ws,rd'⟩:Dx) with a:=a.put o.dst undef,W:=W1,ws:=(i,W)::ws }
      | some [(.enter f args,W1)]=>match merged ((CM P L n).call f args W1) with
       | some [(.returned v,W2)]=>some { (⟨a,W,ws,rd'⟩:Dx) with a:=a.put o.dst v,W:=W2,ws:=(i,W)::ws }
       | _=>none
      | some [(.round l args,W1)]=>match merged ((CM P L n).round l args W1) with
       | some [(.returned v,W2)]=>some { (⟨a,W,ws,rd'⟩:Dx) with a:=a.put o.dst v,W:=W2,ws:=(i,W)::ws }
       | _=>none
      | _=>none))):=by
    intro n; unfold BI; rw [hf]; rfl
   cases hw:CO ops o a with
   | false =>
    rw [hw] at h F'; simp only [cond_false] at h; obtain ⟨n,s,e',HW,h1,h2,h3,h4,h5⟩:=D0 h (CZ.put o.dst undef) hr; exact ⟨n,s,e',HW,go (by rw [st,F']) h1,h2,by rw [h3,AI.BL],h4,h5⟩
   | true =>
    rw [hw] at h F'; simp only [cond_true] at h; have gC:=CZ.eval
    cases hp:CR P o with
    | true =>
     rw [hp] at h; simp only [cond_true] at h
     cases hx:gB P o e1.ev with
     | none=>rw [hx] at h; exact h.elim
     | some v =>
      rw [hx] at h; obtain ⟨n,s,e',HW,h1,h2,h3,h4,h5⟩:=D0 h (CZ.put o.dst v) hr; refine ⟨n,s,e',HW,go ?_ h1,h2,by rw [h3,AI.BL],h4,h5⟩; rw [st,F']; simp only [hp,cond_true,SS hp,gC,hx,vL]
    | false =>
     rw [hp] at h; simp only [cond_false] at h
     cases Iu:DD P o with
     | true =>
      rw [Iu] at h; simp only [cond_true] at h
      cases hx:aD P o e1.ev W with
      | none=>rw [hx] at h; exact h.elim
      | some v =>
       rw [hx] at h; obtain ⟨n,s,e',HW,h1,h2,h3,h4,h5⟩:=D0 (rd':=(i,o,a,v)::rd') h (CZ.put o.dst v) ⟨⟨rfl,fun W' nY=>by rw [K7 Iu,gC,nY]; rfl⟩,hr⟩; refine ⟨n,s,e',HW,go ?_ h1,h2,by rw [h3,AI.BL],h4,h5⟩; rw [st,F']; simp only [hp,Iu,cond_true,cond_false,K7 Iu,gC,hx,vL]
     | false =>
      rw [Iu] at h; simp only [cond_false] at h; obtain ⟨p,HL,Fh⟩:=Og h; obtain ⟨nx,W1⟩:=p; rw [←gC] at HL
      cases nx with
      | value v =>
       obtain ⟨n,s,e',HW,h1,h2,h3,h4,h5⟩:=D0 (a:=a.put o.dst v) Fh (CZ.put o.dst v) hr; refine ⟨n,s,e',HW,go ?_ h1,h2,by rw [h3,AI.BL],h4,h5⟩; rw [st,F']; simp only [hp,Iu,cond_false,HL]
      | skip =>
       obtain ⟨n,s,e',HW,h1,h2,h3,h4,h5⟩:=D0 (a:=a.put o.dst undef) Fh (CZ.put o.dst undef) hr; refine ⟨n,s,e',HW,go ?_ h1,h2,by rw [h3,AI.BL],h4,h5⟩; rw [st,F']; simp only [hp,Iu,cond_false,HL]
      | enter f args =>
       obtain ⟨n1,y,hy,hQ⟩:=Fh; obtain ⟨en,W2⟩:=y
       cases en with
       | returned v =>
        obtain ⟨n,s,e',HW,h1,h2,h3,h4,h5⟩:=D0 (a:=a.put o.dst v) hQ (CZ.put o.dst v) hr; refine ⟨max n n1,s,e',HW,go ?_ (up (Nat.le_max_left _ _) h1),h2,by rw [h3,AI.BL],h4,h5⟩; rw [st,F']; simp only [hp,Iu,cond_false,HL,Wb (Nat.le_max_right n n1) hy,Jm]
       | panicked ch=>exact hQ.elim
       | outgrown=>exact hQ.elim
      | round l args =>
       obtain ⟨n1,y,hy,hQ⟩:=Fh; obtain ⟨en,W2⟩:=y
       cases en with
       | returned v =>
        obtain ⟨n,s,e',HW,h1,h2,h3,h4,h5⟩:=D0 (a:=a.put o.dst v) hQ (CZ.put o.dst v) hr; refine ⟨max n n1,s,e',HW,go ?_ (up (Nat.le_max_left _ _) h1),h2,by rw [h3,AI.BL],h4,h5⟩; rw [st,F']; simp only [hp,Iu,cond_false,HL,SW (Nat.le_max_right n n1) hy,Jm]
       | panicked ch=>exact hQ.elim
       | outgrown=>exact hQ.elim
      | defer d=>exact Fh.elim
      | recover=>exact Fh.elim
      | panic v=>exact Fh.elim
theorem kX {n:Nat} (v:Value):(CM P L n).eqv v v=true:=by
 have:(CM P L n).eqv=fun u v=>@decide (u=v) (Classical.propDecidable _):=by
  unfold CM
  induction n with
  | zero=>rfl
  | succ n ih=>exact ih
 rw [this]; exact @decide_eq_true _ (Classical.propDecidable _) rfl
theorem Lb {n:Nat} {ops:Array Oper} {ws:List (Nat × CW)} {W:CW}:∀ {rd:List (Nat × (CW→Prop))} {rd':List (Nat × Oper × AI × Value)},Mw ops ws W rd→Nj P rd rd' →
  (rd'.all fun (i,o,a,v)=>CS ops i (FB ops i) (fun W=>match BD P o a.eval W with | some [(.value u,_)]=>(CM P L n).eqv u v | _=>false) ws W)=true
 | [],[],_,_=>rfl
 | (i,ok)::rd,(i',o,a,v)::rd',h,hr=>by
  obtain ⟨⟨rfl,h1⟩,hr⟩:=hr; simp only [List.all_cons,Bool.and_eq_true]; refine ⟨Oi (fun W hW=>?_) h.1,Lb h.2 hr⟩; rw [h1 W hW]; exact kX v
 | [],_::_,_,h=>h.elim
 | _::_,[],_,h=>h.elim
theorem SY {ops:Array Oper} {ws:List (Nat × CW)} {W:CW}:∀ {fl:List (Nat × Value × Option As)},eJ ops ws W fl→(fl.all fun (i,v,ob)=>CS ops i (FB ops i) (fun W=>match v with | .pointer (some b)=>B6 (W.obj b.block) ob | .map (some b)=>B6 (W.obj b) ob | .slice (some b) _ _=>B6 (W.obj b.block) ob | _=>false) ws W)=true
 | [],_=>rfl
 | (i,v,ob)::fl,h=>by
  simp only [List.all_cons,Bool.and_eq_true]; exact ⟨Oi (fun W hW=>hW) h.1,SY h.2⟩
theorem Ye {ops:Array Oper} {a:AI} {e:Env} {ds:List Deferred} {W:CW} {K:Env→CW→Prop} (h:kV P L ops e W K) (ha:AE a e ds) :
  ∃ n a' W' e',G3 P (CM P L n) ops a W=some [(.normal,a',W')]∧AE a' e' ds∧a'.nt=a.nt∧K e' W':=by
 unfold kV at h; rw [←ha.eval,←K8] at h
 split at h
 ·rename_i fl W1 CY; obtain ⟨n,s,e',HW,h1,h2,h3,h4,h5,h6,h7⟩:=D0 (ds:=ds) (rd':=[]) h ha trivial; refine ⟨n,s.a,s.W,e',?_,h2,h3,h7⟩; unfold G3; rw [CY]; simp only [h1]; have e1:=Lb (L:=L) (n:=n) h5 h4; have e2:=SY h6
  show cond (s.rd.all fun (i,o,a,v)=>CS ops i (FB ops i) (fun W=>match BD P o a.eval W with | some [(.value u,_)]=>(CM P L n).eqv u v | _=>false) s.ws s.W)
   (cond (fl.all fun (i,v,ob)=>CS ops i (FB ops i) (fun W=>match v with | .pointer (some b)=>B6 (W.obj b.block) ob | .map (some b)=>B6 (W.obj b) ob | .slice (some b) _ _=>B6 (W.obj b.block) ob | _=>false) s.ws s.W)
    (some [(Exit.normal,s.a,s.W)]) none) none=_
  rw [e1,e2]; rfl
 ·exact h.elim
theorem IP {ops:Array Oper} {fl:List (Nat × Value × Option As)} {i:Nat} {o:Oper} {a:AI} {W:CW} {ws:List (Nat × CW)} {rd':List (Nat × Oper × AI × Value)} {R:B5} (hf:(fl.find? fun p=>Nat.beq p.1 i)=none) (F':DO ops o a=some true):BI P R ops fl i o ⟨a,W,ws,rd'⟩=(
      cond (CR P o) (match BD P o a.eval W with
       | some [(.value v,_)]=>some { (⟨a,W,ws,rd'⟩:Dx) with a:=a.put o.dst v }
       | _=>none)
      (cond (DD P o) (match BD P o a.eval W with
       | some [(.value v,_)]=>some { (⟨a,W,ws,rd'⟩:Dx) with a:=a.put o.dst v,rd:=(i,o,a,v)::rd' }
       | _=>none)
      (match BD P o a.eval W with
      | some [(.value v,W1)]=>some { (⟨a,W,ws,rd'⟩:Dx) with a:=a.put o.dst v,W:=W1,ws:=(i,W)::ws }
      | some [(.skip,W1)]=>some { (⟨a,W,ws,rd'⟩:Dx) with a:=a.put o.dst undef,W:=W1,ws:=(i,W)::ws }
      | some [(.enter f args,W1)]=>match merged (R.call f args W1) with
       | some [(.returned v,W2)]=>some { (⟨a,W,ws,rd'⟩:Dx) with a:=a.put o.dst v,W:=W2,ws:=(i,W)::ws }
       | _=>none
      | some [(.round l args,W1)]=>match merged (R.round l args W1) with
       | some [(.returned v,W2)]=>some { (⟨a,W,ws,rd'⟩:Dx) with a:=a.put o.dst v,W:=W2,ws:=(i,W)::ws }
       | _=>none
      | _=>none))):=by
 unfold BI; rw [hf]; simp only [F']; rfl
theorem Gs {ops:Array Oper} {i0:Nat} {R:B5} {K:List (Nat × (CW→Prop))→Prop}:∀ {rest:List Oper} {i:Nat} {sk:List Nat} {e:Env} {W:CW} {ws:List (Nat × CW)} {rd:List (Nat × (CW→Prop))} {a:AI} {ds:List Deferred} {rd':List (Nat × Oper × AI × Value)},
  QE P ops i0 i sk rest e W rd K→AE a e ds→Nj P rd rd'→∃ s HW,CI (GQ P R ops [] i0) i rest ⟨a,W,ws,rd'⟩=some s∧s.W=W∧s.ws=ws∧Nj P HW s.rd∧K HW
 | [],i,sk,e,W,ws,rd,a,ds,rd',h,ha,hr=>⟨_,rd,rfl,rfl,rfl,hr,h⟩
 | o::rest,i,sk,e,W,ws,rd,a,ds,rd',h,ha,hr=>by
  simp only [QE] at h
  have go:∀ {s1 s:Dx},GQ P R ops [] i0 i o ⟨a,W,ws,rd'⟩=some s1→CI (GQ P R ops [] i0) (i+1) rest s1=some s→CI (GQ P R ops [] i0) i (o::rest) ⟨a,W,ws,rd'⟩=some s:=by
   intro s1 s h1 h2; simp only [CI,h1]; exact h2
  cases hn:KL ops i0 i with
  | true =>
   rw [hn] at h; obtain ⟨s,HW,h1,h2,h3,h4,h5⟩:=Gs (ws:=ws) (rd':=rd') h (ha.put o.dst undef) hr; exact ⟨s,HW,go (by unfold GQ; rw [hn]; rfl) h1,h2,h3,h4,h5⟩
  | false =>
   rw [hn] at h; simp only [cond_false] at h; have hN:GQ P R ops [] i0 i o ⟨a,W,ws,rd'⟩=BI P R ops [] i o ⟨a,W,ws,rd'⟩:=by unfold GQ; rw [hn]; rfl
   obtain ⟨e1,CZ,h,F'⟩:=JB ha h
   cases hw:CO ops o a with
   | false =>
    rw [hw] at h F'; simp only [cond_false] at h; obtain ⟨s,HW,h1,h2,h3,h4,h5⟩:=Gs (ws:=ws) (rd':=rd') h (CZ.put o.dst undef) hr; refine ⟨s,HW,go ?_ h1,h2,h3,h4,h5⟩; rw [hN]; unfold BI; simp only [List.find?_nil,F']
   | true =>
    rw [hw] at h F'; simp only [cond_true] at h; have gC:=CZ.eval
    cases hp:CR P o with
    | true =>
     rw [hp] at h; simp only [cond_true] at h
     cases hx:gB P o e1.ev with
     | none=>rw [hx] at h; exact h.elim
     | some v =>
      rw [hx] at h; obtain ⟨s,HW,h1,h2,h3,h4,h5⟩:=Gs (ws:=ws) (rd':=rd') h (CZ.put o.dst v) hr; refine ⟨s,HW,go ?_ h1,h2,h3,h4,h5⟩; rw [hN,IP rfl F']; simp only [hp,cond_true,SS hp,gC,hx,vL]
    | false =>
     rw [hp] at h; simp only [cond_false] at h
     cases Iu:DD P o with
     | true =>
      rw [Iu] at h; simp only [cond_true] at h
      cases hx:aD P o e1.ev W with
      | none=>rw [hx] at h; exact h.elim
      | some v =>
       rw [hx] at h; obtain ⟨s,HW,h1,h2,h3,h4,h5⟩:=Gs (ws:=ws) (rd':=(i,o,a,v)::rd') h (CZ.put o.dst v) ⟨⟨rfl,fun W' nY=>by rw [K7 Iu,gC,nY]; rfl⟩,hr⟩; refine ⟨s,HW,go ?_ h1,h2,h3,h4,h5⟩; rw [hN,IP rfl F']; simp only [hp,Iu,cond_true,cond_false,K7 Iu,gC,hx,vL]
     | false=>rw [Iu] at h; exact h.elim
def Xj (P:Program) (L:List FuncId) (ops:Array Oper) (fl:List (Nat × Value × Option As)) (KP:List PanicEntry→CW→Prop) (K:Env→CW→List (Nat × CW)→List (Nat × (CW→Prop))→Prop) (ds:List Deferred) (nt n i:Nat) (rest:List Oper) (s0:Dx):Prop :=
 (∃ s e' HW,DP P (CM P L n) ops fl i rest s0=some s∧AE s.a e' ds∧s.a.nt=nt∧Nj P HW s.rd∧K e' s.W s.ws HW) ∨
 ∃ i0 ch W2 s HW,i≤i0∧DQ P (CM P L n) ops fl i rest s0=some (i0,ch,W2)∧CI (GQ P (CM P L n) ops fl i0) i rest s0=some s∧(fl.isEmpty && s.ws.all fun x=>Be (FB ops i0) x.1)=true∧Nj P HW s.rd∧Mw ops s.ws s.W HW∧KP ch W2
theorem Xj.cons {ops:Array Oper} {fl:List (Nat × Value × Option As)} {KP:List PanicEntry→CW→Prop} {K:Env→CW→List (Nat × CW)→List (Nat × (CW→Prop))→Prop} {ds:List Deferred} {nt n i:Nat} {o:Oper} {rest:List Oper} {s0 s1:Dx} (hs:BI P (CM P L n) ops fl i o s0=some s1)
  (h:Xj P L ops fl KP K ds nt n (i+1) rest s1):Xj P L ops fl KP K ds nt n i (o::rest) s0:=by
 rcases h with ⟨s,e',HW,h1,h2⟩ | ⟨i0,ch,W2,s,HW,h0,h1,h2,h3⟩
 ·exact .inl ⟨s,e',HW,by simp only [DP,hs]; exact h1,h2⟩
 ·refine .inr ⟨i0,ch,W2,s,HW,by omega,?_,?_,h3⟩
  ·simp only [DQ]
   cases hp:De P (CM P L n) ops fl i o s0 with
   | some y=>have:=Jl hp; rw [hs] at this; cases this
   | none=>simp only [hs]; exact h1
  ·simp only [CI,GQ,dg (show i<i0 by omega),cond_false,hs]; exact h2
theorem Xj.up {ops:Array Oper} {fl:List (Nat × Value × Option As)} {KP:List PanicEntry→CW→Prop} {K:Env→CW→List (Nat × CW)→List (Nat × (CW→Prop))→Prop} {ds:List Deferred} {nt n m i:Nat} {rest:List Oper} {s0:Dx} (hle:n≤m) (h:Xj P L ops fl KP K ds nt n i rest s0):Xj P L ops fl KP K ds nt m i rest s0:=by
 rcases h with ⟨s,e',HW,h1,h2⟩ | ⟨i0,ch,W2,s,HW,h0,h1,h2,h3⟩
 ·exact .inl ⟨s,e',HW,HK (DF hle) h1,h2⟩
 ·exact .inr ⟨i0,ch,W2,s,HW,h0,Ii (DF hle) h1,Ik (SO (DF hle)) h2,h3⟩
theorem DS {ops:Array Oper} {fl:List (Nat × Value × Option As)} {KP:List PanicEntry→CW→Prop} {K:Env→CW→List (Nat × CW)→List (Nat × (CW→Prop))→Prop}:∀ {rest:List Oper} {i:Nat} {sk:List Nat} {e:Env} {W:CW} {ws:List (Nat × CW)} {rd:List (Nat × (CW→Prop))} {a:AI} {ds:List Deferred} {rd':List (Nat × Oper × AI × Value)},
  Nh P L ops fl KP i sk rest e W ws rd K→AE a e ds→Nj P rd rd'→∃ n,Xj P L ops fl KP K ds a.nt n i rest ⟨a,W,ws,rd'⟩
 | [],i,sk,e,W,ws,rd,a,ds,rd',h,ha,hr=>⟨0,.inl ⟨_,e,rd,rfl,ha,rfl,hr,h⟩⟩
 | o::rest,i,sk,e,W,ws,rd,a,ds,rd',h,ha,hr=>by
  have nt:∀ {n:Nat} {d:Option Tmp} {v:Value} {s1:Dx},Xj P L ops fl KP K ds (a.put d v).nt n (i+1) rest s1→Xj P L ops fl KP K ds a.nt n (i+1) rest s1:=by
   intro n d v s1 hh
   rwa [AI.BL] at hh
  simp only [Nh] at h
  cases hf:fl.find? fun p=>Nat.beq p.1 i with
  | some y =>
   obtain ⟨i',v,ob⟩:=y; rw [hf] at h; obtain ⟨KW,h⟩:=h; obtain ⟨n,hn⟩:=DS (rd':=rd') h (ha.put o.dst v) hr; refine ⟨n,Xj.cons (s1:={ (⟨a,W,ws,rd'⟩:Dx) with a:=a.put o.dst v }) ?_ (nt hn)⟩; unfold BI; rw [hf]; simp only [SX,ha.eval,KW,cond_true]
  | none =>
   rw [hf] at h; obtain ⟨e1,CZ,h,F'⟩:=JB ha h
   cases hw:CO ops o a with
   | false =>
    rw [hw] at h F'; simp only [cond_false] at h; obtain ⟨n,hn⟩:=DS (rd':=rd') h (CZ.put o.dst undef) hr; refine ⟨n,Xj.cons (s1:={ (⟨a,W,ws,rd'⟩:Dx) with a:=a.put o.dst undef }) ?_ (nt hn)⟩; unfold BI; rw [hf]; simp only [F']
   | true =>
    rw [hw] at h F'; simp only [cond_true] at h; have gC:=CZ.eval
    cases hp:CR P o with
    | true =>
     rw [hp] at h; simp only [cond_true] at h
     cases hx:gB P o e1.ev with
     | none=>rw [hx] at h; exact h.elim
     | some v =>
      rw [hx] at h; obtain ⟨n,hn⟩:=DS (rd':=rd') h (CZ.put o.dst v) hr; refine ⟨n,Xj.cons (s1:={ (⟨a,W,ws,rd'⟩:Dx) with a:=a.put o.dst v }) ?_ (nt hn)⟩; rw [IP hf F']; simp only [hp,cond_true,SS hp,gC,hx,vL]
    | false =>
     rw [hp] at h; simp only [cond_false] at h
     cases Iu:DD P o with
     | true =>
      rw [Iu] at h; simp only [cond_true] at h
      cases hx:aD P o e1.ev W with
      | none=>rw [hx] at h; exact h.elim
      | some v =>
       rw [hx] at h; obtain ⟨n,hn⟩:=DS (rd':=(i,o,a,v)::rd') h (CZ.put o.dst v) ⟨⟨rfl,fun W' nY=>by rw [K7 Iu,gC,nY]; rfl⟩,hr⟩; refine ⟨n,Xj.cons (s1:={ (⟨a,W,ws,rd'⟩:Dx) with a:=a.put o.dst v,rd:=(i,o,a,v)::rd' }) ?_ (nt hn)⟩; rw [IP hf F']; simp only [hp,Iu,cond_true,cond_false,K7 Iu,gC,hx,vL]
     | false =>
      rw [Iu] at h; simp only [cond_false] at h; obtain ⟨p,HL,Fh⟩:=Og h; obtain ⟨nx,W1⟩:=p; rw [←gC] at HL
      have pan:∀ {ch:List PanicEntry} {W2:CW} {n1:Nat},De P (CM P L n1) ops fl i o ⟨a,W,ws,rd'⟩=some (ch,W2)→cond (WY o && fl.isEmpty && ws.all fun x=>Be (FB ops i) x.1) (QE P ops i (i+1) sk rest (e1.put o.dst undef) W rd fun rd=>Mw ops ws W rd∧KP ch W2) False→∃ n,Xj P L ops fl KP K ds a.nt n i (o::rest) ⟨a,W,ws,rd'⟩:=by
       intro ch W2 n1 GN hc; rw [cond_eq_ite] at hc; split at hc
       rotate_left
       ·exact hc.elim
       rename_i KW; simp only [Bool.and_eq_true] at KW; have Gq:fl=[]:=by simpa using KW.1.2
       subst Gq; obtain ⟨s,HW,h1,h2,h3,h4,h5,h6⟩:=Gs (R:=CM P L n1) (ws:=ws) (rd':=rd') hc (CZ.put o.dst undef) hr
       refine ⟨n1,.inr ⟨i,ch,W2,s,HW,Nat.le_refl _,by simp only [DQ,GN],?_,?_,h4,by rw [h2,h3]; exact h5,h6⟩⟩
       ·have yi:KL ops i i=true:=by unfold KL; simp
        simp only [CI,GQ,yi,cond_true]; exact h1
       ·rw [h3]; simp only [KW.2,Bool.and_true]; rfl
      cases nx with
      | value v =>
       obtain ⟨n,hn⟩:=DS (rd':=rd') (a:=a.put o.dst v) Fh (CZ.put o.dst v) hr; refine ⟨n,Xj.cons (s1:={ (⟨a,W,ws,rd'⟩:Dx) with a:=a.put o.dst v,W:=W1,ws:=(i,W)::ws }) ?_ (nt hn)⟩; rw [IP hf F']; simp only [hp,Iu,cond_false,HL]
      | skip =>
       obtain ⟨n,hn⟩:=DS (rd':=rd') (a:=a.put o.dst undef) Fh (CZ.put o.dst undef) hr; refine ⟨n,Xj.cons (s1:={ (⟨a,W,ws,rd'⟩:Dx) with a:=a.put o.dst undef,W:=W1,ws:=(i,W)::ws }) ?_ (nt hn)⟩; rw [IP hf F']; simp only [hp,Iu,cond_false,HL]
      | enter f args =>
       obtain ⟨n1,y,hy,hQ⟩:=Fh; obtain ⟨en,W2⟩:=y
       cases en with
       | returned v =>
        obtain ⟨n,hn⟩:=DS (rd':=rd') (a:=a.put o.dst v) hQ (CZ.put o.dst v) hr; refine ⟨max n n1,Xj.cons (s1:={ (⟨a,W,ws,rd'⟩:Dx) with a:=a.put o.dst v,W:=W2,ws:=(i,W)::ws }) ?_ ((nt hn).up (Nat.le_max_left _ _))⟩; rw [IP hf F']; simp only [hp,Iu,cond_false,HL,Wb (Nat.le_max_right n n1) hy,Jm]
       | panicked ch =>
        refine pan (n1:=n1) ?_ hQ; unfold De; rw [hf]; simp only [F',hp,Iu,cond_false,HL,hy]
       | outgrown=>exact hQ.elim
      | round l args =>
       obtain ⟨n1,y,hy,hQ⟩:=Fh; obtain ⟨en,W2⟩:=y
       cases en with
       | returned v =>
        obtain ⟨n,hn⟩:=DS (rd':=rd') (a:=a.put o.dst v) hQ (CZ.put o.dst v) hr; refine ⟨max n n1,Xj.cons (s1:={ (⟨a,W,ws,rd'⟩:Dx) with a:=a.put o.dst v,W:=W2,ws:=(i,W)::ws }) ?_ ((nt hn).up (Nat.le_max_left _ _))⟩; rw [IP hf F']; simp only [hp,Iu,cond_false,HL,SW (Nat.le_max_right n n1) hy,Jm]
       | panicked ch =>
        refine pan (n1:=n1) ?_ hQ; unfold De; rw [hf]; simp only [F',hp,Iu,cond_false,HL,hy]
       | outgrown=>exact hQ.elim
      | defer d=>exact Fh.elim
      | recover=>exact Fh.elim
      | panic v =>
       exfalso
       have HJ:WY o=false:=by
        unfold WY
        split
        ·rename_i c hc
         split
         ·rename_i f hcf
          exfalso
          simp only [BD,hc,hcf] at HL
          split at HL
          ·split at HL
           ·cases HL
           ·cases HL
          ·rename_i D5
           cases HL
           unfold G_ at D5; split at D5 <;> cases D5
          ·cases HL
         ·rfl
        ·rfl
       rw [HJ] at Fh; exact Fh
theorem Wc {ops:Array Oper} {a:AI} {e:Env} {ds:List Deferred} {W:CW} {K:Env→CW→Prop} {KP:List PanicEntry→CW→Prop} (h:bS P L ops e W K KP) (ha:AE a e ds) :
  ∃ n,(∃ a' W' e',G3 P (CM P L n) ops a W=some [(.normal,a',W')]∧AE a' e' ds∧a'.nt=a.nt∧K e' W')∨∃ ch W',G3 P (CM P L n) ops a W=some [(.panic ch,a.bad,W')]∧KP ch W':=by
 unfold bS at h; rw [←ha.eval,←K8] at h
 split at h
 ·rename_i fl W1 CY; obtain ⟨n,hn⟩:=DS (ds:=ds) (rd':=[]) h ha trivial; refine ⟨n,?_⟩
  rcases hn with ⟨s,e',HW,h1,h2,h3,h4,h5,h6,h7⟩ | ⟨i0,ch,W2,s,HW,h0,h1,h2,h3,h4,h5,h6⟩
  ·refine .inl ⟨s.a,s.W,e',?_,h2,h3,h7⟩; unfold G3; rw [CY]; simp only [h1]; have e1:=Lb (L:=L) (n:=n) h5 h4; have e2:=SY h6
   show cond (s.rd.all fun (i,o,a,v)=>CS ops i (FB ops i) (fun W=>match BD P o a.eval W with | some [(.value u,_)]=>(CM P L n).eqv u v | _=>false) s.ws s.W)
    (cond (fl.all fun (i,v,ob)=>CS ops i (FB ops i) (fun W=>match v with | .pointer (some b)=>B6 (W.obj b.block) ob | .map (some b)=>B6 (W.obj b) ob | .slice (some b) _ _=>B6 (W.obj b.block) ob | _=>false) s.ws s.W)
     (some [(Exit.normal,s.a,s.W)]) none) none=_
   rw [e1,e2]; rfl
  ·refine .inr ⟨ch,W2,?_,h6⟩; unfold G3; rw [CY]; simp only [Ij h1,h1,h2,h3,cond_true]; have e1:=Lb (L:=L) (n:=n) h5 h4; show cond (s.rd.all fun (i,o,a,v)=>CS ops i (FB ops i) (fun W=>match BD P o a.eval W with | some [(.value u,_)]=>(CM P L n).eqv u v | _=>false) s.ws s.W) (some [(Exit.panic ch,a.bad,W2)]) none=_; rw [e1]; rfl
 ·exact h.elim
end
end Go.Ce
namespace Go.Ce
section
variable {P:Program} {L:List FuncId}
theorem GA (n:Nat):CM P L (n+1)=Bx P L (CM P L n):=rfl
theorem D1 {α β:Type} {x:α} {f:α→Option (List β)} {y:List β} (h:f x=some y):B0 (some [x]) f=some y:=BK x f h
theorem Ek {ro:Option Nat} {fn:FuncId} {nt:Nat}:∀ {c:Code} {e:Env} {ds:List Deferred} {W:CW} {K:Exit→Env→List Deferred→CW→Prop},AP P L ro fn nt c e ds W K→C1 P L ro fn nt c e ds W K:=by
 intro c
 induction c with
 | skip =>
  intro e ds W K h a ha hn; exact ⟨1,(.normal,a,W),rfl,e,by rw [ha.2]; exact ha,hn,by rw [ha.2]; exact h⟩
 | label id =>
  intro e ds W K h a ha hn; exact ⟨1,(.normal,a,W),rfl,e,by rw [ha.2]; exact ha,hn,by rw [ha.2]; exact h⟩
 | exit id =>
  intro e ds W K h a ha hn; exact ⟨1,(.exit id,a,W),rfl,e,by rw [ha.2]; exact ha,hn,by rw [ha.2]; exact h⟩
 | ret =>
  intro e ds W K h a ha hn; exact ⟨1,(.ret,a,W),rfl,e,by rw [ha.2]; exact ha,hn,by rw [ha.2]; exact h⟩
 | region id ops d =>
  intro e ds W K h a ha hn
  cases d with
  | false =>
   obtain ⟨n,o,e',h1,h2,h3,h4⟩:=Fg h ha; exact ⟨n+1,o,h1,e',h2,by rw [h3,hn],h4⟩
  | true =>
   simp only [AP] at h
   cases hm:Be L (fn+1500000) with
   | false =>
    rw [hm] at h; obtain ⟨n,a',W',e',h1,h2,h3,h4⟩:=Ye h ha; exact ⟨n+1,(.normal,a',W'),h1,e',by rw [h2.2]; exact h2,by rw [←hn]; exact h3,by rw [h2.2]; exact h4⟩
   | true =>
    rw [hm] at h
    obtain ⟨n,⟨a',W',e',h1,h2,h3,h4⟩ | ⟨ch,W',h1,h4⟩⟩:=Wc h ha
    ·exact ⟨n+1,(.normal,a',W'),h1,e',by rw [h2.2]; exact h2,by rw [←hn]; exact h3,by rw [h2.2]; exact h4⟩
    ·refine ⟨n+1,(.panic ch,a.bad,W'),h1,Env.bad,⟨fun t=>?_,rfl⟩,hn,by show K (.panic ch) Env.bad a.defers W'; rw [ha.2]; exact h4⟩; show (AI.bad a).at t=Env.bad t; unfold AI.bad AI.at Env.bad; simp only [Tr.BV,Tr.get_nil,cond_eq_ite,Nat.beq_eq]; split <;> rfl
 | seq x y Vv Vw =>
  intro e ds W K h a ha hn; obtain ⟨n,⟨x1,a1,W1⟩,h1,e1,h2,h3,h4⟩:=Vv h a ha hn
  cases x1 with
  | normal =>
   obtain ⟨m,o,h5,h6⟩:=Vw h4 a1 h2 h3; refine ⟨max n m+1,o,?_,h6⟩; show Gn ((CM P L (max n m)).code ro fn x a W) ((CM P L (max n m)).code ro fn y)=some [o]; rw [FU (Nat.le_max_left n m) h1]; exact D1 (FU (Nat.le_max_right n m) h5)
  | _ =>
   refine ⟨n+1,_,?_,e1,h2,h3,h4⟩; show Gn ((CM P L n).code ro fn x a W) ((CM P L n).code ro fn y)=_; rw [h1]; exact D1 rfl
 | cond c x y Vv Vw =>
  intro e ds W K h a ha hn; obtain ⟨b,hb,h⟩:=bQ h; have hc:a.eval c=.bool b:=by rw [ha.eval]; exact hb
  cases b with
  | true =>
   obtain ⟨n,o,h1,h2⟩:=Vv h a ha hn; refine ⟨n+1,o,?_,h2⟩; show (match a.eval c with | .bool b=>(CM P L n).code ro fn (cond b x y) a W | _=>none)=_; rw [hc]; exact h1
  | false =>
   obtain ⟨n,o,h1,h2⟩:=Vw h a ha hn; refine ⟨n+1,o,?_,h2⟩; show (match a.eval c with | .bool b=>(CM P L n).code ro fn (cond b x y) a W | _=>none)=_; rw [hc]; exact h1
 | block id b ih =>
  intro e ds W K h a ha hn; obtain ⟨n,⟨x1,a1,W1⟩,h1,e1,h2,h3,h4⟩:=ih h a ha hn
  have key:∀ {r:Exit × AI × CW} {f:Exit × AI × CW→Jb},(∀ e a W,f (e,a,W)=match e with
    | .exit PV=>cond (Nat.beq PV id) (some [(.normal,a,W)]) (some [(.exit PV,a,W)])
    | e=>some [(e,a,W)])→f (x1,a1,W1)=some [r]→(CM P L (n+1)).code ro fn (.block id b) a W=some [r]:=by
   intro r f hf hr
   show (B0 ((CM P L n).code ro fn b a W) fun (e,a,W)=>match e with
    | .exit PV=>cond (Nat.beq PV id) (some [(.normal,a,W)]) (some [(.exit PV,a,W)])
    | e=>some [(e,a,W)])=_
   rw [h1]; refine D1 ?_; rw [←hr,hf]
  cases x1 with
  | exit PV =>
   cases hq:Nat.beq PV id with
   | true =>
    simp only [BU,hq,cond_true] at h4
    exact ⟨n+1,(.normal,a1,W1),key (f:=fun (e,a,W)=>match e with
     | .exit PV=>cond (Nat.beq PV id) (some [(.normal,a,W)]) (some [(.exit PV,a,W)])
     | e=>some [(e,a,W)]) (fun e a W=>by cases e <;> rfl) (by simp only [hq,cond_true]),e1,h2,h3,h4⟩
   | false =>
    simp only [BU,hq,cond_false] at h4
    exact ⟨n+1,(.exit PV,a1,W1),key (f:=fun (e,a,W)=>match e with
     | .exit PV=>cond (Nat.beq PV id) (some [(.normal,a,W)]) (some [(.exit PV,a,W)])
     | e=>some [(e,a,W)]) (fun e a W=>by cases e <;> rfl) (by simp only [hq,cond_false]),e1,h2,h3,h4⟩
  | _=>exact ⟨n+1,_,key (f:=fun (e,a,W)=>match e with
     | .exit PV=>cond (Nat.beq PV id) (some [(.normal,a,W)]) (some [(.exit PV,a,W)])
     | e=>some [(e,a,W)]) (fun e a W=>by cases e <;> rfl) rfl,e1,h2,h3,h4⟩
 | scope b ih =>
  intro e ds W K h a ha hn; obtain ⟨n,o,h1,h2⟩:=ih h a ha hn; exact ⟨n+1,o,h1,h2⟩
 | _=>intro e ds W K h; exact h
theorem yj {ro:Option Nat} {fn:FuncId} {nt:Nat} {b:Code} {K:Exit→Env→List Deferred→CW→Prop} (Inv:Nat→Env→List Deferred→CW→Prop)
  (KF:∀ k e ds W,Inv k e ds W→AP P L ro fn nt b e ds W fun x e' C_ W'=>match x with
   | .normal=>∃ k',k'<k∧Inv k' e' C_ W'
   | x=>K x e' C_ W'):∀ k e ds W,Inv k e ds W→C1 P L ro fn nt (.loop b) e ds W K:=by
 intro k
 induction k using Nat.strongRecOn with
 | ind k ih =>
  intro e ds W hi a ha hn; obtain ⟨n,⟨x1,a1,W1⟩,h1,e1,h2,h3,h4⟩:=Ek (KF k e ds W hi) a ha hn
  cases x1 with
  | normal =>
   obtain ⟨k',hk,IH⟩:=h4; obtain ⟨m,o,h5,h6⟩:=ih k' hk e1 a1.defers W1 IH a1 h2 h3; refine ⟨max n m+1,o,?_,h6⟩; show Gn ((CM P L (max n m)).code ro fn b a W) ((CM P L (max n m)).code ro fn (.loop b))=some [o]; rw [FU (Nat.le_max_left n m) h1]; exact D1 (FU (Nat.le_max_right n m) h5)
  | _ =>
   refine ⟨n+1,_,?_,e1,h2,h3,h4⟩; show Gn ((CM P L n).code ro fn b a W) ((CM P L n).code ro fn (.loop b))=_; rw [h1]; exact D1 rfl
def Env.args (args:List Value):Env:=fun t=>match args[t]? with
 | some v=>v
 | none=>undef
theorem SZ (fn:Func) (args:List Value):AE (F6 fn args) (Env.args args) []:=by
 refine ⟨fun t=>?_,rfl⟩; unfold F6 AI.at Env.args; simp only [Tr.IG,Nat.zero_le,true_and,Nat.zero_add,Nat.sub_zero,Tr.get_nil]
 by_cases h:t<args.length
 ·rw [if_pos h,List.getElem?_eq_getElem h]; rfl
 ·rw [if_neg h,List.getElem?_eq_none (by omega)]; rfl
def gD (P:Program) (r:ResultVar) (e:Env) (W:CW):Option Value:=match r with
 | .tmp t=>some (e t)
 | .cell s ty=>match e s with
  | .pointer (some p)=>IC P ty p W
  | _=>none
def Hp (P:Program):List ResultVar→Env→CW→Option (List Value)
 | [],_,_=>some []
 | r::rs,e,W=>match gD P r e W with
  | some v=>match Hp P rs e W with
   | some vs=>some (v::vs)
   | none=>none
  | none=>none
def Bu (P:Program) (rs:List ResultVar) (e:Env) (W:CW):Option Value:=match Hp P rs e W with
 | some [v]=>some v
 | some vs=>some (.tuple vs.toArray)
 | none=>none
theorem get_at {a:AI} {e:Env} {ds:List Deferred} (h:AE a e ds) (t:Tmp):(match a.t.get t with | some v=>v | none=>undef)=e t:=by
 rw [←h.1 t]; unfold AI.at
 cases a.t.get t <;> rfl
theorem oe {a:AI} {e:Env} {ds:List Deferred} (h:AE a e ds) {t:Tmp} {p:Addr} (hp:e t=.pointer (some p)):a.t.get t=some (.pointer (some p)):=by
 have:=h.1 t; rw [hp] at this; unfold AI.at at this
 cases hg:a.t.get t with
 | none=>rw [hg] at this; cases this
 | some v=>rw [hg] at this; exact congrArg some this
theorem Sh {a:AI} {e:Env} {ds:List Deferred} (ha:AE a e ds) {W:CW}:∀ {rs:List ResultVar} {vs:List Value},Hp P rs e W=some vs→rs.mapM (Ge P a W)=some vs
 | [],vs,h=>by simpa [Hp] using h
 | r::rs,vs,h=>by
  simp only [Hp] at h
  split at h
  ·rename_i v hv
   split at h
   ·rename_i vs' xI
    cases h
    have h1:Ge P a W r=some v:=by
     unfold gD at hv; unfold Ge
     split at hv
     ·rename_i t; show some (match a.t.get t with | some v=>v | none=>undef)=some v; rw [get_at ha]; exact hv
     ·rename_i s ty
      split at hv
      ·rename_i p hp; show (match a.t.get s with | some (.pointer (some p))=>IC P ty p W | _=>none)=some v; rw [oe ha hp]; exact hv
      ·cases hv
    simp only [List.mapM_cons,h1,Sh ha xI]; rfl
   ·cases h
  ·cases h
theorem Mx {fn:Func} {a:AI} {e:Env} {ds:List Deferred} (ha:AE a e ds) {W:CW} {v:Value} (h:Bu P fn.results.toList e W=some v):FG P fn a W=some v:=by
 unfold Bu at h; unfold FG
 cases hr:Hp P fn.results.toList e W with
 | none=>rw [hr] at h; cases h
 | some vs =>
  rw [hr] at h; rw [Sh ha hr]
  match vs,h with
  | [],h=>exact h
  | [v],h=>exact h
  | _::_::_,h=>exact h
def AK (P:Program) (fn:Func) (Q:Ending→CW→Prop) (x:Exit) (e:Env):List Deferred→CW→Prop
 | [],W=>match x with
  | .normal=>wV (Bu P fn.results.toList e W) fun v=>Q (.returned v) W
  | .ret=>wV (Bu P fn.results.toList e W) fun v=>Q (.returned v) W
  | .panic ch=>Q (.panicked ch) W
  | _=>False
 | d::ds,W=>match d.target with
  | .collected r=>W.obj r=some .deferred∧AK P fn Q x e ds (W.A4 r .dead)
  | _=>False
def behind (P:Program) (R:B5) (fn:Func) (x:Exit) (a:AI) (W:CW):Ends:=match x with
 | .normal=>leaves P R fn a a.defers .returning W
 | .ret=>leaves P R fn a a.defers .returning W
 | .panic ch=>cond a.KC (FR a.defers ch W) (leaves P R fn a a.defers (.panicking ch) W)
 | _=>none
theorem Sp {fn:Func} {e:Env} {Q:Ending→CW→Prop} {ch:List PanicEntry}:∀ (ds:List Deferred) (W:CW),AK P fn Q (.panic ch) e ds W→∃ o:Ending × CW,FR ds ch W=some [o]∧Q o.1 o.2
 | [],W,h=>⟨(.panicked ch,W),rfl,h⟩
 | d::ds,W,h=>by
  obtain ⟨tg,s8⟩:=d
  cases tg with
  | collected r =>
   obtain ⟨ho,h⟩:=h; obtain ⟨o,h1,h2⟩:=Sp ds (W.A4 r .dead) h; exact ⟨o,by simp only [FR,ho]; exact h1,h2⟩
  | _=>exact h.elim
theorem Oj {fn:Func} {a:AI} {e:Env} {Q:Ending→CW→Prop} {R:B5} (ha:AE a e a.defers) (x:Exit):∀ (ds:List Deferred) (W:CW),AK P fn Q x e ds W→∃ o:Ending × CW,(match x with
  | .normal=>leaves P R fn a ds .returning W
  | .ret=>leaves P R fn a ds .returning W
  | .panic ch=>leaves P R fn a ds (.panicking ch) W
  | _=>none)=some [o]∧Q o.1 o.2
 | [],W,h=>by
  have fin:wV (Bu P fn.results.toList e W) (fun v=>Q (.returned v) W)→∃ o:Ending × CW,leaves P R fn a [] .returning W=some [o]∧Q o.1 o.2:=by
   intro hw
   cases hv:Bu P fn.results.toList e W with
   | none=>rw [hv] at hw; exact hw.elim
   | some v =>
    rw [hv] at hw; exact ⟨(.returned v,W),by simp only [leaves,Mx ha hv],hw⟩
  cases x with
  | normal=>exact fin h
  | ret=>exact fin h
  | panic ch=>exact ⟨(.panicked ch,W),rfl,h⟩
  | exit id=>exact h.elim
  | goto id=>exact h.elim
  | outgrown=>exact h.elim
 | d::ds,W,h=>by
  obtain ⟨tg,s8⟩:=d
  cases tg with
  | collected r =>
   obtain ⟨ho,h⟩:=h; obtain ⟨o,h1,h2⟩:=Oj ha x ds (W.A4 r .dead) h; refine ⟨o,?_,h2⟩
   cases x <;> first | (simp only [leaves,ho]; exact h1) | exact h1
  | _=>exact h.elim
theorem bT {f:FuncId} {fn:Func} {c:Code} {args:List Value} {W:CW} {Q:Ending→CW→Prop} (hL:Be L f=true) (og:Be L (f+1000000)=false) (kY:Be L (f+2000000)=false) (hf:P.funcs[f]?=some fn) (hc:fn.body=some c)
  (hle:Nat.ble args.length fn.ntmps=true) (h:AP P L none f fn.ntmps c (Env.args args) [] W (AK P fn Q)):AH P L f args W Q:=by
 obtain ⟨n,⟨x,a,W1⟩,h1,e,h2,h3,h4⟩:=Ek h (F6 fn args) (SZ fn args) rfl
 have key:∀ {o:Ending × CW},behind P (CM P L n) fn x a W1=some [o]→(CM P L (n+1)).call f args W=some [o]:=by
  intro o ho; rw [GA]; simp only [Bx,hL,og,kY,hf,hc,hle,Bool.not_true,cond_false,cond_true,Bool.false_and]; rw [h1]; refine D1 ?_; rw [←ho]
  cases x <;> rfl
 simp only at h2 h4
 cases hb:a.KC with
 | false =>
  obtain ⟨o,e1,e2⟩:=Oj (R:=CM P L n) h2 x a.defers W1 h4; exact ⟨n+1,o,key (by unfold behind; cases x <;> first | exact e1 | (simp only [hb,cond_false]; exact e1)),e2⟩
 | true =>
  cases x with
  | panic ch =>
   obtain ⟨o,e1,e2⟩:=Sp a.defers W1 h4; exact ⟨n+1,o,key (by unfold behind; simp only [hb,cond_true]; exact e1),e2⟩
  | _ =>
   obtain ⟨o,e1,e2⟩:=Oj (R:=CM P L n) h2 _ a.defers W1 h4; exact ⟨n+1,o,key (by unfold behind; exact e1),e2⟩
theorem AH.mono {f:FuncId} {args:List Value} {W:CW} {Q Q':Ending→CW→Prop} (h:AH P L f args W Q) (hq:∀ e W,Q e W→Q' e W):AH P L f args W Q':=by
 obtain ⟨n,o,h1,h2⟩:=h; exact ⟨n,o,h1,hq _ _ h2⟩
theorem Ho.mono {l:Nat} {args:List Value} {W:CW} {Q Q':Ending→CW→Prop} (h:Ho P L l args W Q) (hq:∀ e W,Q e W→Q' e W):Ho P L l args W Q':=by
 obtain ⟨n,o,h1,h2⟩:=h; exact ⟨n,o,h1,hq _ _ h2⟩
theorem K9 {f:FuncId} {W:CW} (hL:Be L f=true) (kY:Be L (f+2000000)=true) {Q:Ending→CW→Prop} (h:Q (.returned (.bool true)) W):AH P L f [] W Q:=by
 refine ⟨1,(.returned (.bool true),W),?_,h⟩; rw [GA]; simp only [Bx,hL,kY,Bool.not_true,cond_false,List.isEmpty_nil,Bool.and_self,cond_true]
end
end Go.Ce
namespace Go.Ce
open Go.RowKit (Below)
def Tr.G8 {α:Type} (t:Tr α):List (Nat × α)→Tr α
 | []=>t
 | p::ps=>(t.set p.1 p.2).G8 ps
def Tr.of {α:Type} (l:List (Nat × α)):Tr α:=Tr.nil.G8 l
def CW.G8 (W:CW) (l:List (Nat × As)) (n:Nat):CW:=⟨W.h.G8 l,n⟩
def K_ (l:List (Nat × Value)) (n:Nat):AI:=⟨Tr.of l,n,[]⟩
def steps:Code→List Code
 | .seq x y=>steps x++steps y
 | c=>[c]
def MZ:Code→Nat
 | .seq x y=>MZ x+MZ y+1
 | _=>0
def AS (P:Program) (f:FuncId):Code:=match P.funcs[f]? with
 | some fn=>match fn.body with
  | some c=>c
  | none=>.skip
 | none=>.skip
def C8 (P:Program) (f:FuncId):List Code:=steps (AS P f)
def BQ (R:B5) (ro:Option Nat) (fn:FuncId):List Code→AI→CW→Jb
 | [],a,W=>some [(.normal,a,W)]
 | c::cs,a,W=>Gn (R.code ro fn c a W) (BQ R ro fn cs)
def El:Code→List (Code × Code)
 | .seq x y=>El x++El y
 | .cond _ x y=>El x++El y
 | .block _ b=>El b
 | .scope b=>El b
 | .loop b=>El b
 | .rangeFunc _ _ a b=>(a,b)::(El a++El b)
 | _=>[]
def AO (P:Program) (f:FuncId) (k:Nat):Code:=match (El (AS P f))[k]? with
 | some p=>p.1
 | none=>.skip
def AN (P:Program) (f:FuncId) (k:Nat):Code:=match (El (AS P f))[k]? with
 | some p=>p.2
 | none=>.skip
section
variable {P:Program} {L:List FuncId}
theorem Nk {α β:Type} (f:α→Option (List β)):∀ (l m:List α),EH f (l++m)=(EH f l).bind fun x=>(EH f m).bind fun y=>some (x++y)
 | [],m=>by cases h:EH f m <;> simp [EH,h]
 | x::l,m=>by
  simp only [List.cons_append,EH,Nk f l m]
  cases f x <;> simp
  cases EH f l <;> simp
  cases EH f m <;> simp
theorem Yf {α β γ:Type} (o:Option (List α)) (f:α→Option (List β)) (g:β→Option (List γ)):B0 (B0 o f) g=B0 o fun x=>B0 (f x) g:=by
 cases o with
 | none=>rfl
 | some l =>
  simp only [B0]
  induction l with
  | nil=>rfl
  | cons x l ih =>
   simp only [EH]
   cases hx:f x with
   | none=>rfl
   | some y =>
    simp only
    cases hl:EH f l with
    | none =>
     rw [hl] at ih; simp only at ih ⊢
     cases EH g y with
     | none=>rfl
     | some z=>simp only [←ih]
    | some m =>
     rw [hl] at ih; simp only at ih ⊢; rw [Nk,←ih]
     cases EH g y <;> simp
     cases EH g m <;> simp
theorem bU {α:Type} (o:Option (List α)):B0 o (fun x=>some [x])=o:=by
 cases o with
 | none=>rfl
 | some l =>
  simp only [B0]
  induction l with
  | nil=>rfl
  | cons x l ih=>simp [EH,ih]
theorem bV (o:Jb) (f g:AI→CW→Jb):Gn (Gn o f) g=Gn o fun a W=>Gn (f a W) g:=by
 unfold Gn; rw [Yf]; congr 1; funext ⟨e,a,W⟩
 cases e <;> rfl
theorem gE (o:Jb):Gn o (fun a W=>some [(.normal,a,W)])=o:=by
 unfold Gn
 have:(fun (x:Exit × AI × CW)=>match x with
  | (e,a,W)=>match e with
   | .normal=>some [(Exit.normal,a,W)]
   | e=>some [(e,a,W)])=fun x=>some [x]:=by
  funext ⟨e,a,W⟩
  cases e <;> rfl
 exact (congrArg (B0 o) this).trans (bU o)
theorem Hq {R:B5} {ro:Option Nat} {fn:FuncId}:∀ (xs ys:List Code) (a:AI) (W:CW),BQ R ro fn (xs++ys) a W=Gn (BQ R ro fn xs a W) (BQ R ro fn ys)
 | [],ys,a,W=>by
  simp only [List.nil_append,BQ,Gn]; unfold B0; simp [EH]
  cases BQ R ro fn ys a W <;> simp
 | x::xs,ys,a,W=>by
  simp only [List.cons_append,BQ]; rw [bV]; congr 1; funext a W; exact Hq xs ys a W
theorem Ok {n m:Nat} (h:n≤m) {ro:Option Nat} {fn:FuncId}:∀ {cs:List Code} {a:AI} {W:CW} {o:List (Exit × AI × CW)},BQ (CM P L n) ro fn cs a W=some o→BQ (CM P L m) ro fn cs a W=some o
 | [],a,W,o,e=>e
 | c::cs,a,W,o,e=>by
  simp only [BQ] at e ⊢; exact I_ (.refl (B5.base fun _ _=>false)) (fun l hl=>FU h hl) (fun a W r hr=>Ok h hr) e
theorem gF:∀ (c:Code) {n:Nat} {ro:Option Nat} {fn:FuncId} {a:AI} {W:CW} {o:List (Exit × AI × CW)},BQ (CM P L n) ro fn (steps c) a W=some o→(CM P L (n+MZ c)).code ro fn c a W=some o:=by
 intro c
 induction c with
 | seq x y Vv Vw =>
  intro n ro fn a W o h; simp only [steps] at h; rw [Hq] at h; show (CM P L (n+(MZ x+MZ y)+1)).code ro fn (.seq x y) a W=some o; show Gn ((CM P L (n+(MZ x+MZ y))).code ro fn x a W) ((CM P L (n+(MZ x+MZ y))).code ro fn y)=some o; exact I_ (.refl (B5.base fun _ _=>false)) (fun l hl=>FU (by omega) (Vv hl)) (fun a W r hr=>FU (by omega) (Vw hr)) h
 | _ =>
  intro n ro fn a W o h; simp only [steps,BQ] at h; rw [←h]; exact (gE _).symm
theorem oh (n:Nat):(Z4 P L n).Le (CM P L n):=eC (fun {u v} h=>by rw [Fs 8 u v h]; exact @decide_eq_true _ (Classical.propDecidable _) rfl) n
theorem bW {n:Nat} {ro:Option Nat} {fn:FuncId}:∀ {cs:List Code} {a:AI} {W:CW} {o:List (Exit × AI × CW)},BQ (Z4 P L n) ro fn cs a W=some o→BQ (CM P L n) ro fn cs a W=some o
 | [],a,W,o,e=>e
 | c::cs,a,W,o,e=>by
  simp only [BQ] at e ⊢; exact I_ (.refl (B5.base fun _ _=>false)) (fun l hl=>(oh n).code hl) (fun a W r hr=>bW hr) e
def Hr (P:Program) (L:List FuncId) (f:FuncId) (i:Nat) (a:AI) (W:CW) (x:Exit) (a':AI) (W':CW):Prop:=∃ n,BQ (CM P L n) none f ((C8 P f).drop i) a W=some [(x,a',W')]
theorem Hr.nZ {f:FuncId} {i:Nat} (j n:Nat) {a a1 a2:AI} {W W1 W2:CW} {x:Exit} (h:BQ (Z4 P L n) none f (((C8 P f).drop i).take j) a W=some [(.normal,a1,W1)]) (hk:Hr P L f (i+j) a1 W1 x a2 W2):Hr P L f i a W x a2 W2:=by
 obtain ⟨m,hm⟩:=hk; refine ⟨max n m,?_⟩
 have e:(C8 P f).drop i=((C8 P f).drop i).take j++(C8 P f).drop (i+j):=by
  rw [←List.drop_drop,List.take_append_drop]
 rw [e,Hq,Ok (Nat.le_max_left n m) (bW h)]; show Gn (some [(.normal,a1,W1)]) _=_; unfold Gn; exact BK _ _ (Ok (Nat.le_max_right n m) hm)
theorem Hr.end {f:FuncId} {i:Nat} (n:Nat) {a a1:AI} {W W1:CW} {x:Exit} (h:BQ (Z4 P L n) none f ((C8 P f).drop i) a W=some [(x,a1,W1)]):Hr P L f i a W x a1 W1:=⟨n,bW h⟩
theorem Hr.call {f:FuncId} {fn:Func} {a:AI} {W W1:CW} {v:Value} {args:List Value} (hL:Be L f=true) (og:Be L (f+1000000)=false) (kY:Be L (f+2000000)=false) (hf:P.funcs[f]?=some fn) (hb:fn.body.isSome=true)
  (hle:Nat.ble args.length fn.ntmps=true) (h:Hr P L f 0 (F6 fn args) W .ret a W1) (hd:a.defers=[]) (hv:FG P fn a W1=some v):∃ n,(CM P L n).call f args W=some [(.returned v,W1)]:=by
 obtain ⟨n,h⟩:=h
 cases hc:fn.body with
 | none=>rw [hc] at hb; cases hb
 | some c =>
  have hbo:AS P f=c:=by unfold AS; rw [hf]; simp only [hc]
  rw [List.drop_zero] at h; unfold C8 at h; rw [hbo] at h; have h1:=gF c h; refine ⟨n+MZ c+1,?_⟩; rw [GA]; simp only [Bx,hL,og,kY,hf,hc,hle,Bool.not_true,cond_false,cond_true,Bool.false_and]; rw [h1]; refine BK _ _ ?_; show leaves P _ fn a a.defers .returning W1=_; rw [hd]; simp only [leaves,hv]
theorem Wd (hz:ZP P) (Nf:P.follows .mixedOrders=true) (WR:EN P) (U7:CK P L) {f:FuncId} {n:Nat} (h:LX ((CM P L n).call f [] (W0 0))=true) (w:World) (k:Nat) :
  CallsIn (F0 P) k P f #[] w (fun e w'=>e=.returned (.bool true)∧Below w.heap.size w w'):=by
 have hw:AW P w (fun _=>none) (W0 0) w:=⟨(fun i x hx=>by cases hx),(fun i o ho=>by cases ho),(fun i o x ho=>by cases ho),(fun i j o u x y ho=>by cases ho),Below.qo w⟩
 cases ho:(CM P L n).call f [] (W0 0) with
 | none=>rw [ho] at h; cases h
 | some outs =>
  rw [ho] at h; obtain ⟨_,hc⟩:=(eE (w0:=w) hz Nf WR U7 n).call ho (args':=#[]) (.nil _) hw; refine (hc k).mono fun e w' hE=>?_; obtain ⟨e0,W2,ρ2,hm,_,hN,Er⟩:=hE; have:=List.all_eq_true.1 h _ hm; simp only at this
  cases hN with
  | returned hv =>
   split at this
   ·rename_i heq
    cases heq
    cases hv
    exact ⟨rfl,Er.below⟩
   ·cases this
  | panicked _=>cases this
end
end Go.Ce
namespace Go.Ce
def Env.of (b:Env):List (Nat × Value)→Env
 | []=>b
 | p::l=>fun t=>cond (Nat.beq t p.1) p.2 (Env.of b l t)
theorem Aa (b:Env) (d:Nat) (v:Value) (l:List (Nat × Value)) (t:Nat):Env.of b ((d,v)::l) t=if t=d then v else Env.of b l t:=by
 simp only [Env.of,cond_eq_ite,Nat.beq_eq]
theorem Av (b:Env) (t:Nat):Env.of b [] t=b t:=rfl
def Gh:Code→List Code
 | .seq x y=>Gh x++Gh y
 | .cond _ x y=>Gh x++Gh y
 | .block _ b=>Gh b
 | .scope b=>Gh b
 | .loop b=>b::Gh b
 | .rangeFunc _ _ a b=>Gh a++Gh b
 | _=>[]
def Ag (P:Program) (f:FuncId) (k:Nat):Code:=match (Gh (AS P f))[k]? with
 | some c=>c
 | none=>.skip
def qq (W:CW):Option (Value × CW):=some (.map (some W.sz),W.new (.map [] 0))
def ABk (v:Value) (K:List PanicEntry→Prop):Prop:=match v with
 | .iface t y=>K [{ v:=.iface t y,recovered:=false }]
 | _=>False
section
variable {P:Program} {L:List FuncId}
theorem Ab {f:FuncId} {fn:Func} {args:List Value} {W:CW} {Q:Ending→CW→Prop} (hf:P.funcs[f]?=some fn) (hb:fn.body.isSome=true) (hL:Be L f=true) (og:Be L (f+1000000)=false) (kY:Be L (f+2000000)=false)
  (hle:Nat.ble args.length fn.ntmps=true) (h:AP P L none f fn.ntmps (AS P f) (Env.args args) [] W (AK P fn Q)):AH P L f args W Q:=by
 cases hc:fn.body with
 | none=>rw [hc] at hb; cases hb
 | some c =>
  have hbo:AS P f=c:=by unfold AS; rw [hf]; simp only [hc]
  rw [hbo] at h; exact bT hL og kY hf hc hle h
end
end Go.Ce
namespace Go.Ce
def AT:List FuncId:=[16+2000000]++([1500072,1500074,1500121]++(List.range 162).filter fun f=>Nat.ble 3 f && !Nat.beq f 7)
end Go.Ce
namespace Go.Ce
open Go Go.Proofs Go.Proofs.Tryz
def Ol (ro:Option Nat) (K:AG):AG:=Aq (fun e ds W=>K .ret e ds W) K
def RG (ro:Option Nat) (K:AG):AG:=Aq (fun e ds W=>AH prog AT 20 [(e 0),(e 9),(e 10),(e 12),(e 13)] W (AV (fun Lc W4=>wV (ext Lc 0) fun L9=>wV (ext Lc 1) fun Ma=>AH prog AT 27 [(e 0),(e 9)] W4 (AV (fun Gt W6=>wV (ext Gt 0) fun HM=>wV (ext Gt 1) fun Fi=>AH prog AT 16 [] W6 (AV (fun FJ W9=>wI FJ (wV (AQ prog .eql 30 true Ma (.int .i64 0)) fun JC=>wI JC (wV (AQ prog .eql 30 true Fi (.int .i64 0)) fun Jn=>wI Jn ((Ol ro K) .normal (Env.of e [(8,L9),(114,L9),(113,L9),(112,(.bool true)),(112,Jn),(111,Jn),(110,Jn),(108,(.bool true)),(109,Fi),(108,(.bool true)),(108,JC),(107,JC),(106,JC),(104,(.bool true)),(105,Ma),(104,(.bool true)),(104,FJ),(103,FJ),(18,Fi),(17,HM),(102,Fi),(101,HM),(97,Gt),(100,Gt),(99,(e 9)),(98,(e 0)),(16,Ma),(15,L9),(96,Ma),(95,L9),(88,Lc),(94,Lc),(93,(e 13)),(92,(e 12)),(91,(e 10)),(90,(e 9)),(89,(e 0))]) ds W9) ((Ol ro K) .normal (Env.of e [(8,(.bool false)),(114,(.bool false)),(113,undef),(112,(.bool false)),(112,Jn),(111,Jn),(110,Jn),(108,(.bool true)),(109,Fi),(108,(.bool true)),(108,JC),(107,JC),(106,JC),(104,(.bool true)),(105,Ma),(104,(.bool true)),(104,FJ),(103,FJ),(18,Fi),(17,HM),(102,Fi),(101,HM),(97,Gt),(100,Gt),(99,(e 9)),(98,(e 0)),(16,Ma),(15,L9),(96,Ma),(95,L9),(88,Lc),(94,Lc),(93,(e 13)),(92,(e 12)),(91,(e 10)),(90,(e 9)),(89,(e 0))]) ds W9)) ((Ol ro K) .normal (Env.of e [(8,(.bool false)),(114,(.bool false)),(113,undef),(112,(.bool false)),(112,(.bool false)),(111,(.bool false)),(110,undef),(108,(.bool false)),(109,undef),(108,(.bool false)),(108,JC),(107,JC),(106,JC),(104,(.bool true)),(105,Ma),(104,(.bool true)),(104,FJ),(103,FJ),(18,Fi),(17,HM),(102,Fi),(101,HM),(97,Gt),(100,Gt),(99,(e 9)),(98,(e 0)),(16,Ma),(15,L9),(96,Ma),(95,L9),(88,Lc),(94,Lc),(93,(e 13)),(92,(e 12)),(91,(e 10)),(90,(e 9)),(89,(e 0))]) ds W9)) ((Ol ro K) .normal (Env.of e [(8,(.bool false)),(114,(.bool false)),(113,undef),(112,(.bool false)),(112,(.bool false)),(111,(.bool false)),(110,undef),(108,(.bool false)),(109,undef),(108,(.bool false)),(108,(.bool false)),(107,(.bool false)),(106,undef),(104,(.bool false)),(105,undef),(104,(.bool false)),(104,FJ),(103,FJ),(18,Fi),(17,HM),(102,Fi),(101,HM),(97,Gt),(100,Gt),(99,(e 9)),(98,(e 0)),(16,Ma),(15,L9),(96,Ma),(95,L9),(88,Lc),(94,Lc),(93,(e 13)),(92,(e 12)),(91,(e 10)),(90,(e 9)),(89,(e 0))]) ds W9)) (fun Wf QF=>(Ol ro K) (.panic Wf) (Env.of e [(18,Fi),(17,HM),(102,Fi),(101,HM),(97,Gt),(100,Gt),(99,(e 9)),(98,(e 0)),(16,Ma),(15,L9),(96,Ma),(95,L9),(88,Lc),(94,Lc),(93,(e 13)),(92,(e 12)),(91,(e 10)),(90,(e 9)),(89,(e 0))]) ds QF))) (fun s_ W7=>K (.panic s_) (Env.of e [(99,(e 9)),(98,(e 0)),(16,Ma),(15,L9),(96,Ma),(95,L9),(88,Lc),(94,Lc),(93,(e 13)),(92,(e 12)),(91,(e 10)),(90,(e 9)),(89,(e 0))]) ds W7))) (fun kZ W5=>K (.panic kZ) (Env.of e [(93,(e 13)),(92,(e 12)),(91,(e 10)),(90,(e 9)),(89,(e 0))]) ds W5))) K
def Nl (ro:Option Nat) (K:AG):AG:=Aq (fun e ds W=>wI (e 87) ((RG ro K) .ret (Env.of e [(8,(.bool false))]) ds W) ((RG ro K) .normal e ds W)) (RG ro K)
def Nm (ro:Option Nat) (K:AG):AG:=Aq (fun e ds W=>AH prog AT 19 [(e 0),(e 1),(e 3)] W (AV (fun Ld W2=>wV (ext Ld 0) fun GY=>wV (ext Ld 1) fun KQ=>wV (ext Ld 2) fun Fw=>wV (AQ prog .neq 30 true Fw (.int .i64 0)) fun Jo=>wI Jo ((Nl ro K) .normal (Env.of e [(87,(.bool true)),(86,undef),(79,(.bool true)),(85,undef),(79,(.bool true)),(84,undef),(79,(.bool true)),(83,undef),(79,(.bool true)),(82,undef),(79,(.bool true)),(81,undef),(79,(.bool true)),(80,undef),(79,(.bool true)),(79,(.bool true)),(78,(.bool true)),(77,undef),(69,(.bool true)),(76,undef),(69,(.bool true)),(75,undef),(69,(.bool true)),(74,undef),(69,(.bool true)),(73,undef),(69,(.bool true)),(72,undef),(69,(.bool true)),(71,undef),(69,(.bool true)),(70,undef),(69,(.bool true)),(69,Jo),(68,Jo),(67,Fw),(14,Fw),(13,KQ),(12,GY),(66,Fw),(65,KQ),(64,GY),(59,Ld),(63,Ld),(62,(e 3)),(61,(e 1)),(60,(e 0))]) ds W2) (wV (AY prog 24 (e 9) W2) fun QG=>wV (AY prog 24 (e 2) W2) fun na=>wV (AY prog 24 GY W2) fun LA=>wV (AQ prog .add 3 false na LA) fun L_=>wV (AQ prog .neq 3 false QG L_) fun M'=>wI M' ((Nl ro K) .normal (Env.of e [(87,(.bool true)),(86,undef),(79,(.bool true)),(85,undef),(79,(.bool true)),(84,undef),(79,(.bool true)),(83,undef),(79,(.bool true)),(82,undef),(79,(.bool true)),(81,undef),(79,(.bool true)),(80,undef),(79,(.bool true)),(79,M'),(78,M'),(77,M'),(69,(.bool false)),(76,L_),(69,(.bool false)),(75,LA),(69,(.bool false)),(74,GY),(69,(.bool false)),(73,na),(69,(.bool false)),(72,(e 2)),(69,(.bool false)),(71,QG),(69,(.bool false)),(70,(e 9)),(69,(.bool false)),(69,Jo),(68,Jo),(67,Fw),(14,Fw),(13,KQ),(12,GY),(66,Fw),(65,KQ),(64,GY),(59,Ld),(63,Ld),(62,(e 3)),(61,(e 1)),(60,(e 0))]) ds W2) (wV (AY prog 24 (e 2) W2) fun Sq=>wV (eF prog 24 (e 9) none (some Sq) none W2) fun UW=>AH prog AT 24 [UW,(e 2)] W2 (AV (fun M_ bX=>wV (KO M_) fun Wg=>(Nl ro K) .normal (Env.of e [(87,Wg),(86,Wg),(79,(.bool false)),(85,M_),(79,(.bool false)),(84,(e 2)),(79,(.bool false)),(83,UW),(79,(.bool false)),(82,Sq),(79,(.bool false)),(81,(e 2)),(79,(.bool false)),(80,(e 9)),(79,(.bool false)),(79,M'),(78,M'),(77,M'),(69,(.bool false)),(76,L_),(69,(.bool false)),(75,LA),(69,(.bool false)),(74,GY),(69,(.bool false)),(73,na),(69,(.bool false)),(72,(e 2)),(69,(.bool false)),(71,QG),(69,(.bool false)),(70,(e 9)),(69,(.bool false)),(69,Jo),(68,Jo),(67,Fw),(14,Fw),(13,KQ),(12,GY),(66,Fw),(65,KQ),(64,GY),(59,Ld),(63,Ld),(62,(e 3)),(61,(e 1)),(60,(e 0))]) ds bX) (fun tB Lf=>(Nl ro K) (.panic tB) (Env.of e [(79,(.bool false)),(84,(e 2)),(79,(.bool false)),(83,UW),(79,(.bool false)),(82,Sq),(79,(.bool false)),(81,(e 2)),(79,(.bool false)),(80,(e 9)),(79,(.bool false)),(79,M'),(78,M'),(77,M'),(69,(.bool false)),(76,L_),(69,(.bool false)),(75,LA),(69,(.bool false)),(74,GY),(69,(.bool false)),(73,na),(69,(.bool false)),(72,(e 2)),(69,(.bool false)),(71,QG),(69,(.bool false)),(70,(e 9)),(69,(.bool false)),(69,Jo),(68,Jo),(67,Fw),(14,Fw),(13,KQ),(12,GY),(66,Fw),(65,KQ),(64,GY),(59,Ld),(63,Ld),(62,(e 3)),(61,(e 1)),(60,(e 0))]) ds Lf))))) (fun Yg W3=>K (.panic Yg) (Env.of e [(62,(e 3)),(61,(e 1)),(60,(e 0))]) ds W3))) K
def Nn (ro:Option Nat) (K:AG):AG:=Aq (fun e ds W=>(Nm ro K) .ret e ds W) (Nm ro K)
def Lg (ro:Option Nat) (K:AG):AG:=Aq (fun e ds W=>AH prog AT 30 [(e 0),(e 1),(e 2),(e 3)] W (AV (fun D9 W0=>wV (ext D9 0) fun Lh=>wV (ext D9 1) fun FC=>wV (ext D9 2) fun GJ=>wV (AQ prog .neq 30 true GJ (.int .i64 0)) fun F2=>wI F2 (AH prog AT 16 [] W0 (AV (fun Fx VA=>wI Fx (wV (AY prog 24 Lh VA) fun NA=>wV (AQ prog .eql 3 true NA (.int .i64 0)) fun FD=>wI FD (wV (AQ prog .eql 3 true FC (.int .i64 0)) fun Mb=>(Nn ro K) .normal (Env.of e [(8,Mb),(58,Mb),(57,Mb),(55,(.bool true)),(56,FC),(55,(.bool true)),(55,FD),(54,FD),(53,FD),(50,(.bool true)),(52,NA),(50,(.bool true)),(51,Lh),(50,(.bool true)),(50,Fx),(49,Fx),(48,F2),(47,GJ),(11,GJ),(10,FC),(9,Lh),(46,GJ),(45,FC),(44,Lh),(38,D9),(43,D9),(42,(e 3)),(41,(e 2)),(40,(e 1)),(39,(e 0))]) ds VA) ((Nn ro K) .normal (Env.of e [(8,(.bool false)),(58,(.bool false)),(57,undef),(55,(.bool false)),(56,undef),(55,(.bool false)),(55,FD),(54,FD),(53,FD),(50,(.bool true)),(52,NA),(50,(.bool true)),(51,Lh),(50,(.bool true)),(50,Fx),(49,Fx),(48,F2),(47,GJ),(11,GJ),(10,FC),(9,Lh),(46,GJ),(45,FC),(44,Lh),(38,D9),(43,D9),(42,(e 3)),(41,(e 2)),(40,(e 1)),(39,(e 0))]) ds VA)) ((Nn ro K) .normal (Env.of e [(8,(.bool false)),(58,(.bool false)),(57,undef),(55,(.bool false)),(56,undef),(55,(.bool false)),(55,(.bool false)),(54,(.bool false)),(53,undef),(50,(.bool false)),(52,undef),(50,(.bool false)),(51,undef),(50,(.bool false)),(50,Fx),(49,Fx),(48,F2),(47,GJ),(11,GJ),(10,FC),(9,Lh),(46,GJ),(45,FC),(44,Lh),(38,D9),(43,D9),(42,(e 3)),(41,(e 2)),(40,(e 1)),(39,(e 0))]) ds VA)) (fun bY KX=>(Nn ro K) (.panic bY) (Env.of e [(48,F2),(47,GJ),(11,GJ),(10,FC),(9,Lh),(46,GJ),(45,FC),(44,Lh),(38,D9),(43,D9),(42,(e 3)),(41,(e 2)),(40,(e 1)),(39,(e 0))]) ds KX))) ((Nm ro K) .normal (Env.of e [(48,F2),(47,GJ),(11,GJ),(10,FC),(9,Lh),(46,GJ),(45,FC),(44,Lh),(38,D9),(43,D9),(42,(e 3)),(41,(e 2)),(40,(e 1)),(39,(e 0))]) ds W0)) (fun SE W1=>K (.panic SE) (Env.of e [(42,(e 3)),(41,(e 2)),(40,(e 1)),(39,(e 0))]) ds W1))) K
def Gi (ro:Option Nat) (K:AG):AG:=Aq (fun e ds W=>wI (e 36) (AH prog AT 16 [] W (AV (fun EK QW=>(Lg ro K) .ret (Env.of e [(8,EK),(37,EK)]) ds QW) (fun ABl gG=>(Lg ro K) (.panic ABl) e ds gG))) ((Lg ro K) .normal e ds W)) (Lg ro K)
theorem yk (v0 v1 v2 v3:Value) (K:AG) (W:CW):AP prog AT none 12 115 (AS prog 12) (Env.args [v0,v1,v2,v3]) [] W K=(AH prog AT 13 [v0] W (AV (fun v20 jH=>wV (KO v20) fun DB=>wI DB ((Gi none K) .normal (Env.of (Env.args [v0,v1,v2,v3]) [(36,(.bool true)),(35,undef),(32,(.bool true)),(34,undef),(32,(.bool true)),(33,undef),(32,(.bool true)),(32,(.bool true)),(31,(.bool true)),(30,undef),(27,(.bool true)),(29,undef),(27,(.bool true)),(28,undef),(27,(.bool true)),(27,(.bool true)),(26,(.bool true)),(25,undef),(22,(.bool true)),(24,undef),(22,(.bool true)),(23,undef),(22,(.bool true)),(22,DB),(21,DB),(20,v20),(19,v0),(8,(.bool false))]) [] jH) (AH prog AT 14 [v1] jH (AV (fun E0 Wh=>wV (KO E0) fun EB=>wI EB ((Gi none K) .normal (Env.of (Env.args [v0,v1,v2,v3]) [(36,(.bool true)),(35,undef),(32,(.bool true)),(34,undef),(32,(.bool true)),(33,undef),(32,(.bool true)),(32,(.bool true)),(31,(.bool true)),(30,undef),(27,(.bool true)),(29,undef),(27,(.bool true)),(28,undef),(27,(.bool true)),(27,EB),(26,EB),(25,EB),(22,(.bool false)),(24,E0),(22,(.bool false)),(23,v1),(22,(.bool false)),(22,DB),(21,DB),(20,v20),(19,v0),(8,(.bool false))]) [] Wh) (AH prog AT 15 [v2] Wh (AV (fun DY QX=>wV (KO DY) fun v30=>wI v30 ((Gi none K) .normal (Env.of (Env.args [v0,v1,v2,v3]) [(36,(.bool true)),(35,undef),(32,(.bool true)),(34,undef),(32,(.bool true)),(33,undef),(32,(.bool true)),(32,v30),(31,v30),(30,v30),(27,(.bool false)),(29,DY),(27,(.bool false)),(28,v2),(27,(.bool false)),(27,EB),(26,EB),(25,EB),(22,(.bool false)),(24,E0),(22,(.bool false)),(23,v1),(22,(.bool false)),(22,DB),(21,DB),(20,v20),(19,v0),(8,(.bool false))]) [] QX) (wV (AY prog 29 v3 QX) fun GK=>wV (AQ prog .gtr 3 true GK (.int .i64 3000)) fun EL=>(Gi none K) .normal (Env.of (Env.args [v0,v1,v2,v3]) [(36,EL),(35,EL),(32,(.bool false)),(34,GK),(32,(.bool false)),(33,v3),(32,(.bool false)),(32,v30),(31,v30),(30,v30),(27,(.bool false)),(29,DY),(27,(.bool false)),(28,v2),(27,(.bool false)),(27,EB),(26,EB),(25,EB),(22,(.bool false)),(24,E0),(22,(.bool false)),(23,v1),(22,(.bool false)),(22,DB),(21,DB),(20,v20),(19,v0),(8,(.bool false))]) [] QX)) (fun ABm yl=>(Gi none K) (.panic ABm) (Env.of (Env.args [v0,v1,v2,v3]) [(27,(.bool false)),(28,v2),(27,(.bool false)),(27,EB),(26,EB),(25,EB),(22,(.bool false)),(24,E0),(22,(.bool false)),(23,v1),(22,(.bool false)),(22,DB),(21,DB),(20,v20),(19,v0),(8,(.bool false))]) [] yl)))) (fun ABn gH=>(Gi none K) (.panic ABn) (Env.of (Env.args [v0,v1,v2,v3]) [(22,(.bool false)),(23,v1),(22,(.bool false)),(22,DB),(21,DB),(20,v20),(19,v0),(8,(.bool false))]) [] gH)))) (fun tC bZ=>(Gi none K) (.panic tC) (Env.of (Env.args [v0,v1,v2,v3]) [(19,v0),(8,(.bool false))]) [] bZ))):=by kernel_rfl
theorem gI (Q:Ending→CW→Prop) (e:Env) (W:CW):AK prog Tryz.f12 Q .ret e [] W=Q (.returned (e 8)) W:=by kernel_rfl
theorem ym {Q:Ending→CW→Prop} {v0 v1 v2 v3:Value} {W:CW} (h:AP prog AT none 12 115 (AS prog 12) (Env.args [v0,v1,v2,v3]) [] W (AK prog Tryz.f12 Q)):AH prog AT 12 [v0,v1,v2,v3] W Q:=Ab Tryz.func12 (by kernel_rfl) (by kernel_rfl) (by kernel_rfl) (by kernel_rfl) (by kernel_rfl) h
def RH (ro:Option Nat) (K:AG):AG:=Aq (fun e ds W=>K .ret (Env.of e [(10,(.int .i64 0)),(9,(e 16)),(8,(e 18)),(119,(e 16)),(118,(e 18))]) ds W) K
def eK (ro:Option Nat) (K:AG):AG:=Aq (fun e ds W=>wV (AQ prog .gtr 3 true (e 16) (.int .i64 0)) fun H_=>wI H_ (wV (ld prog 24 (e 6) W) fun MA=>wV (AY prog 24 MA W) fun MB=>wV (AQ prog .add 3 false (e 16) MB) fun HN=>(RH ro K) .normal (Env.of e [(16,HN),(117,HN),(116,MB),(115,MA),(114,(e 16)),(113,H_),(112,(e 16))]) ds W) ((RH ro K) .normal (Env.of e [(113,H_),(112,(e 16))]) ds W)) K
def eL (ro:Option Nat) (K:AG):AG:=Aq (fun e ds W=>wV (AY prog 24 (e 15) W) fun Yh=>C1 prog AT ro 30 120 (.loop (Ag prog 30 1)) (Env.of e [(79,(.int .i64 0)),(78,Yh),(77,(e 15))]) ds W (BU 2 (eK ro K))) K
theorem yn (v0 v1 v2 v3:Value) (K:AG) (W:CW):AP prog AT none 30 120 (AS prog 30) (Env.args [v0,v1,v2,v3]) [] W K=(CD (QU prog 24 v2 W) fun v6 W0=>AH prog AT 47 [v0] W0 (AV (fun D4 W1=>wV (ext D4 0) fun CQ=>wV (ext D4 1) fun DY=>CD (GX prog 78 W1) fun v11 W3=>wV (CP prog 78 v11 CQ W3) fun W4=>wV (KO DY) fun EM=>wI EM (K .ret (Env.of (Env.args [v0,v1,v2,v3]) [(10,(.int .i64 210)),(9,(.int .i64 0)),(8,(.slice none 0 0)),(31,EM),(30,DY),(12,DY),(11,v11),(29,DY),(28,CQ),(25,D4),(27,D4),(26,v0),(10,(.int .i64 0)),(9,(.int .i64 0)),(8,(.slice none 0 0)),(6,v6)]) [] W4) (wV (ld prog 78 v11 W4) fun ET=>AH prog AT 48 [ET,v1] W4 (AV (fun EL W5=>wV (ext EL 0) fun H8=>wV (ext EL 1) fun EK=>CD (GX prog 83 W5) fun Dn W7=>wV (CP prog 83 Dn H8 W7) fun W8=>wV (KO EK) fun G0=>wI G0 (K .ret (Env.of (Env.args [v0,v1,v2,v3]) [(10,(.int .i64 212)),(9,(.int .i64 0)),(8,(.slice none 0 0)),(39,G0),(38,EK),(14,EK),(13,Dn),(37,EK),(36,H8),(32,EL),(35,EL),(34,v1),(33,ET),(31,EM),(30,DY),(12,DY),(11,v11),(29,DY),(28,CQ),(25,D4),(27,D4),(26,v0),(10,(.int .i64 0)),(9,(.int .i64 0)),(8,(.slice none 0 0)),(6,v6)]) [] W8) (wV (ld prog 78 v11 W8) fun E3=>wV (ld prog 24 v6 W8) fun EO=>AH prog AT 84 [E3,EO] W8 (AV (fun G9 W9=>wV (AQ prog .geq 3 true G9 (.int .i64 0)) fun D9=>wI D9 (K .ret (Env.of (Env.args [v0,v1,v2,v3]) [(10,(.int .i64 211)),(9,(.int .i64 0)),(8,(.slice none 0 0)),(43,D9),(42,G9),(41,EO),(40,E3),(39,G0),(38,EK),(14,EK),(13,Dn),(37,EK),(36,H8),(32,EL),(35,EL),(34,v1),(33,ET),(31,EM),(30,DY),(12,DY),(11,v11),(29,DY),(28,CQ),(25,D4),(27,D4),(26,v0),(10,(.int .i64 0)),(9,(.int .i64 0)),(8,(.slice none 0 0)),(6,v6)]) [] W9) (AH prog AT 19 [v0,v1,v3] W9 (AV (fun F2 C'=>wV (ext F2 0) fun Fx=>wV (ext F2 1) fun GZ=>wV (ext F2 2) fun EZ=>wV (AQ prog .neq 30 true EZ (.int .i64 0)) fun FD=>wI FD (K .ret (Env.of (Env.args [v0,v1,v2,v3]) [(10,EZ),(9,(.int .i64 0)),(8,(.slice none 0 0)),(54,EZ),(53,FD),(52,EZ),(17,EZ),(16,GZ),(15,Fx),(51,EZ),(50,GZ),(49,Fx),(44,F2),(48,F2),(47,v3),(46,v1),(45,v0),(43,D9),(42,G9),(41,EO),(40,E3),(39,G0),(38,EK),(14,EK),(13,Dn),(37,EK),(36,H8),(32,EL),(35,EL),(34,v1),(33,ET),(31,EM),(30,DY),(12,DY),(11,v11),(29,DY),(28,CQ),(25,D4),(27,D4),(26,v0),(10,(.int .i64 0)),(9,(.int .i64 0)),(8,(.slice none 0 0)),(6,v6)]) [] C') (wV (ld prog 24 v6 C') fun MC=>wV (AY prog 24 MC C') fun EU=>wV (AY prog 24 Fx C') fun JZ=>wV (AQ prog .add 3 false EU JZ) fun Jp=>wV (AQ prog .gtr 3 true Jp (.int .i64 1000)) fun GO=>wI GO (K .ret (Env.of (Env.args [v0,v1,v2,v3]) [(10,(.int .i64 2)),(9,(.int .i64 0)),(8,(.slice none 0 0)),(60,GO),(59,Jp),(58,JZ),(57,Fx),(56,EU),(55,MC),(53,FD),(52,EZ),(17,EZ),(16,GZ),(15,Fx),(51,EZ),(50,GZ),(49,Fx),(44,F2),(48,F2),(47,v3),(46,v1),(45,v0),(43,D9),(42,G9),(41,EO),(40,E3),(39,G0),(38,EK),(14,EK),(13,Dn),(37,EK),(36,H8),(32,EL),(35,EL),(34,v1),(33,ET),(31,EM),(30,DY),(12,DY),(11,v11),(29,DY),(28,CQ),(25,D4),(27,D4),(26,v0),(10,(.int .i64 0)),(9,(.int .i64 0)),(8,(.slice none 0 0)),(6,v6)]) [] C') (wV (ld prog 24 v6 C') fun GR=>wV (AY prog 24 GR C') fun Wi=>C1 prog AT none 30 120 (.loop (Ag prog 30 0)) (Env.of (Env.args [v0,v1,v2,v3]) [(63,(.int .i64 0)),(62,Wi),(61,GR),(18,(.slice none 0 0)),(60,GO),(59,Jp),(58,JZ),(57,Fx),(56,EU),(55,MC),(53,FD),(52,EZ),(17,EZ),(16,GZ),(15,Fx),(51,EZ),(50,GZ),(49,Fx),(44,F2),(48,F2),(47,v3),(46,v1),(45,v0),(43,D9),(42,G9),(41,EO),(40,E3),(39,G0),(38,EK),(14,EK),(13,Dn),(37,EK),(36,H8),(32,EL),(35,EL),(34,v1),(33,ET),(31,EM),(30,DY),(12,DY),(11,v11),(29,DY),(28,CQ),(25,D4),(27,D4),(26,v0),(10,(.int .i64 0)),(9,(.int .i64 0)),(8,(.slice none 0 0)),(6,v6)]) [] C' (BU 0 (eL none K))))) (fun kb NB=>K (.panic kb) (Env.of (Env.args [v0,v1,v2,v3]) [(47,v3),(46,v1),(45,v0),(43,D9),(42,G9),(41,EO),(40,E3),(39,G0),(38,EK),(14,EK),(13,Dn),(37,EK),(36,H8),(32,EL),(35,EL),(34,v1),(33,ET),(31,EM),(30,DY),(12,DY),(11,v11),(29,DY),(28,CQ),(25,D4),(27,D4),(26,v0),(10,(.int .i64 0)),(9,(.int .i64 0)),(8,(.slice none 0 0)),(6,v6)]) [] NB)))) (fun Wf QF=>K (.panic Wf) (Env.of (Env.args [v0,v1,v2,v3]) [(41,EO),(40,E3),(39,G0),(38,EK),(14,EK),(13,Dn),(37,EK),(36,H8),(32,EL),(35,EL),(34,v1),(33,ET),(31,EM),(30,DY),(12,DY),(11,v11),(29,DY),(28,CQ),(25,D4),(27,D4),(26,v0),(10,(.int .i64 0)),(9,(.int .i64 0)),(8,(.slice none 0 0)),(6,v6)]) [] QF)))) (fun yo W6=>K (.panic yo) (Env.of (Env.args [v0,v1,v2,v3]) [(34,v1),(33,ET),(31,EM),(30,DY),(12,DY),(11,v11),(29,DY),(28,CQ),(25,D4),(27,D4),(26,v0),(10,(.int .i64 0)),(9,(.int .i64 0)),(8,(.slice none 0 0)),(6,v6)]) [] W6)))) (fun kf W2=>K (.panic kf) (Env.of (Env.args [v0,v1,v2,v3]) [(26,v0),(10,(.int .i64 0)),(9,(.int .i64 0)),(8,(.slice none 0 0)),(6,v6)]) [] W2))):=by kernel_rfl
def eM (ro:Option Nat) (K:AG):AG:=Aq (fun e ds W=>wV (AQ prog .add 3 true (e 63) (.int .i64 1)) fun L_=>K .normal (Env.of e [(63,L_),(76,L_)]) ds W) K
theorem tD (ro:Option Nat) (e:Env) (ds:List Deferred) (K:AG) (W:CW):AP prog AT ro 30 120 (Ag prog 30 0) e ds W K=(wV (AQ prog .lss 3 false (e 63) (e 62)) fun GY=>wI GY (wV (Dz prog 24 (e 61) (e 63)) fun KQ=>wV (ld prog 56 KQ W) fun Fw=>CD (GX prog 56 W) fun v20 VA=>wV (CP prog 56 v20 Fw VA) fun KX=>wV (A_ prog 56 v20 0) fun Jo=>wV (ld prog 9 Jo KX) fun Jq=>wV (A_ prog 56 v20 1) fun My=>wV (ld prog 40 My KX) fun QG=>AH prog AT 79 [QG] KX (AV (fun RI Im=>wV (RE prog 56 [(0,Jq),(1,RI)]) fun na=>CD (WX prog 24 1 [(0,na)] Im) fun gJ gG=>CD (app prog [24,24] (e 18) gJ gG) fun LA nb=>(((True)∧((True)∧((True)∧ld prog 40 My KX=some QG)))∧(((True)∧((True)∧((ld prog 9 Jo Im=some Jq)∧ld prog 9 Jo KX=some Jq)))∧True))∧True∧(eM ro K) .normal (Env.of e [(18,LA),(75,LA),(74,gJ),(73,na),(72,RI),(71,QG),(70,My),(69,Jq),(68,Jo),(67,(e 18)),(20,v20),(66,Fw),(65,KQ),(64,GY)]) ds nb) (fun UX QW=>False))) (K (.exit 0) (Env.of e [(64,GY)]) ds W)):=by kernel_rfl
def Wk (ro:Option Nat) (K:AG):AG:=Aq (fun e ds W=>wV (AQ prog .add 3 true (e 79) (.int .i64 1)) fun Sr=>K .normal (Env.of e [(79,Sr),(111,Sr)]) ds W) K
def Wl (ro:Option Nat) (K:AG):AG:=Aq (fun e ds W=>wV (ld prog 56 (e 22) W) fun Wm=>CD (WX prog 24 1 [(0,Wm)] W) fun kg gH=>CD (app prog [24,24] (e 18) kg gH) fun Jn QX=>(Wk ro K) .normal (Env.of e [(18,Jn),(110,Jn),(109,kg),(108,Wm),(107,(e 18))]) ds QX) (BU 3 (Wk ro K))
theorem tE (ro:Option Nat) (e:Env) (ds:List Deferred) (K:AG) (W:CW):AP prog AT ro 30 120 (Ag prog 30 1) e ds W K=(wV (AQ prog .lss 3 false (e 79) (e 78)) fun Mc=>wI Mc (wV (Dz prog 24 (e 77) (e 79)) fun xL=>wV (ld prog 56 xL W) fun Sq=>CD (GX prog 56 W) fun Fy bZ=>wV (CP prog 56 Fy Sq bZ) fun Wh=>wV (ld prog 78 (e 11) Wh) fun UW=>wV (ld prog 56 Fy Wh) fun NC=>AH prog AT 62 [UW,NC] Wh (AV (fun M_ aE=>C1 prog AT ro 30 120 (.rangeFunc (.tmp 85) #[86,87] (AO prog 30 0) (AN prog 30 0)) (Env.of e [(85,M_),(84,NC),(83,UW),(22,Fy),(82,Sq),(81,xL),(80,Mc)]) ds aE (BU 4 (Wl ro K))) (fun yp W30=>(Wl ro K) (.panic yp) (Env.of e [(84,NC),(83,UW),(22,Fy),(82,Sq),(81,xL),(80,Mc)]) ds W30))) (K (.exit 2) (Env.of e [(80,Mc)]) ds W)):=by kernel_rfl
theorem tF (ro:Option Nat) (e:Env) (ds:List Deferred) (K:AG) (W:CW):AP prog AT ro 30 120 (AO prog 30 0) e ds W K=(K .normal (Env.of e [(24,(e 87)),(23,(e 86))]) ds W):=by kernel_rfl
def RJ (ro:Option Nat) (K:AG):AG:=Aq (fun e ds W=>wI (e 97) (wV (A_ prog 56 (e 22) 1) fun gK=>wV (ld prog 40 gK W) fun Xk=>wV (Dz prog 40 Xk (e 23)) fun HM=>wV (ld prog 3 HM W) fun Fi=>wV (ld prog 24 (e 6) W) fun FJ=>wV (AY prog 24 FJ W) fun Wo=>wV (AQ prog .add 3 false Fi Wo) fun Yi=>wV (Dz prog 40 Xk (e 23)) fun JC=>wV (CP prog 3 JC Yi W) fun Xl=>(((True)∧AY prog 24 FJ W=some Wo)∧(((True)∧ld prog 24 (e 6) W=some FJ)∧(((True)∧ld prog 3 HM W=some Fi)∧(((True)∧ld prog 40 gK W=some Xk)∧True))))∧True∧K .normal (Env.of e [(106,JC),(105,Yi),(104,Wo),(103,FJ),(102,Fi),(101,HM),(100,(e 23)),(99,Xk),(98,gK)]) ds Xl) (K .normal e ds W)) (BU 5 K)
theorem tG (ro:Option Nat) (e:Env) (ds:List Deferred) (K:AG) (W:CW):AP prog AT ro 30 120 (AN prog 30 0) e ds W K=(wV (AQ prog .eql 5 true (e 24) (.int .u8 2)) fun T_=>wI T_ (wV (A_ prog 56 (e 22) 1) fun No=>wV (ld prog 40 No W) fun RK=>wV (Dz prog 40 RK (e 23)) fun Lc=>wV (ld prog 3 Lc W) fun L9=>wV (AQ prog .gtr 3 true L9 (.int .i64 0)) fun Ma=>(RJ ro K) .normal (Env.of e [(97,Ma),(96,Ma),(90,(.bool true)),(95,L9),(90,(.bool true)),(94,Lc),(90,(.bool true)),(93,(e 23)),(90,(.bool true)),(92,RK),(90,(.bool true)),(91,No),(90,(.bool true)),(90,T_),(89,T_),(88,(e 24))]) ds W) ((RJ ro K) .normal (Env.of e [(97,(.bool false)),(96,undef),(90,(.bool false)),(95,undef),(90,(.bool false)),(94,undef),(90,(.bool false)),(93,undef),(90,(.bool false)),(92,undef),(90,(.bool false)),(91,undef),(90,(.bool false)),(90,T_),(89,T_),(88,(e 24))]) ds W)):=by kernel_rfl
theorem gL (Q:Ending→CW→Prop) (e:Env) (W:CW):AK prog Tryz.f30 Q .ret e [] W=Q (.returned (.tuple #[e 8,e 9,e 10])) W:=by kernel_rfl
theorem yq {Q:Ending→CW→Prop} {v0 v1 v2 v3:Value} {W:CW} (h:AP prog AT none 30 120 (AS prog 30) (Env.args [v0,v1,v2,v3]) [] W (AK prog Tryz.f30 Q)):AH prog AT 30 [v0,v1,v2,v3] W Q:=Ab Tryz.func30 (by kernel_rfl) (by kernel_rfl) (by kernel_rfl) (by kernel_rfl) (by kernel_rfl) h
def kh (ro:Option Nat) (K:AG):AG:=Aq (fun e ds W=>K .ret (Env.of e [(4,(.bool true))]) ds W) K
theorem yr (v0 v1:Value) (K:AG) (W:CW):AP prog AT none 24 71 (AS prog 24) (Env.args [v0,v1]) [] W K=(wV (AY prog 24 v0 W) fun v8=>wV (AY prog 24 v1 W) fun v10=>wV (AQ prog .neq 3 false v8 v10) fun v11=>wI v11 (K .ret (Env.of (Env.args [v0,v1]) [(4,(.bool false)),(11,v11),(10,v10),(9,v1),(8,v8),(7,v0),(4,(.bool false))]) [] W) (C1 prog AT none 24 71 (.loop (Ag prog 24 0)) (Env.of (Env.args [v0,v1]) [(5,(.int .i64 0)),(11,v11),(10,v10),(9,v1),(8,v8),(7,v0),(4,(.bool false))]) [] W (BU 0 (kh none K)))):=by kernel_rfl
def bb (ro:Option Nat) (K:AG):AG:=Aq (fun e ds W=>wV (AQ prog .add 3 true (e 5) (.int .i64 1)) fun DI=>K .normal (Env.of e [(5,DI),(17,DI),(16,(e 5))]) ds W) K
def Wp (ro:Option Nat) (K:AG):AG:=Aq (fun e ds W=>C1 prog AT ro 24 71 (.loop (Ag prog 24 1)) (Env.of e [(6,(.int .i64 0))]) ds W (BU 2 (BU 1 (bb ro K)))) (BU 1 (bb ro K))
def bc (ro:Option Nat) (K:AG):AG:=Aq (fun e ds W=>wI (e 43) ((Wp ro K) .ret (Env.of e [(4,(.bool false))]) ds W) ((Wp ro K) .normal e ds W)) (Wp ro K)
theorem tH (ro:Option Nat) (e:Env) (ds:List Deferred) (K:AG) (W:CW):AP prog AT ro 24 71 (Ag prog 24 0) e ds W K=(wV (AY prog 24 (e 0) W) fun B9=>wV (AQ prog .lss 3 false (e 5) B9) fun EC=>wI EC (wV (Dz prog 24 (e 0) (e 5)) fun v20=>wV (A_ prog 56 v20 0) fun DB=>wV (ld prog 9 DB W) fun Fy=>wV (Dz prog 24 (e 1) (e 5)) fun EB=>wV (A_ prog 56 EB 0) fun Fz=>wV (ld prog 9 Fz W) fun D4=>wV (AQ prog .neq 9 false Fy D4) fun CQ=>wI CQ ((ld prog 9 Fz W=some D4∧(ld prog 9 DB W=some Fy∧True))∧True∧(bc ro K) .normal (Env.of e [(43,(.bool true)),(42,undef),(29,(.bool true)),(41,undef),(29,(.bool true)),(40,undef),(29,(.bool true)),(39,undef),(29,(.bool true)),(38,undef),(29,(.bool true)),(37,undef),(29,(.bool true)),(36,undef),(29,(.bool true)),(35,undef),(29,(.bool true)),(34,undef),(29,(.bool true)),(33,undef),(29,(.bool true)),(32,undef),(29,(.bool true)),(31,undef),(29,(.bool true)),(30,undef),(29,(.bool true)),(29,CQ),(28,CQ),(27,D4),(26,Fz),(25,EB),(24,(e 5)),(23,(e 1)),(22,Fy),(21,DB),(20,v20),(19,(e 5)),(18,(e 0)),(15,EC),(14,B9),(13,(e 0)),(12,(e 5))]) ds W) (wV (Dz prog 24 (e 0) (e 5)) fun E4=>wV (A_ prog 56 E4 1) fun ET=>wV (ld prog 40 ET W) fun GK=>wV (AY prog 40 GK W) fun EL=>wV (Dz prog 24 (e 1) (e 5)) fun IQ=>wV (A_ prog 56 IQ 1) fun G0=>wV (ld prog 40 G0 W) fun E3=>wV (AY prog 40 E3 W) fun EO=>wV (AQ prog .neq 3 false EL EO) fun G9=>(AY prog 40 E3 W=some EO∧(ld prog 40 G0 W=some E3∧(AY prog 40 GK W=some EL∧(ld prog 40 ET W=some GK∧(ld prog 9 Fz W=some D4∧(ld prog 9 DB W=some Fy∧True))))))∧True∧(bc ro K) .normal (Env.of e [(43,G9),(42,G9),(29,(.bool false)),(41,EO),(29,(.bool false)),(40,E3),(29,(.bool false)),(39,G0),(29,(.bool false)),(38,IQ),(29,(.bool false)),(37,(e 5)),(29,(.bool false)),(36,(e 1)),(29,(.bool false)),(35,EL),(29,(.bool false)),(34,GK),(29,(.bool false)),(33,ET),(29,(.bool false)),(32,E4),(29,(.bool false)),(31,(e 5)),(29,(.bool false)),(30,(e 0)),(29,(.bool false)),(29,CQ),(28,CQ),(27,D4),(26,Fz),(25,EB),(24,(e 5)),(23,(e 1)),(22,Fy),(21,DB),(20,v20),(19,(e 5)),(18,(e 0)),(15,EC),(14,B9),(13,(e 0)),(12,(e 5))]) ds W)) (K (.exit 0) (Env.of e [(15,EC),(14,B9),(13,(e 0)),(12,(e 5))]) ds W)):=by kernel_rfl
def bg (ro:Option Nat) (K:AG):AG:=Aq (fun e ds W=>wV (AQ prog .add 3 true (e 6) (.int .i64 1)) fun FD=>K .normal (Env.of e [(6,FD),(53,FD),(52,(e 6))]) ds W) K
theorem tI (ro:Option Nat) (e:Env) (ds:List Deferred) (K:AG) (W:CW):AP prog AT ro 24 71 (Ag prog 24 1) e ds W K=(wV (Dz prog 24 (e 0) (e 5)) fun Iv=>wV (A_ prog 56 Iv 1) fun F2=>wV (ld prog 40 F2 W) fun Fx=>wV (AY prog 40 Fx W) fun GZ=>wV (AQ prog .lss 3 false (e 6) GZ) fun EZ=>wI EZ (wV (Dz prog 24 (e 0) (e 5)) fun EU=>wV (A_ prog 56 EU 1) fun Mb=>wV (ld prog 40 Mb W) fun JZ=>wV (Dz prog 40 JZ (e 6)) fun GO=>wV (ld prog 3 GO W) fun GR=>wV (Dz prog 24 (e 1) (e 5)) fun GY=>wV (A_ prog 56 GY 1) fun KQ=>wV (ld prog 40 KQ W) fun Fw=>wV (Dz prog 40 Fw (e 6)) fun Jo=>wV (ld prog 3 Jo W) fun Jq=>wV (AQ prog .neq 3 false GR Jq) fun My=>(ld prog 3 Jo W=some Jq∧(ld prog 40 KQ W=some Fw∧(ld prog 3 GO W=some GR∧(ld prog 40 Mb W=some JZ∧True))))∧True∧wI My ((bg ro K) .ret (Env.of e [(4,(.bool false)),(70,My),(69,Jq),(68,Jo),(67,(e 6)),(66,Fw),(65,KQ),(64,GY),(63,(e 5)),(62,(e 1)),(61,GR),(60,GO),(59,(e 6)),(58,JZ),(57,Mb),(56,EU),(55,(e 5)),(54,(e 0)),(51,EZ),(50,GZ),(49,Fx),(48,F2),(47,Iv),(46,(e 5)),(45,(e 0)),(44,(e 6))]) ds W) ((bg ro K) .normal (Env.of e [(70,My),(69,Jq),(68,Jo),(67,(e 6)),(66,Fw),(65,KQ),(64,GY),(63,(e 5)),(62,(e 1)),(61,GR),(60,GO),(59,(e 6)),(58,JZ),(57,Mb),(56,EU),(55,(e 5)),(54,(e 0)),(51,EZ),(50,GZ),(49,Fx),(48,F2),(47,Iv),(46,(e 5)),(45,(e 0)),(44,(e 6))]) ds W)) (K (.exit 2) (Env.of e [(51,EZ),(50,GZ),(49,Fx),(48,F2),(47,Iv),(46,(e 5)),(45,(e 0)),(44,(e 6))]) ds W)):=by kernel_rfl
theorem gM (Q:Ending→CW→Prop) (e:Env) (W:CW):AK prog Tryz.f24 Q .ret e [] W=Q (.returned (e 4)) W:=by kernel_rfl
theorem yt {Q:Ending→CW→Prop} {v0 v1:Value} {W:CW} (h:AP prog AT none 24 71 (AS prog 24) (Env.args [v0,v1]) [] W (AK prog Tryz.f24 Q)):AH prog AT 24 [v0,v1] W Q:=Ab Tryz.func24 (by kernel_rfl) (by kernel_rfl) (by kernel_rfl) (by kernel_rfl) (by kernel_rfl) h
theorem yu (v0:Value) (K:AG) (W:CW):AP prog AT none 79 8 (AS prog 79) (Env.args [v0]) [] W K=(wV (AQ prog .eql 40 true v0 (.slice none 0 0)) fun v4=>wI v4 (K .ret (Env.of (Env.args [v0]) [(2,(.slice none 0 0)),(4,v4),(3,v0),(2,(.slice none 0 0))]) [] W) (CD (WX prog 40 0 [] W) fun v5 W0=>CD (app prog [40,40] v5 v0 W0) fun v7 W1=>K .ret (Env.of (Env.args [v0]) [(2,v7),(7,v7),(6,v0),(5,v5),(4,v4),(3,v0),(2,(.slice none 0 0))]) [] W1)):=by kernel_rfl
theorem VB (Q:Ending→CW→Prop) (e:Env) (W:CW):AK prog Tryz.f79 Q .ret e [] W=Q (.returned (e 2)) W:=by kernel_rfl
theorem yv {Q:Ending→CW→Prop} {v0:Value} {W:CW} (h:AP prog AT none 79 8 (AS prog 79) (Env.args [v0]) [] W (AK prog Tryz.f79 Q)):AH prog AT 79 [v0] W Q:=Ab Tryz.func79 (by kernel_rfl) (by kernel_rfl) (by kernel_rfl) (by kernel_rfl) (by kernel_rfl) h
end Go.Ce
namespace Go.Ce
open Go Go.Proofs Go.Proofs.Tryz
end Go.Ce
namespace Go.Ce
open Go Go.Proofs Go.Proofs.Tryz
end Go.Ce
namespace Go.Ce
section
variable (P:Program) (L:List FuncId)
def isRec (o:Oper):Bool:=match o.op with
 | .call c=>match c.callee with
  | .builtin b=>match b with
   | .recover=>c.args.toList.isEmpty && c.argTypes.toList.isEmpty
   | _=>false
  | _=>false
 | _=>false
def tJ (o:Oper):Bool:=match o.op with
 | .alloc _=>true
 | _=>false
def kj (u:FrameMode) (K:Value→FrameMode→Prop):Prop:=match u with
 | .panicking ({ v,recovered:=false,goexit:=false }::Um)=>K v (.panicking ({ v,recovered:=true }::Um))
 | .returning=>K .nilIface .returning
 | _=>False
def Np (ops:Array Oper):Nat→List Nat→List Oper→Env→FrameMode→CW→(Exit→Env→FrameMode→CW→Prop)→Prop
 | _,_,[],e,u,W,K=>K .normal e u W
 | i,sk,o::rest,e,u,W,K=>Mv sk ops o e fun b e=>cond b
   (cond (isRec o) (kj u fun v u=>Np ops (i+1) sk rest (e.put o.dst v) u W K)
    (cond (CR P o) (wV (gB P o e.ev) fun v=>Np ops (i+1) sk rest (e.put o.dst v) u W K)
     (cond (DD P o) (wV (aD P o e.ev W) fun v=>Np ops (i+1) sk rest (e.put o.dst v) u W K)
      (cond (La o) (wV (s7 P o e.ev W) fun W=>Np ops (i+1) sk rest (e.put o.dst undef) u W K)
       (cond (tJ o) (CD (oa P o e.ev W) fun v W=>Np ops (i+1) sk rest (e.put o.dst v) u W K) False)))))
   (Np ops (i+1) (i::sk) rest (e.put o.dst undef) u W K)
def sqS (Y:Env→FrameMode→CW→Prop) (K:Exit→Env→FrameMode→CW→Prop):Exit→Env→FrameMode→CW→Prop
 | .normal,e,u,W=>Y e u W
 | x,e,u,W=>K x e u W
def wS (fn:FuncId) (nt:Nat):Code→Env→FrameMode→CW→(Exit→Env→FrameMode→CW→Prop)→Prop
 | .region _ ops false,e,u,W,K=>Np P ops 0 [] ops.toList e u W K
 | .seq x y,e,u,W,K=>wS fn nt x e u W (sqS (fun e u W=>wS fn nt y e u W K) K)
 | .cond c x y,e,u,W,K=>wI (e.ev c) (wS fn nt x e u W K) (wS fn nt y e u W K)
 | c,e,u,W,K=>AP P L none fn nt c e [] W fun x e ds W=>ds=[]∧K x e u W
end
section
variable {P:Program} {L:List FuncId} {R:B5} {ops:Array Oper}
theorem Yj {o:Oper} (h:isRec o=true) {e:Operand→Value} {W:CW}:BD P o e W=some [(.recover,W)]:=by
 unfold isRec at h
 split at h
 ·rename_i c hc
  split at h
  ·rename_i b D5
   split at h
   ·simp only [Bool.and_eq_true] at h; have h1:c.args.toList=[]:=by simpa using h.1
    have h2:c.argTypes.toList=[]:=by simpa using h.2
    simp only [BD,hc,D5,h1,h2]; rfl
   ·cases h
  ·cases h
 ·cases h
theorem Om {o:Oper} {rest:List Oper} {a:AI} {u:FrameMode} {W W1:CW} {v:Value} {x:Exit × AI × FrameMode × CW} (hw:CO ops o a=true) (hc:BD P o a.eval W=some [(.value v,W1)]) (h:B7 P R ops rest (a.put o.dst v) u W1=some [x]):B7 P R ops (o::rest) a u W=some [x]:=by
 simp only [B7,hw,hc]; exact BK _ _ h
theorem ko {o:Oper} {rest:List Oper} {a:AI} {u:FrameMode} {W W1:CW} {x:Exit × AI × FrameMode × CW} (hw:CO ops o a=true) (hc:BD P o a.eval W=some [(.skip,W1)]) (h:B7 P R ops rest (a.put o.dst undef) u W1=some [x]):B7 P R ops (o::rest) a u W=some [x]:=by
 simp only [B7,hw,hc]; exact BK _ _ h
theorem kq {o:Oper} {rest:List Oper} {a:AI} {Um:List PanicEntry} {W:CW} {v:Value} {x:Exit × AI × FrameMode × CW} (hw:CO ops o a=true) (hc:BD P o a.eval W=some [(.recover,W)]) (h:B7 P R ops rest (a.put o.dst v) (.panicking ({ v,recovered:=true }::Um)) W=some [x]):B7 P R ops (o::rest) a (.panicking ({ v,recovered:=false }::Um)) W=some [x]:=by
 simp only [B7,hw,hc]; exact BK _ _ h
theorem kx {o:Oper} {rest:List Oper} {a:AI} {W:CW} {x:Exit × AI × FrameMode × CW} (hw:CO ops o a=true) (hc:BD P o a.eval W=some [(.recover,W)]) (h:B7 P R ops rest (a.put o.dst .nilIface) .returning W=some [x]):B7 P R ops (o::rest) a .returning W=some [x]:=by
 simp only [B7,hw,hc]; exact BK _ _ h
theorem Dt {K:Exit→Env→FrameMode→CW→Prop}:∀ {rest:List Oper} {i:Nat} {sk:List Nat} {e:Env} {u:FrameMode} {W:CW} {a:AI},
  Np P ops i sk rest e u W K→AE a e []→∃ a' e' u' W',B7 P R ops rest a u W=some [(.normal,a',u',W')]∧AE a' e' []∧a'.nt=a.nt∧K .normal e' u' W'
 | [],i,sk,e,u,W,a,h,ha=>⟨a,e,u,W,rfl,ha,rfl,h⟩
 | o::rest,i,sk,e,u,W,a,h,ha=>by
  simp only [Np] at h; obtain ⟨e1,CZ,h,F'⟩:=JB ha h
  cases hw:CO ops o a with
  | false =>
   rw [hw] at h; obtain ⟨a',e',u',W',h1,h2,h3,h4⟩:=Dt h (CZ.put o.dst undef); exact ⟨a',e',u',W',by simp only [B7,hw]; exact h1,h2,by rw [h3,AI.BL],h4⟩
  | true =>
   rw [hw] at h; simp only [cond_true] at h
   cases YG:isRec o with
   | true =>
    rw [YG] at h; simp only [cond_true] at h; have hc:=Yj (P:=P) YG (e:=a.eval) (W:=W); unfold kj at h
    split at h
    ·obtain ⟨a',e',u',W',h1,h2,h3,h4⟩:=Dt h (CZ.put o.dst _); exact ⟨a',e',u',W',kq hw hc h1,h2,by rw [h3,AI.BL],h4⟩
    ·obtain ⟨a',e',u',W',h1,h2,h3,h4⟩:=Dt h (CZ.put o.dst _); exact ⟨a',e',u',W',kx hw hc h1,h2,by rw [h3,AI.BL],h4⟩
    ·exact h.elim
   | false =>
    rw [YG] at h; simp only [cond_false] at h
    cases hp:CR P o with
    | true =>
     rw [hp] at h; simp only [cond_true] at h
     cases hx:gB P o e1.ev with
     | none=>rw [hx] at h; exact h.elim
     | some v =>
      rw [hx] at h; obtain ⟨a',e',u',W',h1,h2,h3,h4⟩:=Dt h (CZ.put o.dst v); exact ⟨a',e',u',W',Om hw (by rw [SS hp,CZ.eval,hx]; rfl) h1,h2,by rw [h3,AI.BL],h4⟩
    | false =>
     rw [hp] at h; simp only [cond_false] at h
     cases hr:DD P o with
     | true =>
      rw [hr] at h; simp only [cond_true] at h
      cases hx:aD P o e1.ev W with
      | none=>rw [hx] at h; exact h.elim
      | some v =>
       rw [hx] at h; obtain ⟨a',e',u',W',h1,h2,h3,h4⟩:=Dt h (CZ.put o.dst v); exact ⟨a',e',u',W',Om hw (by rw [K7 hr,CZ.eval,hx]; rfl) h1,h2,by rw [h3,AI.BL],h4⟩
     | false =>
      rw [hr] at h; simp only [cond_false] at h
      cases hs:La o with
      | true =>
       rw [hs] at h; simp only [cond_true] at h
       cases hx:s7 P o e1.ev W with
       | none=>rw [hx] at h; exact h.elim
       | some W1 =>
        rw [hx] at h; obtain ⟨a',e',u',W',h1,h2,h3,h4⟩:=Dt h (CZ.put o.dst undef); exact ⟨a',e',u',W',ko hw (by rw [kT hs,CZ.eval,hx]; rfl) h1,h2,by rw [h3,AI.BL],h4⟩
      | false =>
       rw [hs] at h; simp only [cond_false] at h
       cases om:tJ o with
       | false=>rw [om] at h; exact h.elim
       | true =>
        rw [om] at h; simp only [cond_true] at h; unfold tJ at om
        split at om
        ·rename_i t ho; have ABo:oa P o e1.ev W=GX P t W:=by simp only [oa,ho]
         rw [ABo] at h
         have HL:BD P o a.eval W=xK (GX P t W):=by
          simp only [BD,ho,GX,xK]
          cases GP P t with
          | none=>rfl
          | some z=>cases DC P t <;> rfl
         cases hx:GX P t W with
         | none=>rw [hx] at h; exact h.elim
         | some y =>
          obtain ⟨v,W1⟩:=y; rw [hx] at h; obtain ⟨a',e',u',W',h1,h2,h3,h4⟩:=Dt h (CZ.put o.dst v); exact ⟨a',e',u',W',Om hw (by rw [HL,hx]; rfl) h1,h2,by rw [h3,AI.BL],h4⟩
        ·cases om
theorem ky {fn:FuncId} {nt:Nat}:∀ {c:Code} {e:Env} {u:FrameMode} {W:CW} {K:Exit→Env→FrameMode→CW→Prop} {a:AI},wS P L fn nt c e u W K→AE a e []→a.nt=nt →
  ∃ n x a' e' u' W',QM P (CM P L n) fn c a u W=some [(x,a',u',W')]∧AE a' e' []∧a'.nt=nt∧K x e' u' W':=by
 intro c
 have base:∀ {c:Code} {e:Env} {u:FrameMode} {W:CW} {K:Exit→Env→FrameMode→CW→Prop} {a:AI},(∀ n,QM P (CM P L n) fn c a u W=(B0 ((CM P L n).code none fn c a W) fun (e,a,W)=>some [(e,a,u,W)]))→AP P L none fn nt c e [] W (fun x e ds W=>ds=[]∧K x e u W)→AE a e []→a.nt=nt →
   ∃ n x a' e' u' W',QM P (CM P L n) fn c a u W=some [(x,a',u',W')]∧AE a' e' []∧a'.nt=nt∧K x e' u' W':=by
  intro c e u W K a he h ha hn; obtain ⟨n,⟨x,a1,W1⟩,h1,e1,h2,h3,h4,h5⟩:=Ek h a ha hn; refine ⟨n,x,a1,e1,u,W1,?_,by rw [h4] at h2; exact h2,h3,h5⟩; rw [he,h1]; exact BK _ _ rfl
 induction c with
 | region id ops d =>
  intro e u W K a h ha hn
  cases d with
  | true=>exact base (fun n=>rfl) h ha hn
  | false =>
   obtain ⟨a',e',u',W',h1,h2,h3,h4⟩:=Dt (R:=CM P L 0) h ha; exact ⟨0,.normal,a',e',u',W',h1,h2,by rw [h3,hn],h4⟩
 | seq x y Vv Vw =>
  intro e u W K a h ha hn; obtain ⟨n,x1,a1,e1,u1,W1,h1,h2,h3,h4⟩:=Vv h ha hn
  cases x1 with
  | normal =>
   obtain ⟨m,x2,a2,e2,u2,W2,h5,h6,h7,h8⟩:=Vw h4 h2 h3; refine ⟨max n m,x2,a2,e2,u2,W2,?_,h6,h7,h8⟩; have oo:QM P (CM P L (max n m)) fn x a u W=some [(.normal,a1,u1,W1)]:=SP (DF (Nat.le_max_left n m)) h1; have h5':QM P (CM P L (max n m)) fn y a1 u1 W1=some [(x2,a2,u2,W2)]:=SP (DF (Nat.le_max_right n m)) h5; simp only [QM,oo]; exact BK _ _ h5'
  | _ =>
   refine ⟨n,_,a1,e1,u1,W1,?_,h2,h3,h4⟩; simp only [QM,h1]; exact BK _ _ rfl
 | cond c x y Vv Vw =>
  intro e u W K a h ha hn; obtain ⟨b,hb,h⟩:=bQ h; have hc:a.eval c=.bool b:=by rw [ha.eval]; exact hb
  cases b with
  | true =>
   obtain ⟨n,x1,a1,e1,u1,W1,h1,h2⟩:=Vv h ha hn; exact ⟨n,x1,a1,e1,u1,W1,by simp only [QM,hc]; exact h1,h2⟩
  | false =>
   obtain ⟨n,x1,a1,e1,u1,W1,h1,h2⟩:=Vw h ha hn; exact ⟨n,x1,a1,e1,u1,W1,by simp only [QM,hc]; exact h1,h2⟩
 | _=>intro e u W K a h ha hn; exact base (fun n=>rfl) h ha hn
def LB (P:Program) (L:List FuncId) (f:FuncId) (args:List Value) (u:FrameMode) (W:CW) (Q:FrameMode→CW→Prop):Prop:=∃ n v u' W',(CM P L n).F5 f args u W=some [(.returned v,u',W')]∧Q u' W'
theorem VC {f:FuncId} {fn:Func} {c:Code} {args:List Value} {u:FrameMode} {W:CW} {Q:FrameMode→CW→Prop} (hL:Be L f=true) (hf:P.funcs[f]?=some fn) (hc:fn.body=some c) (hle:Nat.ble args.length fn.ntmps=true)
  (h:wS P L f fn.ntmps c (Env.args args) u W fun x e u W=>(x=.normal∨x=.ret)∧(∃ v,Bu P fn.results.toList e W=some v)∧Q u W):LB P L f args u W Q:=by
 obtain ⟨n,x,a,e,u',W',h1,h2,h3,hx,⟨v,hv⟩,hq⟩:=ky h (SZ fn args) rfl; refine ⟨n+1,v,u',W',?_,hq⟩; rw [GA]; simp only [Bx,hL,hf,hc,hle,Bool.not_true,cond_false,cond_true]; rw [h1]; refine BK _ _ ?_; have hd:a.defers=[]:=h2.2; have hr:=Mx (e:=e) (ds:=[]) h2 hv; rcases hx with rfl | rfl <;> simp only [hd,List.isEmpty_nil,cond_true,hr]
def k_ (P:Program) (L:List FuncId) (fn:Func) (Q:Ending→CW→Prop) (e:Env):List Deferred→FrameMode→CW→Prop
 | [],u,W=>match u with
  | .returning=>wV (Bu P fn.results.toList e W) fun v=>Q (.returned v) W
  | .panicking ch=>Q (.panicked ch) W
  | .run=>False
 | d::ds,u,W=>match d.target with
  | .fn (.func f) cap=>LB P L f (d.args.toList++cap.toList) u W fun u' W'=>k_ P L fn Q e ds (settle u') W'
  | _=>False
theorem Li {fn:Func} {a:AI} {e:Env} {Q:Ending→CW→Prop} (ha:AE a e a.defers):∀ (ds:List Deferred) (u:FrameMode) (W:CW),k_ P L fn Q e ds u W→∃ n o,leaves P (CM P L n) fn a ds u W=some [o]∧Q o.1 o.2
 | [],u,W,h=>by
  cases u with
  | returning =>
   cases hv:Bu P fn.results.toList e W with
   | none=>simp only [k_,hv] at h; exact h.elim
   | some v =>
    simp only [k_,hv] at h; exact ⟨0,(.returned v,W),by simp only [leaves,Mx ha hv],h⟩
  | panicking ch=>exact ⟨0,(.panicked ch,W),rfl,h⟩
  | run=>exact h.elim
 | d::ds,u,W,h=>by
  obtain ⟨tg,s8⟩:=d
  cases tg with
  | fn f cap =>
   cases f with
   | func f =>
    obtain ⟨n,v,u',W',h1,h2⟩:=h; obtain ⟨m,o,h3,h4⟩:=Li ha ds _ _ h2; refine ⟨max n m,o,?_,h4⟩; have oo:(CM P L (max n m)).F5 f (s8.toList++cap.toList) u W=some [(.returned v,u',W')]:=(DF (Nat.le_max_left n m)).F5 h1; have h3':leaves P (CM P L (max n m)) fn a ds (settle u') W'=some [o]:=DR (DF (Nat.le_max_right n m)) h3; simp only [leaves]; rw [oo]; exact BK _ _ h3'
   | _=>exact h.elim
  | _=>exact h.elim
theorem lA {f:FuncId} {fn:Func} {c:Code} {args:List Value} {W:CW} {Q:Ending→CW→Prop} (hL:Be L f=true) (og:Be L (f+1000000)=false) (kY:Be L (f+2000000)=false) (hf:P.funcs[f]?=some fn) (hc:fn.body=some c)
  (hle:Nat.ble args.length fn.ntmps=true) (h:AP P L none f fn.ntmps c (Env.args args) [] W fun x e ds W=>match x with
   | .normal=>k_ P L fn Q e ds .returning W
   | .ret=>k_ P L fn Q e ds .returning W
   | .panic ch=>(∀ k n m,e 0≠.complex k n m)∧k_ P L fn Q e ds (.panicking ch) W
   | _=>False):AH P L f args W Q:=by
 obtain ⟨n,⟨x,a,W1⟩,h1,e,h2,h3,h4⟩:=Ek h (F6 fn args) (SZ fn args) rfl; simp only at h2 h4
 have key:∀ {m:Nat} {o:Ending × CW},behind P (CM P L (max n m)) fn x a W1=some [o]→(CM P L (max n m+1)).call f args W=some [o]:=by
  intro m o ho; rw [GA]; simp only [Bx,hL,og,kY,hf,hc,hle,Bool.not_true,cond_false,cond_true,Bool.false_and]; rw [FU (Nat.le_max_left n m) h1]; refine D1 ?_; rw [←ho]
  cases x <;> rfl
 cases x with
 | normal =>
  obtain ⟨m,o,e1,e2⟩:=Li h2 a.defers .returning W1 h4; exact ⟨_,o,key (m:=m) (DR (DF (Nat.le_max_right n m)) e1),e2⟩
 | ret =>
  obtain ⟨m,o,e1,e2⟩:=Li h2 a.defers .returning W1 h4; exact ⟨_,o,key (m:=m) (DR (DF (Nat.le_max_right n m)) e1),e2⟩
 | panic ch =>
  obtain ⟨hb,h4⟩:=h4; obtain ⟨m,o,e1,e2⟩:=Li h2 a.defers (.panicking ch) W1 h4; refine ⟨_,o,key (m:=m) ?_,e2⟩
  have Gc:a.KC=false:=by
   unfold AI.KC
   split
   ·rename_i n m hg
    exfalso
    refine hb .f64 n m ?_; rw [←h2.1 0]; unfold AI.at
    rw [hg]; rfl
   ·rfl
  show cond a.KC _ _=_; rw [Gc]; exact DR (DF (Nat.le_max_right n m)) e1
 | _=>exact h4.elim
end
end Go.Ce
namespace Go.Ce
open Go Go.Proofs Go.Proofs.Tryz
def eN (ro:Option Nat) (K:AG):AG:=Aq (fun e ds W=>wV (ld prog 24 (e 12) W) fun NA=>wV (ld prog 24 (e 12) W) fun FD=>wV (AY prog 24 FD W) fun GL=>CD (blt prog .min [3,3] [GL,(.int .i64 1)] W) fun MC C'=>(((True)∧AY prog 24 FD W=some GL)∧(((True)∧ld prog 24 (e 12) W=some FD)∧(((ld prog 24 (e 12) C'=some NA)∧ld prog 24 (e 12) W=some NA)∧True)))∧True∧K .ret (Env.of e [(8,(.int .i64 0)),(7,MC),(6,NA),(55,MC),(54,GL),(53,FD),(52,NA)]) ds C') K
theorem yw (v0 v1 v2:Value) (K:AG) (W:CW):AP prog AT none 19 56 (AS prog 19) (Env.args [v0,v1,v2]) [] W K=(AH prog AT 47 [v0] W (AV (fun C3 W0=>wV (ext C3 0) fun C5=>wV (ext C3 1) fun v20=>CD (GX prog 78 W0) fun v9 W2=>wV (CP prog 78 v9 C5 W2) fun W3=>wV (KO v20) fun Fy=>wI Fy (K .ret (Env.of (Env.args [v0,v1,v2]) [(8,(.int .i64 210)),(7,(.int .i64 0)),(6,(.slice none 0 0)),(22,Fy),(21,v20),(10,v20),(9,v9),(20,v20),(19,C5),(16,C3),(18,C3),(17,v0),(8,(.int .i64 0)),(7,(.int .i64 0)),(6,(.slice none 0 0))]) [] W3) (wV (ld prog 78 v9 W3) fun E0=>AH prog AT 48 [E0,v1] W3 (AV (fun Fz W4=>wV (ext Fz 0) fun D4=>wV (ext Fz 1) fun CQ=>CD (GX prog 83 W4) fun v11 W6=>wV (CP prog 83 v11 D4 W6) fun W7=>wV (KO CQ) fun v30=>wI v30 (K .ret (Env.of (Env.args [v0,v1,v2]) [(8,(.int .i64 212)),(7,(.int .i64 0)),(6,(.slice none 0 0)),(30,v30),(29,CQ),(10,CQ),(11,v11),(28,CQ),(27,D4),(23,Fz),(26,Fz),(25,v1),(24,E0),(22,Fy),(21,v20),(10,v20),(9,v9),(20,v20),(19,C5),(16,C3),(18,C3),(17,v0),(8,(.int .i64 0)),(7,(.int .i64 0)),(6,(.slice none 0 0))]) [] W7) (CD (GX prog 24 W7) fun Br W8=>wV (some (.func (.func 73) #[] #[v9,v11,Br])) fun E4=>AH prog AT 72 [v2,E4] W8 (AV (fun ET W9=>wV (AQ prog .neq 30 true ET (.int .i64 0)) fun EL=>wI EL (K .ret (Env.of (Env.args [v0,v1,v2]) [(8,ET),(7,(.int .i64 0)),(6,(.slice none 0 0)),(36,ET),(35,EL),(34,ET),(13,ET),(33,ET),(32,E4),(31,v2),(12,Br),(30,v30),(29,CQ),(10,CQ),(11,v11),(28,CQ),(27,D4),(23,Fz),(26,Fz),(25,v1),(24,E0),(22,Fy),(21,v20),(10,v20),(9,v9),(20,v20),(19,C5),(16,C3),(18,C3),(17,v0),(8,(.int .i64 0)),(7,(.int .i64 0)),(6,(.slice none 0 0))]) [] W9) (wV (ld prog 24 Br W9) fun EK=>wV (AY prog 24 EK W9) fun IQ=>C1 prog AT none 19 56 (.loop (Ag prog 19 0)) (Env.of (Env.args [v0,v1,v2]) [(39,(.int .i64 0)),(38,IQ),(37,EK),(35,EL),(34,ET),(13,ET),(33,ET),(32,E4),(31,v2),(12,Br),(30,v30),(29,CQ),(10,CQ),(11,v11),(28,CQ),(27,D4),(23,Fz),(26,Fz),(25,v1),(24,E0),(22,Fy),(21,v20),(10,v20),(9,v9),(20,v20),(19,C5),(16,C3),(18,C3),(17,v0),(8,(.int .i64 0)),(7,(.int .i64 0)),(6,(.slice none 0 0))]) [] W9 (BU 0 (eN none K)))) (fun Wf QF=>K (.panic Wf) (Env.of (Env.args [v0,v1,v2]) [(32,E4),(31,v2),(12,Br),(30,v30),(29,CQ),(10,CQ),(11,v11),(28,CQ),(27,D4),(23,Fz),(26,Fz),(25,v1),(24,E0),(22,Fy),(21,v20),(10,v20),(9,v9),(20,v20),(19,C5),(16,C3),(18,C3),(17,v0),(8,(.int .i64 0)),(7,(.int .i64 0)),(6,(.slice none 0 0))]) [] QF)))) (fun kZ W5=>K (.panic kZ) (Env.of (Env.args [v0,v1,v2]) [(25,v1),(24,E0),(22,Fy),(21,v20),(10,v20),(9,v9),(20,v20),(19,C5),(16,C3),(18,C3),(17,v0),(8,(.int .i64 0)),(7,(.int .i64 0)),(6,(.slice none 0 0))]) [] W5)))) (fun SE W1=>K (.panic SE) (Env.of (Env.args [v0,v1,v2]) [(17,v0),(8,(.int .i64 0)),(7,(.int .i64 0)),(6,(.slice none 0 0))]) [] W1))):=by kernel_rfl
def eO (ro:Option Nat) (K:AG):AG:=Aq (fun e ds W=>wV (AQ prog .add 3 true (e 39) (.int .i64 1)) fun EZ=>K .normal (Env.of e [(39,EZ),(51,EZ)]) ds W) K
theorem tK (ro:Option Nat) (e:Env) (ds:List Deferred) (K:AG) (W:CW):AP prog AT ro 19 56 (Ag prog 19 0) e ds W K=(wV (AQ prog .lss 3 false (e 39) (e 38)) fun E3=>wI E3 (wV (Dz prog 24 (e 37) (e 39)) fun G9=>wV (ld prog 56 G9 W) fun D9=>CD (GX prog 56 W) fun EC Lf=>wV (CP prog 56 EC D9 Lf) fun UY=>wV (ld prog 24 (e 12) UY) fun Lh=>wV (ld prog 83 (e 11) UY) fun GJ=>wV (ld prog 78 (e 9) UY) fun Iv=>wV (ld prog 56 EC UY) fun F2=>AH prog AT 77 [GJ,Iv,F2] UY (AV (fun Fx C0=>wV (Dz prog 24 Lh (e 39)) fun GZ=>wV (CP prog 56 GZ Fx C0) fun KX=>(((True)∧((True)∧ld prog 56 EC UY=some F2))∧(((True)∧((True)∧ld prog 78 (e 9) UY=some Iv))∧(((True)∧((True)∧ld prog 83 (e 11) UY=some GJ))∧(((True)∧((ld prog 24 (e 12) C0=some Lh)∧ld prog 24 (e 12) UY=some Lh))∧True))))∧True∧(eO ro K) .normal (Env.of e [(50,GZ),(49,Fx),(48,F2),(47,Iv),(46,GJ),(45,(e 39)),(44,Lh),(14,(e 39)),(15,EC),(43,D9),(42,G9),(41,(e 39)),(40,E3)]) ds KX) (fun yx VA=>False))) (K (.exit 0) (Env.of e [(40,E3)]) ds W)):=by kernel_rfl
theorem gN (Q:Ending→CW→Prop) (e:Env) (W:CW):AK prog Tryz.f19 Q .ret e [] W=Q (.returned (.tuple #[e 6,e 7,e 8])) W:=by kernel_rfl
theorem yy {Q:Ending→CW→Prop} {v0 v1 v2:Value} {W:CW} (h:AP prog AT none 19 56 (AS prog 19) (Env.args [v0,v1,v2]) [] W (AK prog Tryz.f19 Q)):AH prog AT 19 [v0,v1,v2] W Q:=Ab Tryz.func19 (by kernel_rfl) (by kernel_rfl) (by kernel_rfl) (by kernel_rfl) (by kernel_rfl) h
theorem yz (v0 v1:Value) (K:AG) (W:CW):AP prog AT none 72 14 (AS prog 72) (Env.args [v0,v1]) [] W K=(CD (GX prog 30 W) fun v4 W0=>wV (AY prog 29 v0 W0) fun v6=>wV (AQ prog .gtr 3 true v6 (.int .i64 100000)) fun v7=>wI v7 (wV (CP prog 30 v4 (.int .i64 2) W0) fun W1=>K .ret (Env.of (Env.args [v0,v1]) [(7,v7),(6,v6),(5,v0),(4,v4)]) [] W1) (wV (RE prog 170 [(0,v0)]) fun v11=>CD (QU prog 170 v11 W0) fun Br W2=>Dj prog AT v1 [Br] W2 (fun Dn W3=>wV (CP prog 30 v4 (.int .i64 0) W3) fun W5=>K .ret (Env.of (Env.args [v0,v1]) [(13,Dn),(12,Br),(11,v11),(10,v0),(9,v1),(8,(.func (.func 109) #[] #[v4])),(7,v7),(6,v6),(5,v0),(4,v4)]) (({ target:=.fn (.func 109) #[v4],args:=#[] }:Deferred)::[]) W5) (fun ch4 W4=>K (.panic ch4) (Env.of (Env.args [v0,v1]) [(12,Br),(11,v11),(10,v0),(9,v1),(8,(.func (.func 109) #[] #[v4])),(7,v7),(6,v6),(5,v0),(4,v4)]) (({ target:=.fn (.func 109) #[v4],args:=#[] }:Deferred)::[]) W4))):=by kernel_rfl
theorem y8 (v0 v1 v2 v3:Value) (K:AG) (W:CW):AP prog AT none 73 9 (AS prog 73) (Env.args [v0,v1,v2,v3]) [] W K=(wV (ld prog 78 v1 W) fun v6=>wV (some (.func (.func 75) #[] #[v1,v2])) fun v7=>AH prog AT 74 [v0,v6,v7] W (AV (fun v8 W0=>wV (CP prog 24 v3 v8 W0) fun W2=>K .normal (Env.of (Env.args [v0,v1,v2,v3]) [(8,v8),(7,v7),(6,v6),(5,v0)]) [] W2) (fun SE W1=>K (.panic SE) (Env.of (Env.args [v0,v1,v2,v3]) [(7,v7),(6,v6),(5,v0)]) [] W1))):=by kernel_rfl
theorem y9 {Q:Ending→CW→Prop} {v0 v1 v2 v3:Value} {W:CW} (h:AP prog AT none 73 9 (AS prog 73) (Env.args [v0,v1,v2,v3]) [] W (AK prog Tryz.f73 Q)):AH prog AT 73 [v0,v1,v2,v3] W Q:=Ab Tryz.func73 (by kernel_rfl) (by kernel_rfl) (by kernel_rfl) (by kernel_rfl) (by kernel_rfl) h
def HO (ro:Option Nat) (K:AG):AG:=Aq (fun e ds W=>K .ret (Env.of e [(6,(e 11)),(139,(e 11))]) ds W) K
def Ws (ro:Option Nat) (K:AG):AG:=Aq (fun e ds W=>wV (ld prog 3 (e 10) W) fun HN=>wV (ld prog 3 (e 8) W) fun Gu=>wV (AQ prog .eql 3 false HN Gu) fun On=>wI On (wV (AY prog 51 (e 7) W) fun MD=>wV (AQ prog .eql 3 false (e 9) MD) fun Jr=>wI Jr (wV (ld prog 124 (e 3) W) fun LC=>wV (QV LC) fun gO=>wV (A_ prog 170 gO 1) fun Mz=>wV (ld prog 3 Mz W) fun Yk=>wV (ld prog 124 (e 3) W) fun ME=>wV (QV ME) fun lC=>wV (A_ prog 170 lC 0) fun Yl=>wV (ld prog 29 Yl W) fun Ss=>wV (AY prog 29 Ss W) fun Ym=>wV (AQ prog .eql 3 false Yk Ym) fun QY=>AH prog AT 76 [QY,(.int .i64 4)] W (AV (fun QZ C'=>(((True)∧AY prog 29 Ss W=some Ym)∧(((True)∧ld prog 29 Yl W=some Ss)∧(((True)∧ld prog 124 (e 3) W=some ME)∧(((True)∧ld prog 3 Mz W=some Yk)∧(((True)∧ld prog 124 (e 3) W=some LC)∧(((True)∧AY prog 51 (e 7) W=some MD)∧(((True)∧ld prog 3 (e 8) W=some Gu)∧(((True)∧ld prog 3 (e 10) W=some HN)∧True))))))))∧True∧(HO ro K) .normal (Env.of e [(138,QZ),(137,QY),(136,QY),(126,(.bool true)),(135,Ym),(126,(.bool true)),(134,Ss),(126,(.bool true)),(133,Yl),(126,(.bool true)),(132,lC),(126,(.bool true)),(131,ME),(126,(.bool true)),(130,Yk),(126,(.bool true)),(129,Mz),(126,(.bool true)),(128,gO),(126,(.bool true)),(127,LC),(126,(.bool true)),(126,Jr),(125,Jr),(124,Jr),(120,(.bool true)),(123,MD),(120,(.bool true)),(122,(e 7)),(120,(.bool true)),(121,(e 9)),(120,(.bool true)),(120,On),(119,On),(118,Gu),(117,HN)]) ds C') (fun kb NB=>(AY prog 29 Ss W=some Ym∧(ld prog 29 Yl W=some Ss∧(ld prog 124 (e 3) W=some ME∧(ld prog 3 Mz W=some Yk∧(ld prog 124 (e 3) W=some LC∧(AY prog 51 (e 7) W=some MD∧(ld prog 3 (e 8) W=some Gu∧(ld prog 3 (e 10) W=some HN∧True))))))))∧(HO ro K) (.panic kb) Env.bad ds NB))) (AH prog AT 76 [(.bool false),(.int .i64 4)] W (AV (fun QZ bX=>(((True)∧AY prog 51 (e 7) W=some MD)∧(((True)∧ld prog 3 (e 8) W=some Gu)∧(((True)∧ld prog 3 (e 10) W=some HN)∧True)))∧True∧(HO ro K) .normal (Env.of e [(138,QZ),(137,(.bool false)),(136,undef),(126,(.bool false)),(135,undef),(126,(.bool false)),(134,undef),(126,(.bool false)),(133,undef),(126,(.bool false)),(132,undef),(126,(.bool false)),(131,undef),(126,(.bool false)),(130,undef),(126,(.bool false)),(129,undef),(126,(.bool false)),(128,undef),(126,(.bool false)),(127,undef),(126,(.bool false)),(126,Jr),(125,Jr),(124,Jr),(120,(.bool true)),(123,MD),(120,(.bool true)),(122,(e 7)),(120,(.bool true)),(121,(e 9)),(120,(.bool true)),(120,On),(119,On),(118,Gu),(117,HN)]) ds bX) (fun tB Lf=>(AY prog 51 (e 7) W=some MD∧(ld prog 3 (e 8) W=some Gu∧(ld prog 3 (e 10) W=some HN∧True)))∧(HO ro K) (.panic tB) Env.bad ds Lf)))) (AH prog AT 76 [(.bool false),(.int .i64 4)] W (AV (fun QZ UY=>(((True)∧ld prog 3 (e 8) W=some Gu)∧(((True)∧ld prog 3 (e 10) W=some HN)∧True))∧True∧(HO ro K) .normal (Env.of e [(138,QZ),(137,(.bool false)),(136,undef),(126,(.bool false)),(135,undef),(126,(.bool false)),(134,undef),(126,(.bool false)),(133,undef),(126,(.bool false)),(132,undef),(126,(.bool false)),(131,undef),(126,(.bool false)),(130,undef),(126,(.bool false)),(129,undef),(126,(.bool false)),(128,undef),(126,(.bool false)),(127,undef),(126,(.bool false)),(126,(.bool false)),(125,(.bool false)),(124,undef),(120,(.bool false)),(123,undef),(120,(.bool false)),(122,undef),(120,(.bool false)),(121,undef),(120,(.bool false)),(120,On),(119,On),(118,Gu),(117,HN)]) ds UY) (fun tM C0=>(ld prog 3 (e 8) W=some Gu∧(ld prog 3 (e 10) W=some HN∧True))∧(HO ro K) (.panic tM) Env.bad ds C0)))) K
theorem y_ (v0 v1 v2:Value) (K:AG) (W:CW):AP prog AT none 74 140 (AS prog 74) (Env.args [v0,v1,v2]) [] W K=(CD (QU prog 124 v0 W) fun v3 W0=>CD (QU prog 78 v1 W0) fun v4 W1=>wV (ld prog 124 v3 W1) fun C5=>AH prog AT 92 [C5,v2] W1 (AV (fun DB W2=>wV (ld prog 124 v3 W2) fun Fy=>AH prog AT 110 [Fy,(.int .i64 1000)] W2 (AV (fun EV W4=>CD (GX prog 3 W4) fun v8 W6=>wV (CP prog 3 v8 EV W6) fun W7=>wV (ld prog 3 v8 (W7.new (.cells .nil 1 #[.int .i64 0] 3))) fun E0=>CD (blt prog .min [3,3] [E0,(.int .i64 1)] (W7.new (.cells .nil 1 #[.int .i64 0] 3))) fun EB W8=>true=true∧wV (CP prog 3 (.pointer (some ⟨W7.sz,0,none⟩)) EB W8) fun W9=>(((True)∧((True)∧ld prog 3 v8 (W7.new (.cells .nil 1 #[.int .i64 0] 3))=some E0))∧True)∧(((True)∧((JA (.pointer (some ⟨W7.sz,0,none⟩)) ((W7.new (.cells .nil 1 #[.int .i64 0] 3)).obj W7.sz) W8=true)∧JA (.pointer (some ⟨W7.sz,0,none⟩)) ((W7.new (.cells .nil 1 #[.int .i64 0] 3)).obj W7.sz) (W7.new (.cells .nil 1 #[.int .i64 0] 3))=true))∧True)∧wV (ld prog 3 v8 W9) fun Fz=>C1 prog AT none 74 140 (.loop (Ag prog 74 0)) (Env.of (Env.args [v0,v1,v2]) [(27,(.int .i64 0)),(26,Fz),(11,(.slice none 0 0)),(9,(.int .i64 0)),(10,(.pointer (some ⟨W7.sz,0,none⟩))),(25,EB),(24,E0),(8,v8),(23,EV),(22,Fy),(7,DB),(21,DB),(20,v2),(19,C5),(6,(.slice none 0 0)),(4,v4),(3,v3)]) [] W9 (BU 0 (Ws none K))) (fun kZ W5=>K (.panic kZ) (Env.of (Env.args [v0,v1,v2]) [(22,Fy),(7,DB),(21,DB),(20,v2),(19,C5),(6,(.slice none 0 0)),(4,v4),(3,v3)]) [] W5))) (fun Yg W3=>K (.panic Yg) (Env.of (Env.args [v0,v1,v2]) [(20,v2),(19,C5),(6,(.slice none 0 0)),(4,v4),(3,v3)]) [] W3))):=by kernel_rfl
def GB (ro:Option Nat) (K:AG):AG:=Aq (fun e ds W=>wV (AQ prog .add 3 true (e 27) (.int .i64 1)) fun MB=>K .normal (Env.of e [(27,MB),(116,MB)]) ds W) K
def RL (ro:Option Nat) (K:AG):AG:=Aq (fun e ds W=>wV (ld prog 56 (e 14) W) fun H_=>CD (WX prog 24 1 [(0,H_)] W) fun Oo yl=>CD (app prog [24,24] (e 11) Oo yl) fun MA aE=>(GB ro K) .normal (Env.of e [(11,MA),(115,MA),(114,Oo),(113,H_),(112,(e 11))]) ds aE) (BU 1 (GB ro K))
def Js (ro:Option Nat) (K:AG):AG:=Aq (fun e ds W=>CD (xJ prog 40 (e 15) (e 15) W) fun UZ gH=>wV (A_ prog 56 (e 14) 1) fun Jo=>wV (CP prog 40 Jo UZ gH) fun QX=>wV (ld prog 78 (e 4) QX) fun Jq=>wV (ld prog 56 (e 14) QX) fun My=>AH prog AT 62 [Jq,My] QX (AV (fun QG Xl=>C1 prog AT ro 74 140 (.rangeFunc (.tmp 71) #[72,73] (AO prog 74 0) (AN prog 74 0)) (Env.of e [(71,QG),(70,My),(69,Jq),(68,Jo),(67,UZ),(66,(e 15))]) ds Xl (BU 2 (RL ro K))) (fun zB W32=>(RL ro K) (.panic zB) (Env.of e [(70,My),(69,Jq),(68,Jo),(67,UZ),(66,(e 15))]) ds W32))) (BU 1 (GB ro K))
def RM (ro:Option Nat) (K:AG):AG:=Aq (fun e ds W=>wV (Dz prog 51 (e 7) (e 13)) fun F2=>wV (ld prog 9 F2 W) fun Fx=>wV (RE prog 56 [(0,Fx)]) fun GZ=>CD (GX prog 56 W) fun B9 bZ=>wV (CP prog 56 B9 GZ bZ) fun Wh=>wV (A_ prog 78 (e 4) 1) fun EZ=>wV (ld prog 76 EZ Wh) fun NA=>wV (A_ prog 56 B9 0) fun FD=>wV (ld prog 9 FD Wh) fun GL=>wV (HB prog 76 NA GL false Wh) fun MC=>wV (AY prog 29 MC Wh) fun EU=>wV (A_ prog 78 (e 4) 0) fun Mb=>wV (ld prog 75 Mb Wh) fun JZ=>wV (A_ prog 56 B9 0) fun Jp=>wV (ld prog 9 Jp Wh) fun GO=>wV (HB prog 75 JZ GO false Wh) fun GR=>wV (yg prog 48 GR 3) fun Wi=>wV (AQ prog .neq 5 true Wi (.int .u8 0)) fun Ld=>wI Ld (wV (ld prog 124 (e 3) Wh) fun GY=>AH prog AT 110 [GY,(.int .i64 200)] Wh (AV (fun KQ oq=>(Js ro K) .normal (Env.of e [(15,KQ),(65,KQ),(64,GY),(63,Ld),(62,Wi),(61,GR),(60,GO),(59,Jp),(58,JZ),(57,Mb),(15,EU),(56,EU),(55,MC),(54,GL),(53,FD),(52,NA),(51,EZ),(14,B9),(50,GZ),(49,Fx),(48,F2),(47,(e 13)),(46,(e 7))]) ds oq) (fun ABp Qy=>(Js ro K) (.panic ABp) (Env.of e [(64,GY),(63,Ld),(62,Wi),(61,GR),(60,GO),(59,Jp),(58,JZ),(57,Mb),(15,EU),(56,EU),(55,MC),(54,GL),(53,FD),(52,NA),(51,EZ),(14,B9),(50,GZ),(49,Fx),(48,F2),(47,(e 13)),(46,(e 7))]) ds Qy))) ((Js ro K) .normal (Env.of e [(63,Ld),(62,Wi),(61,GR),(60,GO),(59,Jp),(58,JZ),(57,Mb),(15,EU),(56,EU),(55,MC),(54,GL),(53,FD),(52,NA),(51,EZ),(14,B9),(50,GZ),(49,Fx),(48,F2),(47,(e 13)),(46,(e 7))]) ds Wh)) (BU 1 (GB ro K))
theorem tN (ro:Option Nat) (e:Env) (ds:List Deferred) (K:AG) (W:CW):AP prog AT ro 74 140 (Ag prog 74 0) e ds W K=(wV (AQ prog .lss 3 false (e 27) (e 26)) fun CQ=>wI CQ (wV (ld prog 3 (e 10) W) fun EM=>wV (AQ prog .lss 3 false (e 27) EM) fun E4=>AH prog AT 76 [E4,(.int .i64 4)] W (AV (fun ET Im=>wV (ld prog 124 (e 3) Im) fun GK=>wV (AY prog 51 (e 7) Im) fun EK=>wV (AQ prog .sub 3 true EK (.int .i64 1)) fun IQ=>CD (blt prog .min [3,3] [(e 9),IQ] Im) fun G0 gG=>AH prog AT 110 [GK,G0] gG (AV (fun E3 nb=>wV (AQ prog .eql 3 false E3 (e 9)) fun D9=>wI D9 (wV (AQ prog .add 3 true (e 9) (.int .i64 1)) fun FC=>(RM ro K) .normal (Env.of e [(9,FC),(45,FC),(44,(e 9)),(43,D9),(42,(e 9)),(41,E3),(13,E3),(40,E3),(39,G0),(38,IQ),(37,EK),(36,(e 7)),(35,(e 9)),(34,GK),(33,ET),(32,E4),(31,EM),(30,(e 27)),(12,(e 27)),(29,(e 27)),(28,CQ)]) ds nb) ((RM ro K) .normal (Env.of e [(43,D9),(42,(e 9)),(41,E3),(13,E3),(40,E3),(39,G0),(38,IQ),(37,EK),(36,(e 7)),(35,(e 9)),(34,GK),(33,ET),(32,E4),(31,EM),(30,(e 27)),(12,(e 27)),(29,(e 27)),(28,CQ)]) ds nb)) (fun ABq jH=>(GB ro K) (.panic ABq) (Env.of e [(39,G0),(38,IQ),(37,EK),(36,(e 7)),(35,(e 9)),(34,GK),(33,ET),(32,E4),(31,EM),(30,(e 27)),(12,(e 27)),(29,(e 27)),(28,CQ)]) ds jH))) (fun UX QW=>(GB ro K) (.panic UX) (Env.of e [(32,E4),(31,EM),(30,(e 27)),(12,(e 27)),(29,(e 27)),(28,CQ)]) ds QW))) (K (.exit 0) (Env.of e [(28,CQ)]) ds W)):=by kernel_rfl
theorem tO (ro:Option Nat) (e:Env) (ds:List Deferred) (K:AG) (W:CW):AP prog AT ro 74 140 (AO prog 74 0) e ds W K=(K .normal (Env.of e [(17,(e 73)),(16,(e 72))]) ds W):=by kernel_rfl
theorem tP (ro:Option Nat) (e:Env) (ds:List Deferred) (K:AG) (W:CW):AP prog AT ro 74 140 (AN prog 74 0) e ds W K=(wV (AQ prog .eql 5 true (e 17) (.int .u8 2)) fun LA=>wI LA (wV (A_ prog 56 (e 14) 1) fun L_=>wV (ld prog 40 L_ W) fun M'=>wV (ld prog 124 (e 3) W) fun QH=>wV (ld prog 3 (e 10) W) fun Mc=>wV (AQ prog .add 3 true Mc (.int .i64 1)) fun xL=>wV (ld prog 3 (e 8) W) fun Sq=>CD (blt prog .min [3,3] [xL,Sq] W) fun UW lD=>AH prog AT 110 [QH,UW] lD (AV (fun NC W38=>wV (Dz prog 40 M' (e 16)) fun M_=>wV (CP prog 3 M_ NC W38) fun tQ=>(((True)∧((True)∧((True)∧ld prog 3 (e 8) W=some Sq)))∧(((True)∧((True)∧((True)∧ld prog 3 (e 10) W=some Mc)))∧(((True)∧((True)∧((ld prog 124 (e 3) lD=some QH)∧ld prog 124 (e 3) W=some QH)))∧(((True)∧((ld prog 40 L_ W38=some M')∧((ld prog 40 L_ lD=some M')∧ld prog 40 L_ W=some M')))∧True))))∧True∧wV (ld prog 3 (e 10) tQ) fun Wg=>wV (A_ prog 56 (e 14) 1) fun Yn=>wV (ld prog 40 Yn tQ) fun RN=>wV (Dz prog 40 RN (e 16)) fun RO=>wV (ld prog 3 RO tQ) fun No=>CD (blt prog .max [3,3] [Wg,No] tQ) fun RK W41=>wV (CP prog 3 (e 10) RK W41) fun W42=>(((True)∧((True)∧ld prog 3 RO tQ=some No))∧(((True)∧((True)∧ld prog 40 Yn tQ=some RN))∧(((True)∧((True)∧ld prog 3 (e 10) tQ=some Wg))∧True)))∧True∧K .normal (Env.of e [(92,RK),(91,No),(90,RO),(89,(e 16)),(88,RN),(87,Yn),(86,Wg),(85,M_),(84,NC),(83,UW),(82,Sq),(81,xL),(80,Mc),(79,QH),(78,(e 16)),(77,M'),(76,L_),(75,LA),(74,(e 17))]) ds W42) (fun ABr W39=>(((True)∧ld prog 3 (e 8) W=some Sq)∧(((True)∧ld prog 3 (e 10) W=some Mc)∧(((ld prog 124 (e 3) lD=some QH)∧ld prog 124 (e 3) W=some QH)∧(((ld prog 40 L_ lD=some M')∧ld prog 40 L_ W=some M')∧True))))∧K (.panic ABr) Env.bad ds W39))) (wV (ld prog 124 (e 3) W) fun UA=>AH prog AT 110 [UA,(.int .i64 2000000000)] W (AV (fun Lc W43=>wV (A_ prog 56 (e 14) 1) fun L9=>wV (ld prog 40 L9 W43) fun Ma=>wV (AQ prog .quo 3 true Lc (.int .i64 2)) fun Xk=>wV (Dz prog 40 Ma (e 16)) fun Gt=>wV (CP prog 3 Gt Xk W43) fun W45=>wV (AQ prog .rem 3 true Lc (.int .i64 2)) fun Fi=>wV (AQ prog .eql 3 true Fi (.int .i64 1)) fun FJ=>wI FJ (wV (A_ prog 56 (e 14) 1) fun Wo=>wV (ld prog 40 Wo W45) fun Yi=>wV (AQ prog .add 3 true Lc (.int .i64 1)) fun Wm=>wV (neg Wm) fun kg=>wV (AQ prog .quo 3 true kg (.int .i64 2)) fun Jn=>wV (Dz prog 40 Yi (e 16)) fun Sr=>wV (CP prog 3 Sr Jn W45) fun W46=>K .normal (Env.of e [(111,Sr),(110,Jn),(109,kg),(108,Wm),(107,Lc),(106,(e 16)),(105,Yi),(104,Wo),(103,FJ),(102,Fi),(101,Lc),(100,Gt),(99,Xk),(98,Lc),(97,(e 16)),(96,Ma),(95,L9),(18,Lc),(94,Lc),(93,UA),(75,LA),(74,(e 17))]) ds W46) (K .normal (Env.of e [(103,FJ),(102,Fi),(101,Lc),(100,Gt),(99,Xk),(98,Lc),(97,(e 16)),(96,Ma),(95,L9),(18,Lc),(94,Lc),(93,UA),(75,LA),(74,(e 17))]) ds W45)) (fun ABs W44=>K (.panic ABs) (Env.of e [(93,UA),(75,LA),(74,(e 17))]) ds W44)))):=by kernel_rfl
theorem gP (Q:Ending→CW→Prop) (e:Env) (W:CW):AK prog Tryz.f74 Q .ret e [] W=Q (.returned (e 6)) W:=by kernel_rfl
theorem zC {Q:Ending→CW→Prop} {v0 v1 v2:Value} {W:CW} (h:AP prog AT none 74 140 (AS prog 74) (Env.args [v0,v1,v2]) [] W (AK prog Tryz.f74 Q)):AH prog AT 74 [v0,v1,v2] W Q:=Ab Tryz.func74 (by kernel_rfl) (by kernel_rfl) (by kernel_rfl) (by kernel_rfl) (by kernel_rfl) h
theorem zD (v0 v1 v2:Value) (K:AG) (W:CW):AP prog AT none 75 27 (AS prog 75) (Env.args [v0,v1,v2]) [] W K=(wV (A_ prog 78 v1 0) fun v9=>wV (ld prog 75 v9 W) fun v10=>wV (HB prog 75 v10 v0 true W) fun Br=>wV (ext Br 0) fun Dn=>wV (ext Br 1) fun B9=>CD (GX prog 48 W) fun v4 W0=>wV (CP prog 48 v4 Dn W0) fun W1=>AH prog AT 76 [B9,(.int .i64 213)] W1 (AV (fun FL W2=>wV (A_ prog 83 v2 0) fun C3=>wV (ld prog 81 C3 W2) fun C5=>wV (HB prog 81 C5 v0 true W2) fun DB=>wV (ext DB 0) fun Fy=>wV (ext DB 1) fun EV=>CD (GX prog 58 W2) fun v6 W4=>wV (CP prog 58 v6 Fy W4) fun W5=>wV (KO EV) fun EB=>AH prog AT 76 [EB,(.int .i64 214)] W5 (AV (fun Fz W6=>K .normal (Env.of (Env.args [v0,v1,v2]) [(26,Fz),(25,EB),(24,EV),(7,EV),(6,v6),(23,EV),(22,Fy),(17,DB),(21,DB),(20,v0),(19,C5),(18,C3),(16,FL),(15,B9),(5,B9),(4,v4),(14,B9),(13,Dn),(8,Br),(12,Br),(11,v0),(10,v10),(9,v9)]) [] W6) (fun s_ W7=>K (.panic s_) (Env.of (Env.args [v0,v1,v2]) [(25,EB),(24,EV),(7,EV),(6,v6),(23,EV),(22,Fy),(17,DB),(21,DB),(20,v0),(19,C5),(18,C3),(16,FL),(15,B9),(5,B9),(4,v4),(14,B9),(13,Dn),(8,Br),(12,Br),(11,v0),(10,v10),(9,v9)]) [] W7))) (fun Yg W3=>K (.panic Yg) (Env.of (Env.args [v0,v1,v2]) [(15,B9),(5,B9),(4,v4),(14,B9),(13,Dn),(8,Br),(12,Br),(11,v0),(10,v10),(9,v9)]) [] W3))):=by kernel_rfl
theorem zE {Q:Ending→CW→Prop} {v0 v1 v2:Value} {W:CW} (h:AP prog AT none 75 27 (AS prog 75) (Env.args [v0,v1,v2]) [] W (AK prog Tryz.f75 Q)):AH prog AT 75 [v0,v1,v2] W Q:=Ab Tryz.func75 (by kernel_rfl) (by kernel_rfl) (by kernel_rfl) (by kernel_rfl) (by kernel_rfl) h
theorem zF (v0 v1:Value) (K:AG) (W:CW):AP prog AT none 76 9 (AS prog 76) (Env.args [v0,v1]) [] W K=(wV (KO v0) fun v5=>wI v5 (wV (RE prog 167 [(0,v1)]) fun v7=>wV (mki prog 167 v7) fun v8=>ABk v8 fun ch0=>K (.panic ch0) (Env.of (Env.args [v0,v1]) [(8,v8),(7,v7),(6,v1),(5,v5),(4,v0)]) [] W) (K .normal (Env.of (Env.args [v0,v1]) [(5,v5),(4,v0)]) [] W)):=by kernel_rfl
theorem zG {Q:Ending→CW→Prop} {v0 v1:Value} {W:CW} (h:AP prog AT none 76 9 (AS prog 76) (Env.args [v0,v1]) [] W (AK prog Tryz.f76 Q)):AH prog AT 76 [v0,v1] W Q:=Ab Tryz.func76 (by kernel_rfl) (by kernel_rfl) (by kernel_rfl) (by kernel_rfl) (by kernel_rfl) h
def eP (ro:Option Nat) (K:AG):AG:=Aq (fun e ds W=>wV (ld prog 56 (e 9) W) fun EZ=>wV (CP prog 56 (e 6) EZ W) fun W9=>K .ret (Env.of e [(51,EZ)]) ds W9) K
theorem zH (v0 v1 v2:Value) (K:AG) (W:CW):AP prog AT none 77 52 (AS prog 77) (Env.args [v0,v1,v2]) [] W K=(CD (QU prog 83 v0 W) fun v3 W0=>CD (QU prog 78 v1 W0) fun v4 W1=>CD (QU prog 56 v2 W1) fun v5 W2=>CD (GX prog 56 W2) fun v6 W3=>wV (A_ prog 83 v3 1) fun Dn=>wV (ld prog 81 Dn W3) fun B9=>wV (A_ prog 56 v5 0) fun EC=>wV (ld prog 9 EC W3) fun FL=>wV (HB prog 81 B9 FL true W3) fun DI=>wV (ext DI 0) fun C3=>wV (ext DI 1) fun C5=>CD (GX prog 58 W3) fun v7 W4=>wV (CP prog 58 v7 C3 W4) fun W5=>wV (KO C5) fun DB=>wI DB (wV (ld prog 56 v5 W5) fun Fy=>wV (CP prog 56 v6 Fy W5) fun W6=>K .ret (Env.of (Env.args [v0,v1,v2]) [(22,Fy),(21,DB),(20,C5),(8,C5),(7,v7),(19,C5),(18,C3),(12,DI),(17,DI),(16,FL),(15,EC),(14,B9),(13,Dn),(6,v6),(5,v5),(4,v4),(3,v3)]) [] W6) (wV (A_ prog 58 v7 0) fun EV=>wV (ld prog 9 EV (W5.new (.cells .nil 2 #[.string ⟨#[]⟩,.slice none 0 0] 56))) fun E0=>wV (A_ prog 78 v4 1) fun EB=>wV (ld prog 76 EB (W5.new (.cells .nil 2 #[.string ⟨#[]⟩,.slice none 0 0] 56))) fun Fz=>wV (A_ prog 58 v7 0) fun D4=>wV (ld prog 9 D4 (W5.new (.cells .nil 2 #[.string ⟨#[]⟩,.slice none 0 0] 56))) fun CQ=>wV (HB prog 76 Fz CQ false (W5.new (.cells .nil 2 #[.string ⟨#[]⟩,.slice none 0 0] 56))) fun DY=>wV (AY prog 29 DY (W5.new (.cells .nil 2 #[.string ⟨#[]⟩,.slice none 0 0] 56))) fun v30=>CD (xJ prog 40 v30 v30 (W5.new (.cells .nil 2 #[.string ⟨#[]⟩,.slice none 0 0] 56))) fun EM W7=>wV (RE prog 56 [(0,E0),(1,EM)]) fun E4=>true=true∧wV (CP prog 56 (.pointer (some ⟨W5.sz,0,none⟩)) E4 W7) fun W8=>(((True)∧((True)∧AY prog 29 DY (W5.new (.cells .nil 2 #[.string ⟨#[]⟩,.slice none 0 0] 56))=some v30))∧(((True)∧((True)∧HB prog 76 Fz CQ false (W5.new (.cells .nil 2 #[.string ⟨#[]⟩,.slice none 0 0] 56))=some DY))∧(((True)∧((True)∧ld prog 9 D4 (W5.new (.cells .nil 2 #[.string ⟨#[]⟩,.slice none 0 0] 56))=some CQ))∧(((True)∧((True)∧ld prog 76 EB (W5.new (.cells .nil 2 #[.string ⟨#[]⟩,.slice none 0 0] 56))=some Fz))∧(((True)∧((ld prog 9 EV W7=some E0)∧ld prog 9 EV (W5.new (.cells .nil 2 #[.string ⟨#[]⟩,.slice none 0 0] 56))=some E0))∧True)))))∧(((True)∧((JA (.pointer (some ⟨W5.sz,0,none⟩)) ((W5.new (.cells .nil 2 #[.string ⟨#[]⟩,.slice none 0 0] 56)).obj W5.sz) W7=true)∧JA (.pointer (some ⟨W5.sz,0,none⟩)) ((W5.new (.cells .nil 2 #[.string ⟨#[]⟩,.slice none 0 0] 56)).obj W5.sz) (W5.new (.cells .nil 2 #[.string ⟨#[]⟩,.slice none 0 0] 56))=true))∧True)∧wV (A_ prog 58 v7 2) fun ET=>wV (ld prog 40 ET W8) fun GK=>wV (AY prog 40 GK W8) fun EL=>C1 prog AT none 77 52 (.loop (Ag prog 77 0)) (Env.of (Env.args [v0,v1,v2]) [(36,(.int .i64 0)),(35,EL),(34,GK),(33,ET),(9,(.pointer (some ⟨W5.sz,0,none⟩))),(32,E4),(31,EM),(30,v30),(29,DY),(28,CQ),(27,D4),(26,Fz),(25,EB),(24,E0),(23,EV),(21,DB),(20,C5),(8,C5),(7,v7),(19,C5),(18,C3),(12,DI),(17,DI),(16,FL),(15,EC),(14,B9),(13,Dn),(6,v6),(5,v5),(4,v4),(3,v3)]) [] W8 (BU 0 (eP none K)))):=by kernel_rfl
def eQ (ro:Option Nat) (K:AG):AG:=Aq (fun e ds W=>wV (AQ prog .add 3 true (e 36) (.int .i64 1)) fun GZ=>K .normal (Env.of e [(36,GZ),(50,GZ)]) ds W) K
theorem tR (ro:Option Nat) (e:Env) (ds:List Deferred) (K:AG) (W:CW):AP prog AT ro 77 52 (Ag prog 77 0) e ds W K=(wV (AQ prog .lss 3 false (e 36) (e 35)) fun EK=>wI EK (wV (Dz prog 40 (e 34) (e 36)) fun G0=>wV (ld prog 3 G0 W) fun E3=>wV (A_ prog 56 (e 9) 1) fun EO=>wV (ld prog 40 EO W) fun G9=>wV (A_ prog 56 (e 5) 1) fun Lh=>wV (ld prog 40 Lh W) fun FC=>wV (Dz prog 40 FC (e 36)) fun Iv=>wV (ld prog 3 Iv W) fun F2=>wV (Dz prog 40 G9 E3) fun Fx=>wV (CP prog 3 Fx F2 W) fun NB=>(((True)∧ld prog 3 Iv W=some F2)∧(((True)∧ld prog 40 Lh W=some FC)∧(((True)∧ld prog 40 EO W=some G9)∧True)))∧True∧(eQ ro K) .normal (Env.of e [(49,Fx),(48,F2),(47,Iv),(46,(e 36)),(45,FC),(44,Lh),(43,E3),(42,G9),(41,EO),(11,E3),(10,(e 36)),(40,E3),(39,G0),(38,(e 36)),(37,EK)]) ds NB) (K (.exit 0) (Env.of e [(37,EK)]) ds W)):=by kernel_rfl
theorem zI {Q:Ending→CW→Prop} {v0 v1 v2:Value} {W:CW} (h:AP prog AT none 77 52 (AS prog 77) (Env.args [v0,v1,v2]) [] W (AK prog Tryz.f77 Q)):AH prog AT 77 [v0,v1,v2] W Q:=Ab Tryz.func77 (by kernel_rfl) (by kernel_rfl) (by kernel_rfl) (by kernel_rfl) (by kernel_rfl) h
def Jt (ro:Option Nat) (K:AG):AG:=Aq (fun e ds W=>K .ret (Env.of e [(4,(e 5)),(37,(e 5))]) ds W) K
theorem zJ (v0 v1:Value) (K:AG) (W:CW):AP prog AT none 92 38 (AS prog 92) (Env.args [v0,v1]) [] W K=(AH prog AT 110 [v0,(.int .i64 128)] W (AV (fun v8 W0=>wV (AQ prog .eql 3 true v8 (.int .i64 1)) fun v9=>AH prog AT 76 [v9,(.int .i64 4)] W0 (AV (fun v10 W2=>AH prog AT 110 [v0,(.int .i64 100)] W2 (AV (fun Br W5=>C1 prog AT none 92 38 (.loop (Ag prog 92 0)) (Env.of (Env.args [v0,v1]) [(13,(.int .i64 0)),(12,Br),(11,v0),(5,(.slice none 0 0)),(10,v10),(9,v9),(8,v8),(7,v0),(4,(.slice none 0 0))]) [] W5 (BU 0 (Jt none K))) (fun yo W6=>(Jt none K) (.panic yo) (Env.of (Env.args [v0,v1]) [(11,v0),(5,(.slice none 0 0)),(10,v10),(9,v9),(8,v8),(7,v0),(4,(.slice none 0 0))]) [] W6))) (fun Yg W3=>K (.panic Yg) (Env.of (Env.args [v0,v1]) [(9,v9),(8,v8),(7,v0),(4,(.slice none 0 0))]) [] W3))) (fun SE W1=>K (.panic SE) (Env.of (Env.args [v0,v1]) [(7,v0),(4,(.slice none 0 0))]) [] W1))):=by kernel_rfl
def Hs (ro:Option Nat) (K:AG):AG:=Aq (fun e ds W=>wV (AQ prog .add 3 true (e 13) (.int .i64 1)) fun H8=>K .normal (Env.of e [(13,H8),(36,H8)]) ds W) K
def HP (ro:Option Nat) (K:AG):AG:=Aq (fun e ds W=>Dj prog AT (e 1) [(e 6)] W (fun EM NB=>CD (WX prog 51 1 [(0,(e 6))] NB) fun GK Lf=>CD (app prog [51,51] (e 5) GK Lf) fun EL UY=>(Hs ro K) .normal (Env.of e [(5,EL),(35,EL),(34,GK),(33,(e 6)),(32,(e 5)),(31,EM),(30,(e 6)),(29,(e 1))]) ds UY) (fun ABt bX=>(Hs ro K) (.panic ABt) (Env.of e [(30,(e 6)),(29,(e 1))]) ds bX)) (BU 1 (Hs ro K))
theorem tS (ro:Option Nat) (e:Env) (ds:List Deferred) (K:AG) (W:CW):AP prog AT ro 92 38 (Ag prog 92 0) e ds W K=(wV (AQ prog .lss 3 false (e 13) (e 12)) fun B9=>wI B9 (AH prog AT 110 [(e 0),(.int .i64 60)] W (AV (fun DI W8=>AH prog AT 121 [(e 0),DI] W8 (AV (fun C3 QF=>wV (ye prog 29 9 C3 QF) fun C5=>AH prog AT 101 [C5] QF (AV (fun DB VA=>wI DB (AH prog AT 54 [(e 5),C5] VA (AV (fun EB Im=>wV (KO EB) fun Fz=>AH prog AT 76 [Fz,(.int .i64 4)] Im (AV (fun CQ gG=>(HP ro K) .normal (Env.of e [(28,CQ),(27,Fz),(26,Fz),(22,(.bool true)),(25,EB),(22,(.bool true)),(24,C5),(22,(.bool true)),(23,(e 5)),(22,(.bool true)),(22,DB),(21,DB),(20,C5),(6,C5),(19,C5),(18,C3),(17,DI),(16,(e 0)),(15,(e 0)),(14,B9)]) ds gG) (fun ABu nb=>(HP ro K) (.panic ABu) (Env.of e [(27,Fz),(26,Fz),(22,(.bool true)),(25,EB),(22,(.bool true)),(24,C5),(22,(.bool true)),(23,(e 5)),(22,(.bool true)),(22,DB),(21,DB),(20,C5),(6,C5),(19,C5),(18,C3),(17,DI),(16,(e 0)),(15,(e 0)),(14,B9)]) ds nb))) (fun UX QW=>(HP ro K) (.panic UX) (Env.of e [(22,(.bool true)),(24,C5),(22,(.bool true)),(23,(e 5)),(22,(.bool true)),(22,DB),(21,DB),(20,C5),(6,C5),(19,C5),(18,C3),(17,DI),(16,(e 0)),(15,(e 0)),(14,B9)]) ds QW))) (AH prog AT 76 [(.bool false),(.int .i64 4)] VA (AV (fun CQ jH=>(HP ro K) .normal (Env.of e [(28,CQ),(27,(.bool false)),(26,undef),(22,(.bool false)),(25,undef),(22,(.bool false)),(24,undef),(22,(.bool false)),(23,undef),(22,(.bool false)),(22,DB),(21,DB),(20,C5),(6,C5),(19,C5),(18,C3),(17,DI),(16,(e 0)),(15,(e 0)),(14,B9)]) ds jH) (fun tC bZ=>(HP ro K) (.panic tC) (Env.of e [(27,(.bool false)),(26,undef),(22,(.bool false)),(25,undef),(22,(.bool false)),(24,undef),(22,(.bool false)),(23,undef),(22,(.bool false)),(22,DB),(21,DB),(20,C5),(6,C5),(19,C5),(18,C3),(17,DI),(16,(e 0)),(15,(e 0)),(14,B9)]) ds bZ)))) (fun bY KX=>(HP ro K) (.panic bY) (Env.of e [(20,C5),(6,C5),(19,C5),(18,C3),(17,DI),(16,(e 0)),(15,(e 0)),(14,B9)]) ds KX))) (fun tU C'=>(Hs ro K) (.panic tU) (Env.of e [(17,DI),(16,(e 0)),(15,(e 0)),(14,B9)]) ds C'))) (fun ot W9=>(Hs ro K) (.panic ot) (Env.of e [(16,(e 0)),(15,(e 0)),(14,B9)]) ds W9))) (K (.exit 0) (Env.of e [(14,B9)]) ds W)):=by kernel_rfl
theorem gQ (Q:Ending→CW→Prop) (e:Env) (W:CW):AK prog Tryz.f92 Q .ret e [] W=Q (.returned (e 4)) W:=by kernel_rfl
theorem zK {Q:Ending→CW→Prop} {v0 v1:Value} {W:CW} (h:AP prog AT none 92 38 (AS prog 92) (Env.args [v0,v1]) [] W (AK prog Tryz.f92 Q)):AH prog AT 92 [v0,v1] W Q:=Ab Tryz.func92 (by kernel_rfl) (by kernel_rfl) (by kernel_rfl) (by kernel_rfl) (by kernel_rfl) h
theorem lE (v0:Value) (u:FrameMode) (K:Exit→Env→FrameMode→CW→Prop) (W:CW):wS prog AT 109 17 (AS prog 109) (Env.args [v0]) u W K=(kj u fun v4 u0=>wV (AQ prog .neq 20 true v4 (.nilIface)) fun v6=>wI v6 (wV (tas prog 167 v4 true) fun v9=>wV (ext v9 0) fun v10=>wV (ext v9 1) fun v11=>CD (GX prog 167 W) fun v2 W1=>wV (CP prog 167 v2 v10 W1) fun W2=>wV (KO v11) fun Dn=>wI Dn (False) ((([]:List Deferred)=[]∧wV (A_ prog 167 v2 0) fun EC=>wV (ld prog 30 EC W2) fun FL=>wV (CP prog 30 v0 FL W2) fun W3=>K .normal (Env.of (Env.args [v0]) [(16,FL),(15,EC),(13,Dn),(12,v11),(3,v11),(2,v2),(11,v11),(10,v10),(7,v9),(9,v9),(8,v4),(6,v6),(5,v4),(1,v4),(4,v4)]) u0 W3))) ((([]:List Deferred)=[]∧K .normal (Env.of (Env.args [v0]) [(6,v6),(5,v4),(1,v4),(4,v4)]) u0 W))):=by kernel_rfl
def Ju (ro:Option Nat) (K:AG):AG:=Aq (fun e ds W=>wV (AQ prog .leq 3 false (e 5) (e 1)) fun EK=>AH prog AT 76 [EK,(.int .i64 4)] W (AV (fun IQ W0=>K .ret (Env.of e [(4,(e 5)),(39,(e 5)),(38,IQ),(37,EK),(36,(e 1)),(35,(e 5))]) ds W0) (fun SE W1=>K (.panic SE) (Env.of e [(37,EK),(36,(e 1)),(35,(e 5))]) ds W1))) K
theorem tV (v0 v1:Value) (K:AG) (W:CW):AP prog AT none 110 40 (AS prog 110) (Env.args [v0,v1]) [] W K=(C1 prog AT none 110 40 (.loop (Ag prog 110 0)) (Env.of (Env.args [v0,v1]) [(6,(.int .i64 0)),(5,(.int .i64 0)),(4,(.int .i64 0))]) [] W (BU 0 (Ju none K))):=by kernel_rfl
def Jv (ro:Option Nat) (K:AG):AG:=Aq (fun e ds W=>K (.exit 0) e ds W) (BU 2 (BU 1 K))
theorem ou (ro:Option Nat) (e:Env) (ds:List Deferred) (K:AG) (W:CW):AP prog AT ro 110 40 (Ag prog 110 0) e ds W K=(AH prog AT 121 [(e 0),(.int .i64 1)] W (AV (fun v9 W3=>wV (Dz prog 29 v9 (.int .i64 0)) fun v10=>wV (ld prog 5 v10 W3) fun v11=>wV (yd prog 5 3 v11) fun Br=>wV (AQ prog .rem 3 true Br (.int .i64 128)) fun EC=>wV (AQ prog .shl 3 false EC (e 6)) fun DI=>wV (AQ prog .or 3 false (e 5) DI) fun C3=>wV (AQ prog .add 3 true (e 6) (.int .i64 7)) fun v20=>wV (AQ prog .lss 3 true Br (.int .i64 128)) fun EV=>wI EV (wV (AQ prog .gtr 3 true Br (.int .i64 0)) fun EB=>wI EB (AH prog AT 76 [(.bool true),(.int .i64 4)] W3 (AV (fun v30 W6=>(Jv ro K) .normal (Env.of e [(30,v30),(29,(.bool true)),(28,undef),(26,(.bool true)),(27,undef),(26,(.bool true)),(26,EB),(25,EB),(24,Br),(21,EV),(23,EV),(22,Br),(6,v20),(20,v20),(19,(e 6)),(5,C3),(18,C3),(17,DI),(16,(e 6)),(15,EC),(14,Br),(13,(e 5)),(7,Br),(12,Br),(11,v11),(10,v10),(9,v9),(8,(e 0))]) ds W6) (fun s_ W7=>(Jv ro K) (.panic s_) (Env.of e [(29,(.bool true)),(28,undef),(26,(.bool true)),(27,undef),(26,(.bool true)),(26,EB),(25,EB),(24,Br),(21,EV),(23,EV),(22,Br),(6,v20),(20,v20),(19,(e 6)),(5,C3),(18,C3),(17,DI),(16,(e 6)),(15,EC),(14,Br),(13,(e 5)),(7,Br),(12,Br),(11,v11),(10,v10),(9,v9),(8,(e 0))]) ds W7))) (wV (AQ prog .eql 3 true v20 (.int .i64 7)) fun CQ=>AH prog AT 76 [CQ,(.int .i64 4)] W3 (AV (fun v30 W8=>(Jv ro K) .normal (Env.of e [(30,v30),(29,CQ),(28,CQ),(26,(.bool false)),(27,v20),(26,(.bool false)),(26,EB),(25,EB),(24,Br),(21,EV),(23,EV),(22,Br),(6,v20),(20,v20),(19,(e 6)),(5,C3),(18,C3),(17,DI),(16,(e 6)),(15,EC),(14,Br),(13,(e 5)),(7,Br),(12,Br),(11,v11),(10,v10),(9,v9),(8,(e 0))]) ds W8) (fun ot W9=>(Jv ro K) (.panic ot) (Env.of e [(29,CQ),(28,CQ),(26,(.bool false)),(27,v20),(26,(.bool false)),(26,EB),(25,EB),(24,Br),(21,EV),(23,EV),(22,Br),(6,v20),(20,v20),(19,(e 6)),(5,C3),(18,C3),(17,DI),(16,(e 6)),(15,EC),(14,Br),(13,(e 5)),(7,Br),(12,Br),(11,v11),(10,v10),(9,v9),(8,(e 0))]) ds W9)))) (wV (AQ prog .gtr 3 true v20 (.int .i64 40)) fun ET=>wI ET (AH prog AT 76 [(.bool false),(.int .i64 4)] W3 (AV (fun GK QF=>K .normal (Env.of e [(34,GK),(31,ET),(33,ET),(32,v20),(21,EV),(23,EV),(22,Br),(6,v20),(20,v20),(19,(e 6)),(5,C3),(18,C3),(17,DI),(16,(e 6)),(15,EC),(14,Br),(13,(e 5)),(7,Br),(12,Br),(11,v11),(10,v10),(9,v9),(8,(e 0))]) ds QF) (fun tU C'=>K (.panic tU) (Env.of e [(31,ET),(33,ET),(32,v20),(21,EV),(23,EV),(22,Br),(6,v20),(20,v20),(19,(e 6)),(5,C3),(18,C3),(17,DI),(16,(e 6)),(15,EC),(14,Br),(13,(e 5)),(7,Br),(12,Br),(11,v11),(10,v10),(9,v9),(8,(e 0))]) ds C'))) (K .normal (Env.of e [(31,ET),(33,ET),(32,v20),(21,EV),(23,EV),(22,Br),(6,v20),(20,v20),(19,(e 6)),(5,C3),(18,C3),(17,DI),(16,(e 6)),(15,EC),(14,Br),(13,(e 5)),(7,Br),(12,Br),(11,v11),(10,v10),(9,v9),(8,(e 0))]) ds W3))) (fun ch4 W4=>K (.panic ch4) (Env.of e [(8,(e 0))]) ds W4))):=by kernel_rfl
theorem bh (Q:Ending→CW→Prop) (e:Env) (W:CW):AK prog Tryz.f110 Q .ret e [] W=Q (.returned (e 4)) W:=by kernel_rfl
theorem tW {Q:Ending→CW→Prop} {v0 v1:Value} {W:CW} (h:AP prog AT none 110 40 (AS prog 110) (Env.args [v0,v1]) [] W (AK prog Tryz.f110 Q)):AH prog AT 110 [v0,v1] W Q:=Ab Tryz.func110 (by kernel_rfl) (by kernel_rfl) (by kernel_rfl) (by kernel_rfl) (by kernel_rfl) h
theorem tX (v0 v1:Value) (K:AG) (W:CW):AP prog AT none 121 45 (AS prog 121) (Env.args [v0,v1]) [] W K=(wV (QV v0) fun v6=>wV (A_ prog 170 v6 0) fun v7=>wV (ld prog 29 v7 W) fun v8=>wV (AY prog 29 v8 W) fun v9=>wV (QV v0) fun v11=>wV (A_ prog 170 v11 1) fun Br=>wV (ld prog 3 Br W) fun Dn=>wV (AQ prog .sub 3 false v9 Dn) fun B9=>wV (AQ prog .geq 3 false B9 v1) fun FL=>AH prog AT 76 [FL,(.int .i64 4)] W (AV (fun DI W0=>(((True)∧ld prog 3 Br W=some Dn)∧(((True)∧AY prog 29 v8 W=some v9)∧(((True)∧ld prog 29 v7 W=some v8)∧True)))∧True∧wV (QV v0) fun C5=>wV (A_ prog 170 C5 1) fun v20=>wV (ld prog 3 v20 W0) fun DB=>wV (AQ prog .add 3 false DB v1) fun EV=>wV (QV v0) fun E0=>wV (A_ prog 170 E0 1) fun EB=>wV (CP prog 3 EB EV W0) fun W2=>wV (QV v0) fun D4=>wV (A_ prog 170 D4 0) fun CQ=>wV (ld prog 29 CQ W2) fun DY=>wV (QV v0) fun EM=>wV (A_ prog 170 EM 1) fun E4=>wV (ld prog 3 E4 W2) fun ET=>wV (AQ prog .sub 3 false ET v1) fun EL=>wV (QV v0) fun EK=>wV (A_ prog 170 EK 1) fun IQ=>wV (ld prog 3 IQ W2) fun G0=>wV (QV v0) fun EO=>wV (A_ prog 170 EO 1) fun G9=>wV (ld prog 3 G9 W2) fun D9=>wV (eF prog 29 DY (some EL) (some G0) (some D9) W2) fun Lh=>(eF prog 29 DY (some EL) (some G0) (some D9) W2=some Lh∧(ld prog 3 G9 W2=some D9∧(ld prog 3 IQ W2=some G0∧(ld prog 3 E4 W2=some ET∧(ld prog 29 CQ W2=some DY∧True)))))∧True∧K .ret (Env.of (Env.args [v0,v1]) [(4,Lh),(44,Lh),(43,D9),(42,G9),(41,EO),(40,v0),(39,G0),(38,IQ),(37,EK),(36,v0),(35,EL),(34,v1),(33,ET),(32,E4),(31,EM),(30,v0),(29,DY),(28,CQ),(27,D4),(26,v0),(25,EB),(24,E0),(23,EV),(22,v1),(21,DB),(20,v20),(19,C5),(18,v0),(17,DI),(16,FL),(15,v1),(14,B9),(13,Dn),(12,Br),(11,v11),(10,v0),(9,v9),(8,v8),(7,v7),(6,v6),(5,v0),(4,(.slice none 0 0))]) [] W2) (fun SE W1=>(ld prog 3 Br W=some Dn∧(AY prog 29 v8 W=some v9∧(ld prog 29 v7 W=some v8∧True)))∧K (.panic SE) Env.bad [] W1))):=by kernel_rfl
theorem bj (Q:Ending→CW→Prop) (e:Env) (W:CW):AK prog Tryz.f121 Q .ret e [] W=Q (.returned (e 4)) W:=by kernel_rfl
theorem tY {Q:Ending→CW→Prop} {v0 v1:Value} {W:CW} (h:AP prog AT none 121 45 (AS prog 121) (Env.args [v0,v1]) [] W (AK prog Tryz.f121 Q)):AH prog AT 121 [v0,v1] W Q:=Ab Tryz.func121 (by kernel_rfl) (by kernel_rfl) (by kernel_rfl) (by kernel_rfl) (by kernel_rfl) h
end Go.Ce
namespace Go.Ce
open Go Go.Proofs Go.Proofs.Tryz
end Go.Ce
namespace Go.Ce
open Go Go.Proofs Go.Proofs.Tryz
def Wt (ro:Option Nat) (K:AG):AG:=Aq (fun e ds W=>K .ret e ds W) K
theorem tZ (v0 v1 v2:Value) (K:AG) (W:CW):AP prog AT none 103 15 (AS prog 103) (Env.args [v0,v1,v2]) [] W K=(wV (AQ prog .geq 3 false v0 v1) fun v9=>wI v9 (wV (AQ prog .leq 3 false v0 v2) fun Dn=>(Wt none K) .normal (Env.of (Env.args [v0,v1,v2]) [(6,Dn),(14,Dn),(13,Dn),(10,(.bool true)),(12,v2),(10,(.bool true)),(11,v0),(10,(.bool true)),(10,v9),(9,v9),(8,v1),(7,v0),(6,(.bool false))]) [] W) ((Wt none K) .normal (Env.of (Env.args [v0,v1,v2]) [(6,(.bool false)),(14,(.bool false)),(13,undef),(10,(.bool false)),(12,undef),(10,(.bool false)),(11,undef),(10,(.bool false)),(10,v9),(9,v9),(8,v1),(7,v0),(6,(.bool false))]) [] W)):=by kernel_rfl
theorem bn (Q:Ending→CW→Prop) (e:Env) (W:CW):AK prog Tryz.f103 Q .ret e [] W=Q (.returned (e 6)) W:=by kernel_rfl
theorem tc {Q:Ending→CW→Prop} {v0 v1 v2:Value} {W:CW} (h:AP prog AT none 103 15 (AS prog 103) (Env.args [v0,v1,v2]) [] W (AK prog Tryz.f103 Q)):AH prog AT 103 [v0,v1,v2] W Q:=Ab Tryz.func103 (by kernel_rfl) (by kernel_rfl) (by kernel_rfl) (by kernel_rfl) (by kernel_rfl) h
def Wu (ro:Option Nat) (K:AG):AG:=Aq (fun e ds W=>K .ret e ds W) K
theorem td (v0:Value) (K:AG) (W:CW):AP prog AT none 100 9 (AS prog 100) (Env.args [v0]) [] W K=(wV (AQ prog .eql 5 true v0 (.int .u8 1)) fun v4=>wI v4 ((Wu none K) .normal (Env.of (Env.args [v0]) [(2,(.bool true)),(8,(.bool true)),(7,undef),(5,(.bool true)),(6,undef),(5,(.bool true)),(5,v4),(4,v4),(3,v0),(2,(.bool false))]) [] W) (wV (AQ prog .eql 5 true v0 (.int .u8 2)) fun v7=>(Wu none K) .normal (Env.of (Env.args [v0]) [(2,v7),(8,v7),(7,v7),(5,(.bool false)),(6,v0),(5,(.bool false)),(5,v4),(4,v4),(3,v0),(2,(.bool false))]) [] W)):=by kernel_rfl
theorem bo (Q:Ending→CW→Prop) (e:Env) (W:CW):AK prog Tryz.f100 Q .ret e [] W=Q (.returned (e 2)) W:=by kernel_rfl
theorem te {Q:Ending→CW→Prop} {v0:Value} {W:CW} (h:AP prog AT none 100 9 (AS prog 100) (Env.args [v0]) [] W (AK prog Tryz.f100 Q)):AH prog AT 100 [v0] W Q:=Ab Tryz.func100 (by kernel_rfl) (by kernel_rfl) (by kernel_rfl) (by kernel_rfl) (by kernel_rfl) h
def Lj (ro:Option Nat) (K:AG):AG:=Aq (fun e ds W=>K .ret e ds W) K
theorem tf (v0:Value) (K:AG) (W:CW):AP prog AT none 101 12 (AS prog 101) (Env.args [v0]) [] W K=(wV (AY prog 9 v0 W) fun v4=>AH prog AT 103 [v4,(.int .i64 1),(.int .i64 60)] W (AV (fun v5 W1=>wI v5 (CD (s6 prog 9 29 v0 W1) fun v8 W3=>AH prog AT 123 [v8,(.func (.func 124) #[] #[])] W3 (AV (fun v9 W4=>wV (KO v9) fun v10=>(Lj none K) .normal (Env.of (Env.args [v0]) [(2,v10),(11,v10),(10,v10),(6,(.bool true)),(9,v9),(6,(.bool true)),(8,v8),(6,(.bool true)),(7,v0),(6,(.bool true)),(6,v5),(5,v5),(4,v4),(3,v0),(2,(.bool false))]) [] W4) (fun kZ W5=>(Lj none K) (.panic kZ) (Env.of (Env.args [v0]) [(6,(.bool true)),(8,v8),(6,(.bool true)),(7,v0),(6,(.bool true)),(6,v5),(5,v5),(4,v4),(3,v0),(2,(.bool false))]) [] W5))) ((Lj none K) .normal (Env.of (Env.args [v0]) [(2,(.bool false)),(11,(.bool false)),(10,undef),(6,(.bool false)),(9,undef),(6,(.bool false)),(8,undef),(6,(.bool false)),(7,undef),(6,(.bool false)),(6,v5),(5,v5),(4,v4),(3,v0),(2,(.bool false))]) [] W1)) (fun kf W2=>(Lj none K) (.panic kf) (Env.of (Env.args [v0]) [(4,v4),(3,v0),(2,(.bool false))]) [] W2))):=by kernel_rfl
theorem St (Q:Ending→CW→Prop) (e:Env) (W:CW):AK prog Tryz.f101 Q .ret e [] W=Q (.returned (e 2)) W:=by kernel_rfl
theorem th {Q:Ending→CW→Prop} {v0:Value} {W:CW} (h:AP prog AT none 101 12 (AS prog 101) (Env.args [v0]) [] W (AK prog Tryz.f101 Q)):AH prog AT 101 [v0] W Q:=Ab Tryz.func101 (by kernel_rfl) (by kernel_rfl) (by kernel_rfl) (by kernel_rfl) (by kernel_rfl) h
theorem tj (v0 v1:Value) (K:AG) (W:CW):AP prog AT none 123 9 (AS prog 123) (Env.args [v0,v1]) [] W K=(AH prog AT 140 [v0,v1] W (AV (fun v7 W0=>wV (AQ prog .geq 3 true v7 (.int .i64 0)) fun v8=>K .ret (Env.of (Env.args [v0,v1]) [(4,v8),(8,v8),(7,v7),(6,v1),(5,v0),(4,(.bool false))]) [] W0) (fun SE W1=>K (.panic SE) (Env.of (Env.args [v0,v1]) [(6,v1),(5,v0),(4,(.bool false))]) [] W1))):=by kernel_rfl
theorem bp (Q:Ending→CW→Prop) (e:Env) (W:CW):AK prog Tryz.f123 Q .ret e [] W=Q (.returned (e 4)) W:=by kernel_rfl
theorem tk {Q:Ending→CW→Prop} {v0 v1:Value} {W:CW} (h:AP prog AT none 123 9 (AS prog 123) (Env.args [v0,v1]) [] W (AK prog Tryz.f123 Q)):AH prog AT 123 [v0,v1] W Q:=Ab Tryz.func123 (by kernel_rfl) (by kernel_rfl) (by kernel_rfl) (by kernel_rfl) (by kernel_rfl) h
def Wv (ro:Option Nat) (K:AG):AG:=Aq (fun e ds W=>K .ret (Env.of e [(4,(.int .i64 (-1)))]) ds W) K
theorem tp (v0 v1:Value) (K:AG) (W:CW):AP prog AT none 140 19 (AS prog 140) (Env.args [v0,v1]) [] W K=(wV (AY prog 29 v0 W) fun v7=>C1 prog AT none 140 19 (.loop (Ag prog 140 0)) (Env.of (Env.args [v0,v1]) [(8,(.int .i64 0)),(7,v7),(6,v0),(4,(.int .i64 0))]) [] W (BU 0 (Wv none K))):=by kernel_rfl
def Nq (ro:Option Nat) (K:AG):AG:=Aq (fun e ds W=>wV (AQ prog .add 3 true (e 8) (.int .i64 1)) fun C3=>K .normal (Env.of e [(8,C3),(18,C3)]) ds W) K
theorem ov (ro:Option Nat) (e:Env) (ds:List Deferred) (K:AG) (W:CW):AP prog AT ro 140 19 (Ag prog 140 0) e ds W K=(wV (AQ prog .lss 3 false (e 8) (e 7)) fun v9=>wI v9 (wV (Dz prog 29 (e 0) (e 8)) fun B9=>wV (ld prog 5 B9 W) fun EC=>Dj prog AT (e 1) [EC] W (fun FL W2=>wI FL ((Nq ro K) .ret (Env.of e [(4,(e 8)),(17,(e 8)),(16,FL),(15,EC),(14,B9),(13,(e 8)),(12,(e 0)),(11,(e 1)),(5,(e 8)),(10,(e 8)),(9,v9)]) ds W2) ((Nq ro K) .normal (Env.of e [(16,FL),(15,EC),(14,B9),(13,(e 8)),(12,(e 0)),(11,(e 1)),(5,(e 8)),(10,(e 8)),(9,v9)]) ds W2)) (fun Yg W3=>(Nq ro K) (.panic Yg) (Env.of e [(15,EC),(14,B9),(13,(e 8)),(12,(e 0)),(11,(e 1)),(5,(e 8)),(10,(e 8)),(9,v9)]) ds W3)) (K (.exit 0) (Env.of e [(9,v9)]) ds W)):=by kernel_rfl
theorem Su (Q:Ending→CW→Prop) (e:Env) (W:CW):AK prog Tryz.f140 Q .ret e [] W=Q (.returned (e 4)) W:=by kernel_rfl
theorem tq {Q:Ending→CW→Prop} {v0 v1:Value} {W:CW} (h:AP prog AT none 140 19 (AS prog 140) (Env.args [v0,v1]) [] W (AK prog Tryz.f140 Q)):AH prog AT 140 [v0,v1] W Q:=Ab Tryz.func140 (by kernel_rfl) (by kernel_rfl) (by kernel_rfl) (by kernel_rfl) (by kernel_rfl) h
def Ww (ro:Option Nat) (K:AG):AG:=Aq (fun e ds W=>K .ret e ds W) K
theorem tr (v0:Value) (K:AG) (W:CW):AP prog AT none 124 9 (AS prog 124) (Env.args [v0]) [] W K=(wV (AQ prog .lss 5 true v0 (.int .u8 33)) fun v4=>wI v4 ((Ww none K) .normal (Env.of (Env.args [v0]) [(2,(.bool true)),(8,(.bool true)),(7,undef),(5,(.bool true)),(6,undef),(5,(.bool true)),(5,v4),(4,v4),(3,v0),(2,(.bool false))]) [] W) (wV (AQ prog .gtr 5 true v0 (.int .u8 126)) fun v7=>(Ww none K) .normal (Env.of (Env.args [v0]) [(2,v7),(8,v7),(7,v7),(5,(.bool false)),(6,v0),(5,(.bool false)),(5,v4),(4,v4),(3,v0),(2,(.bool false))]) [] W)):=by kernel_rfl
theorem bt (Q:Ending→CW→Prop) (e:Env) (W:CW):AK prog Tryz.f124 Q .ret e [] W=Q (.returned (e 2)) W:=by kernel_rfl
theorem tu {Q:Ending→CW→Prop} {v0:Value} {W:CW} (h:AP prog AT none 124 9 (AS prog 124) (Env.args [v0]) [] W (AK prog Tryz.f124 Q)):AH prog AT 124 [v0] W Q:=Ab Tryz.func124 (by kernel_rfl) (by kernel_rfl) (by kernel_rfl) (by kernel_rfl) (by kernel_rfl) h
theorem tv (v0 v1:Value) (K:AG) (W:CW):AP prog AT none 102 17 (AS prog 102) (Env.args [v0,v1]) [] W K=(CD (QU prog 78 v0 W) fun v2 W0=>CD (qq W0) fun v9 W1=>CD (GX prog 181 W1) fun v6 W2=>wV (CP prog 181 v6 v9 W2) fun W3=>CD (qq W3) fun v10 W4=>CD (GX prog 181 W4) fun v7 W5=>wV (CP prog 181 v7 v10 W5) fun W6=>CD (GX prog 161 W6) fun v8 W7=>wV (some (.func (.func 125) #[] #[v2,v6,v8,v7])) fun v11=>wV (CP prog 161 v8 v11 W7) fun W8=>wV (ld prog 161 v8 W8) fun Br=>Dj prog AT Br [v1] W8 (fun B9 W9=>wV (ext B9 0) fun EC=>wV (ext B9 1) fun FL=>K .ret (Env.of (Env.args [v0,v1]) [(5,FL),(4,EC),(16,FL),(15,EC),(14,B9),(13,v1),(12,Br),(11,v11),(8,v8),(7,v7),(10,v10),(6,v6),(9,v9),(5,(.bool false)),(4,(.slice none 0 0)),(2,v2)]) [] W9) (fun Wf QF=>K (.panic Wf) (Env.of (Env.args [v0,v1]) [(13,v1),(12,Br),(11,v11),(8,v8),(7,v7),(10,v10),(6,v6),(9,v9),(5,(.bool false)),(4,(.slice none 0 0)),(2,v2)]) [] QF)):=by kernel_rfl
theorem Sv (Q:Ending→CW→Prop) (e:Env) (W:CW):AK prog Tryz.f102 Q .ret e [] W=Q (.returned (.tuple #[e 4,e 5])) W:=by kernel_rfl
theorem tw {Q:Ending→CW→Prop} {v0 v1:Value} {W:CW} (h:AP prog AT none 102 17 (AS prog 102) (Env.args [v0,v1]) [] W (AK prog Tryz.f102 Q)):AH prog AT 102 [v0,v1] W Q:=Ab Tryz.func102 (by kernel_rfl) (by kernel_rfl) (by kernel_rfl) (by kernel_rfl) (by kernel_rfl) h
def IS (ro:Option Nat) (K:AG):AG:=Aq (fun e ds W=>wV (AY prog 29 (e 10) W) fun Sq=>wV (AQ prog .leq 3 true Sq (.int .i64 60)) fun UW=>K .ret (Env.of e [(7,UW),(6,(e 10)),(83,UW),(82,Sq),(81,(e 10)),(80,(e 10))]) ds W) K
def FV (ro:Option Nat) (K:AG):AG:=Aq (fun e ds W=>wV (A_ prog 48 (e 8) 2) fun F2=>wV (ld prog 45 F2 W) fun Fx=>wV (AY prog 45 Fx W) fun GZ=>C1 prog AT ro 125 84 (.loop (Ag prog 125 0)) (Env.of e [(51,(.int .i64 0)),(50,GZ),(49,Fx),(48,F2)]) ds W (BU 0 (IS ro K))) K
def Lk (ro:Option Nat) (K:AG):AG:=Aq (fun e ds W=>wV (ld prog 181 (e 2) W) fun D4=>wV (aC prog 181 D4 (e 0) (.bool true) W) fun W2=>wV (A_ prog 48 (e 8) 1) fun DY=>wV (ld prog 9 DY W2) fun v30=>wV (AQ prog .neq 9 true v30 (.string ⟨#[]⟩)) fun EM=>wI EM (wV (A_ prog 78 (e 1) 0) fun E4=>wV (ld prog 75 E4 W2) fun ET=>wV (A_ prog 48 (e 8) 1) fun GK=>wV (ld prog 9 GK W2) fun EL=>wV (HB prog 75 ET EL false W2) fun H8=>wV (yg prog 48 H8 3) fun EK=>wV (AQ prog .neq 5 true EK (.int .u8 0)) fun IQ=>wI IQ ((FV ro K) .ret (Env.of e [(7,(.bool false)),(6,(.slice none 0 0)),(38,IQ),(37,EK),(36,H8),(35,EL),(34,GK),(33,ET),(32,E4),(31,EM),(30,v30),(29,DY),(10,(.slice none 0 0)),(28,(e 0)),(27,D4)]) ds W2) (wV (ld prog 161 (e 3) W2) fun E3=>wV (A_ prog 48 (e 8) 1) fun EO=>wV (ld prog 9 EO W2) fun G9=>Dj prog AT E3 [G9] W2 (fun D9 W5=>wV (ext D9 0) fun Lh=>wV (ext D9 1) fun FC=>wV (KO FC) fun Iv=>wI Iv ((FV ro K) .ret (Env.of e [(7,(.bool false)),(6,(.slice none 0 0)),(47,Iv),(46,FC),(9,FC),(10,Lh),(45,FC),(44,Lh),(39,D9),(43,D9),(42,G9),(41,EO),(40,E3),(38,IQ),(37,EK),(36,H8),(35,EL),(34,GK),(33,ET),(32,E4),(31,EM),(30,v30),(29,DY),(10,(.slice none 0 0)),(28,(e 0)),(27,D4)]) ds W5) ((FV ro K) .normal (Env.of e [(47,Iv),(46,FC),(9,FC),(10,Lh),(45,FC),(44,Lh),(39,D9),(43,D9),(42,G9),(41,EO),(40,E3),(38,IQ),(37,EK),(36,H8),(35,EL),(34,GK),(33,ET),(32,E4),(31,EM),(30,v30),(29,DY),(10,(.slice none 0 0)),(28,(e 0)),(27,D4)]) ds W5)) (fun yo W6=>(FV ro K) (.panic yo) (Env.of e [(42,G9),(41,EO),(40,E3),(38,IQ),(37,EK),(36,H8),(35,EL),(34,GK),(33,ET),(32,E4),(31,EM),(30,v30),(29,DY),(10,(.slice none 0 0)),(28,(e 0)),(27,D4)]) ds W6))) ((FV ro K) .normal (Env.of e [(31,EM),(30,v30),(29,DY),(10,(.slice none 0 0)),(28,(e 0)),(27,D4)]) ds W2)) K
def RP (ro:Option Nat) (K:AG):AG:=Aq (fun e ds W=>wI (e 26) ((Lk ro K) .ret (Env.of e [(7,(.bool false)),(6,(.slice none 0 0))]) ds W) ((Lk ro K) .normal e ds W)) (Lk ro K)
theorem tx (v0 v1 v2 v3 v4:Value) (K:AG) (W:CW):AP prog AT none 125 84 (AS prog 125) (Env.args [v0,v1,v2,v3,v4]) [] W K=(wV (A_ prog 78 v1 0) fun B9=>wV (ld prog 75 B9 W) fun EC=>wV (HB prog 75 EC v0 true W) fun DI=>wV (ext DI 0) fun C3=>wV (ext DI 1) fun C5=>CD (GX prog 48 W) fun v8 W0=>wV (CP prog 48 v8 C3 W0) fun W1=>wV (KO C5) fun DB=>wI DB ((RP none K) .normal (Env.of (Env.args [v0,v1,v2,v3,v4]) [(26,(.bool true)),(25,undef),(22,(.bool true)),(24,undef),(22,(.bool true)),(23,undef),(22,(.bool true)),(22,DB),(21,DB),(20,C5),(9,C5),(8,v8),(19,C5),(18,C3),(13,DI),(17,DI),(16,v0),(15,EC),(14,B9),(7,(.bool false)),(6,(.slice none 0 0))]) [] W1) (wV (ld prog 181 v2 W1) fun EV=>wV (HB prog 181 EV v0 false W1) fun EB=>(RP none K) .normal (Env.of (Env.args [v0,v1,v2,v3,v4]) [(26,EB),(25,EB),(22,(.bool false)),(24,v0),(22,(.bool false)),(23,EV),(22,(.bool false)),(22,DB),(21,DB),(20,C5),(9,C5),(8,v8),(19,C5),(18,C3),(13,DI),(17,DI),(16,v0),(15,EC),(14,B9),(7,(.bool false)),(6,(.slice none 0 0))]) [] W1)):=by kernel_rfl
def RQ (ro:Option Nat) (K:AG):AG:=Aq (fun e ds W=>wV (AQ prog .add 3 true (e 51) (.int .i64 1)) fun QH=>K .normal (Env.of e [(51,QH),(79,QH)]) ds W) K
def LD (ro:Option Nat) (K:AG):AG:=Aq (fun e ds W=>wV (ld prog 181 (e 4) W) fun QG=>wV (A_ prog 72 (e 12) 0) fun RI=>wV (ld prog 9 RI W) fun na=>wV (aC prog 181 QG na (.bool true) W) fun NB=>wV (A_ prog 72 (e 12) 1) fun LA=>wV (ld prog 5 LA NB) fun L_=>CD (WX prog 29 1 [(0,L_)] NB) fun M' bX=>CD (app prog [29,29] (e 10) M' bX) fun Yh Lf=>(RQ ro K) .normal (Env.of e [(10,Yh),(78,Yh),(77,M'),(76,L_),(75,LA),(74,(e 10)),(73,na),(72,RI),(71,QG)]) ds Lf) (BU 1 (RQ ro K))
def Ht (ro:Option Nat) (K:AG):AG:=Aq (fun e ds W=>wI (e 70) ((LD ro K) .ret (Env.of e [(7,(.bool false)),(6,(.slice none 0 0))]) ds W) ((LD ro K) .normal e ds W)) (LD ro K)
theorem ow (ro:Option Nat) (e:Env) (ds:List Deferred) (K:AG) (W:CW):AP prog AT ro 125 84 (Ag prog 125 0) e ds W K=(wV (AQ prog .lss 3 false (e 51) (e 50)) fun NA=>wI NA (wV (Dz prog 45 (e 49) (e 51)) fun FD=>wV (ld prog 72 FD W) fun GL=>CD (GX prog 72 W) fun Br QF=>wV (CP prog 72 Br GL QF) fun C'=>wV (A_ prog 72 Br 0) fun MC=>wV (ld prog 9 MC C') fun EU=>AH prog AT 101 [EU] C' (AV (fun Mb VA=>wV (KO Mb) fun JZ=>wI JZ ((Ht ro K) .normal (Env.of e [(70,(.bool true)),(69,undef),(65,(.bool true)),(68,undef),(65,(.bool true)),(67,undef),(65,(.bool true)),(66,undef),(65,(.bool true)),(65,(.bool true)),(64,(.bool true)),(63,undef),(59,(.bool true)),(62,undef),(59,(.bool true)),(61,undef),(59,(.bool true)),(60,undef),(59,(.bool true)),(59,JZ),(58,JZ),(57,Mb),(56,EU),(55,MC),(12,Br),(54,GL),(53,FD),(52,NA)]) ds VA) (wV (A_ prog 72 Br 1) fun GO=>wV (ld prog 5 GO VA) fun GR=>AH prog AT 100 [GR] VA (AV (fun Wi Im=>wV (KO Wi) fun Ld=>wI Ld ((Ht ro K) .normal (Env.of e [(70,(.bool true)),(69,undef),(65,(.bool true)),(68,undef),(65,(.bool true)),(67,undef),(65,(.bool true)),(66,undef),(65,(.bool true)),(65,Ld),(64,Ld),(63,Ld),(59,(.bool false)),(62,Wi),(59,(.bool false)),(61,GR),(59,(.bool false)),(60,GO),(59,(.bool false)),(59,JZ),(58,JZ),(57,Mb),(56,EU),(55,MC),(12,Br),(54,GL),(53,FD),(52,NA)]) ds Im) (wV (ld prog 181 (e 4) Im) fun Fw=>wV (A_ prog 72 Br 0) fun UZ=>wV (ld prog 9 UZ Im) fun Jo=>wV (HB prog 181 Fw Jo false Im) fun Jq=>(Ht ro K) .normal (Env.of e [(70,Jq),(69,Jq),(65,(.bool false)),(68,Jo),(65,(.bool false)),(67,UZ),(65,(.bool false)),(66,Fw),(65,(.bool false)),(65,Ld),(64,Ld),(63,Ld),(59,(.bool false)),(62,Wi),(59,(.bool false)),(61,GR),(59,(.bool false)),(60,GO),(59,(.bool false)),(59,JZ),(58,JZ),(57,Mb),(56,EU),(55,MC),(12,Br),(54,GL),(53,FD),(52,NA)]) ds Im)) (fun UX QW=>(Ht ro K) (.panic UX) (Env.of e [(59,(.bool false)),(61,GR),(59,(.bool false)),(60,GO),(59,(.bool false)),(59,JZ),(58,JZ),(57,Mb),(56,EU),(55,MC),(12,Br),(54,GL),(53,FD),(52,NA)]) ds QW)))) (fun bY KX=>(Ht ro K) (.panic bY) (Env.of e [(56,EU),(55,MC),(12,Br),(54,GL),(53,FD),(52,NA)]) ds KX))) (K (.exit 0) (Env.of e [(52,NA)]) ds W)):=by kernel_rfl
theorem Sw (Q:Ending→CW→Prop) (e:Env) (W:CW):AK prog Tryz.f125 Q .ret e [] W=Q (.returned (.tuple #[e 6,e 7])) W:=by kernel_rfl
theorem tz {Q:Ending→CW→Prop} {v0 v1 v2 v3 v4:Value} {W:CW} (h:AP prog AT none 125 84 (AS prog 125) (Env.args [v0,v1,v2,v3,v4]) [] W (AK prog Tryz.f125 Q)):AH prog AT 125 [v0,v1,v2,v3,v4] W Q:=Ab Tryz.func125 (by kernel_rfl) (by kernel_rfl) (by kernel_rfl) (by kernel_rfl) (by kernel_rfl) h
end Go.Ce
namespace Go.Ce
theorem BF (W:CW) (o:As) (b:Nat):(W.new o).obj b=if b=W.sz then some o else W.obj b:=by
 unfold CW.new CW.obj; simp only [Tr.BV]
theorem FW (W:CW) (i:Nat) (o:As) (b:Nat):(W.A4 i o).obj b=if b=i then some o else W.obj b:=by
 unfold CW.A4 CW.obj; simp only [Tr.BV]
theorem Fj (W:CW) (o:As):(W.new o).sz=W.sz+1:=rfl
theorem lF (W:CW) (i:Nat) (o:As):(W.A4 i o).sz=W.sz:=rfl
def CW.cell (W:CW) (b k:Nat):Option Value:=match W.obj b with
 | some (.cells c n z _)=>if k<n then some (cellAt c z k) else none
 | some (.fixed f n _)=>if k<n then some (f k) else none
 | _=>none
def At (W:CW):Prop:=∀ i o,W.obj i=some o→i<W.sz
structure Kp (W W':CW):Prop where
 sz:W.sz≤W'.sz
 obj:∀ b,b<W.sz→W'.obj b=W.obj b
structure DM (b:Nat) (W W':CW):Prop where
 sz:W'.sz=W.sz
 obj:∀ i,i≠b→W'.obj i=W.obj i
theorem Kp.refl (W:CW):Kp W W:=⟨Nat.le_refl _,fun _ _=>rfl⟩
theorem Kp.trans {A B C:CW} (h:Kp A B) (k:Kp B C):Kp A C:=⟨Nat.le_trans h.sz k.sz,fun b hb=>(k.obj b (Nat.lt_of_lt_of_le hb h.sz)).trans (h.obj b hb)⟩
theorem Kp.new {W:CW} (o:As):Kp W (W.new o):=⟨Nat.le_succ _,fun b hb=>by rw [BF,if_neg (Nat.ne_of_lt hb)]⟩
theorem Kp.A4 {A B C:CW} {b:Nat} (h:Kp A B) (hb:A.sz≤b) (k:DM b B C):Kp A C:=⟨by rw [k.sz]; exact h.sz,fun i hi=>(k.obj i (by omega)).trans (h.obj i hi)⟩
theorem At.new {W:CW} (h:At W) (o:As):At (W.new o):=by
 intro i u hu; rw [BF] at hu; rw [Fj]
 split at hu
 ·omega
 ·have:=h i u hu; omega
theorem At.A4 {W W':CW} {b:Nat} (h:At W) (hb:b<W.sz) (k:DM b W W'):At W':=by
 intro i u hu; rw [k.sz]
 by_cases e:i=b
 ·omega
 ·rw [k.obj i e] at hu; exact h i u hu
theorem DM.of (W:CW) (b:Nat) (o:As):DM b W (W.A4 b o):=⟨rfl,fun i hi=>by rw [FW,if_neg hi]⟩
theorem eR {W:CW} (h:At W) {b k:Nat} {v:Value} (hc:W.cell b k=some v):b<W.sz:=by
 unfold CW.cell at hc
 cases ho:W.obj b with
 | none=>rw [ho] at hc; cases hc
 | some o=>exact h b o ho
theorem Jw {W W':CW} {b:Nat} (h:W'.obj b=W.obj b) (k:Nat):W'.cell b k=W.cell b k:=by unfold CW.cell; rw [h]
theorem Kp.cell {W W':CW} (h:Kp W W') (ht:At W) {b k:Nat} {v:Value} (hc:W.cell b k=some v):W'.cell b k=some v:=by
 rw [Jw (h.obj b (eR ht hc))]; exact hc
theorem DM.cell {W W':CW} {i:Nat} (h:DM i W W') {b:Nat} (hb:b≠i) (k:Nat):W'.cell b k=W.cell b k:=Jw (h.obj b hb) k
def Aw (W:CW) (b:Nat) (e:TypeId) (vs:List Value):Prop:=∃ c n z,W.obj b=some (.cells c n z e)∧vs.length=n∧∀ k v,vs[k]?=some v→cellAt c z k=v
theorem Aw.cell {W:CW} {b:Nat} {e:TypeId} {vs:List Value} (h:Aw W b e vs) {k:Nat} {v:Value} (hk:vs[k]?=some v):W.cell b k=some v:=by
 obtain ⟨c,n,z,ho,hn,hv⟩:=h; unfold CW.cell; rw [ho]; have:k<n:=by rw [←hn]; exact (List.getElem?_eq_some_iff.1 hk).1
 simp only [if_pos this,hv k v hk]
theorem Aw.congr {W W':CW} {b:Nat} {e:TypeId} {vs:List Value} (h:Aw W b e vs) (ho:W'.obj b=W.obj b):Aw W' b e vs:=by
 obtain ⟨c,n,z,h1,h2⟩:=h; exact ⟨c,n,z,ho.trans h1,h2⟩
theorem Aw.lt {W:CW} (ht:At W) {b:Nat} {e:TypeId} {vs:List Value} (h:Aw W b e vs):b<W.sz:=by
 obtain ⟨c,n,z,h1,h2⟩:=h; exact ht _ _ h1
theorem Aw.ext {W W':CW} {b:Nat} {e:TypeId} {vs:List Value} (h:Aw W b e vs) (ht:At W) (k:Kp W W'):Aw W' b e vs:=h.congr (k.obj b (h.lt ht))
section
variable {P:Program}
theorem AD {t:TypeId} (h:agg? P t=some false) {a:Addr} {W:CW} {v:Value} (hc:W.cell a.block a.off=some v):ld P t (.pointer (some a)) W=some v:=by
 unfold CW.cell at hc; unfold ld IC; simp only
 split at hc
 ·rename_i c n z e ho; rw [ho]; simp only [h,cond_eq_ite]
  split at hc
  ·rename_i Ax; rw [if_pos (show Nat.blt a.off n=true from Nat.ble_eq_true_of_le Ax)]; exact hc
  ·cases hc
 ·rename_i f n e ho; rw [ho]; simp only [h,cond_eq_ite]
  split at hc
  ·rename_i Ax; rw [if_pos (show Nat.blt a.off n=true from Nat.ble_eq_true_of_le Ax)]; exact hc
  ·cases hc
 ·cases hc
theorem HQ {c:Tr Value} {z:Array Value}:∀ {vs:List Value} {k:Nat},(∀ j v,vs[j]?=some v→cellAt c z (k+j)=v)→BJ c z vs.length k=vs
 | [],_,_=>rfl
 | v::vs,k,h=>by
  simp only [List.length_cons,BJ]; have e:=h 0 v rfl; rw [Nat.add_zero] at e; rw [e,HQ fun j w hj=>?_]; have:=h (j+1) w (by simpa using hj); rw [show k+1+j=k+(j+1) by omega]; exact this
theorem M0 {f:Nat→Value}:∀ {vs:List Value} {k:Nat},(∀ j v,vs[j]?=some v→f (k+j)=v)→Dw f vs.length k=vs
 | [],_,_=>rfl
 | v::vs,k,h=>by
  simp only [List.length_cons,Dw]; have e:=h 0 v rfl; rw [Nat.add_zero] at e; rw [e,M0 fun j w hj=>?_]; have:=h (j+1) w (by simpa using hj); rw [show k+1+j=k+(j+1) by omega]; exact this
def Cells (W:CW) (b k:Nat) (vs:List Value):Prop:=∀ j v,vs[j]?=some v→W.cell b (k+j)=some v
theorem Cells.ext {W W':CW} {b k:Nat} {vs:List Value} (h:Cells W b k vs) (ht:At W) (hx:Kp W W'):Cells W' b k vs:=fun j v hj=>hx.cell ht (h j v hj)
theorem Aw.cells {W:CW} {b:Nat} {e:TypeId} {vs:List Value} (h:Aw W b e vs):Cells W b 0 vs:=fun j v hj=>by rw [Nat.zero_add]; exact h.cell hj
theorem Bd {t:TypeId} {m:Nat} (h:agg? P t=some true) (hs:DC P t=some m) {a:Addr} {W:CW} {vs:List Value} (hl:vs.length=m) (hm:0<m) (hc:Cells W a.block a.off vs):ld P t (.pointer (some a)) W=some (.agg vs.toArray):=by
 obtain ⟨l,UJ⟩:∃ l,l+1=m:=⟨m-1,by omega⟩
 have P7:∃ v,vs[l]?=some v:=⟨vs[l]'(by omega),List.getElem?_eq_getElem _⟩
 obtain ⟨v,hv⟩:=P7; have Hm:=hc l v hv; unfold CW.cell at Hm; unfold ld IC; simp only
 split at Hm
 ·rename_i c n z e ho
  split at Hm
  ·rename_i Ax; rw [ho]; simp only [h,hs,cond_eq_ite]; rw [if_pos (Nat.ble_eq_true_of_le (by omega)),←hl,HQ fun j w hj=>?_]; have:=hc j w hj; unfold CW.cell at this; rw [ho] at this; simp only at this
   split at this
   ·exact Option.some.inj this
   ·cases this
  ·cases Hm
 ·rename_i f n e ho
  split at Hm
  ·rename_i Ax; rw [ho]; simp only [h,hs,cond_eq_ite]; rw [if_pos (Nat.ble_eq_true_of_le (by omega)),←hl,M0 fun j w hj=>?_]; have:=hc j w hj; unfold CW.cell at this; rw [ho] at this; simp only at this
   split at this
   ·exact Option.some.inj this
   ·cases this
  ·cases Hm
 ·cases Hm
theorem A3 {α:Type} {x:Option α} {v:α} {K:α→Prop} (h:x=some v) (hk:K v):wV x K:=by rw [h]; exact hk
theorem GC {x:Option (Value × CW)} {v:Value} {W:CW} {K:Value→CW→Prop} (h:x=some (v,W)) (hk:K v W):CD x K:=by rw [h]; exact hk
theorem Hu {t:TypeId} {n:Nat} {z:Value} (hz:GP P t=some z) (hs:DC P t=some n) {W:CW} {K:Value→CW→Prop} (ht:At W)
  (hk:∀ W1,Kp W W1→At W1→W1.sz=W.sz+1→Aw W1 W.sz t z.cells.toList→K (.pointer (some ⟨W.sz,0,none⟩)) W1):CD (GX P t W) K:=by
 refine GC (by unfold GX; rw [hz,hs]) (hk _ (.new _) (ht.new _) rfl ⟨.nil,_,_,by rw [BF,if_pos rfl],by simp,fun k v hv=>?_⟩); have Ax:=(List.getElem?_eq_some_iff.1 hv).1; simp only [Array.length_toList] at Ax; unfold cellAt; simp only [Tr.get_nil]; rw [Nat.mod_eq_of_lt Ax]; rw [Array.getElem?_toList] at hv; simp only [Array.getD_eq_getD_getElem?,hv,Option.getD_some]
theorem FM {t:TypeId} {n:Nat} (hs:DC P t=some n) {v:Value} {W:CW} {K:Value→CW→Prop} (ht:At W)
  (hk:∀ W1,Kp W W1→At W1→W1.sz=W.sz+1→Aw W1 W.sz t v.cells.toList→K (.pointer (some ⟨W.sz,0,none⟩)) W1):CD (QU P t v W) K:=by
 refine GC (by unfold QU; rw [hs]; rfl) (hk _ (.new _) (ht.new _) rfl ⟨_,_,_,by rw [BF,if_pos rfl],by simp,fun k w hv=>?_⟩); have Ax:=(List.getElem?_eq_some_iff.1 hv).1; rw [CV _ _ _ Ax,List.getD_eq_getElem?_getD,hv]; rfl
def putAt (vs:List Value) (k:Nat) (ws:List Value):List Value:=vs.take k++ws++vs.drop (k+ws.length)
theorem Wx {vs ws:List Value} {k:Nat} (h:k+ws.length≤vs.length):(putAt vs k ws).length=vs.length:=by
 simp only [putAt,List.length_append,List.length_take,List.length_drop]; omega
theorem JD {vs ws:List Value} {k:Nat} (h:k+ws.length≤vs.length) (j:Nat):(putAt vs k ws)[j]?=if k≤j∧j<k+ws.length then ws[j-k]? else vs[j]?:=by
 have h1:(vs.take k).length=k:=by rw [List.length_take]; omega
 simp only [putAt,List.append_assoc]
 by_cases h2:j<k
 ·rw [List.getElem?_append_left (by omega),if_neg (by omega),List.getElem?_take,if_pos h2]
 ·rw [List.getElem?_append_right (by omega),h1]
  by_cases h3:j<k+ws.length
  ·rw [List.getElem?_append_left (by omega),if_pos ⟨by omega,h3⟩]
  ·rw [List.getElem?_append_right (by omega),if_neg (by omega),List.getElem?_drop]; congr 1; omega
theorem Aw.put {W:CW} {b:Nat} {e:TypeId} {vs ws:List Value} {k:Nat} (h:Aw W b e vs) (hk:k+ws.length≤vs.length):∃ c n z,W.obj b=some (.cells c n z e)∧vs.length=n∧Aw (W.A4 b (.cells (c.AZ k ws) n z e)) b e (putAt vs k ws):=by
 obtain ⟨c,n,z,ho,hn,hv⟩:=h; refine ⟨c,n,z,ho,hn,_,_,_,by rw [FW,if_pos rfl],by rw [Wx hk,hn],fun j v hj=>?_⟩; rw [JD hk] at hj; unfold cellAt; rw [Tr.IG]
 split at hj
 ·rename_i h1; rw [if_pos h1,hj]
 ·rename_i h1; rw [if_neg h1]; exact hv j v hj
theorem Ak {t:TypeId} (hs:DC P t=some 1) {a:Addr} {v:Value} (h1:BB v=true) {W:CW} {e:TypeId} {vs:List Value} (hb:Aw W a.block e vs) (ha:a.off<vs.length) {K:CW→Prop}
  (hk:∀ W1,DM a.block W W1→Aw W1 a.block e (putAt vs a.off [v])→K W1):wV (CP P t (.pointer (some a)) v W) K:=by
 obtain ⟨c,n,z,ho,hn,qe⟩:=hb.put (k:=a.off) (ws:=[v]) (by simp only [List.length_singleton]; omega); refine A3 ?_ (hk _ (DM.of _ _ _) qe); have:CP P t (.pointer (some a)) v W=Ic P t a v W:=rfl; rw [this]; unfold Ic; rw [ho]; have Ax:Nat.blt a.off n=true:=Nat.ble_eq_true_of_le (by omega)
 cases v <;> first | (cases h1; done) | (simp only [hs,Ax,Nat.beq_refl,Bool.and_self,cond_true,Tr.AZ])
theorem Dk {t:TypeId} {m:Nat} (hs:DC P t=some m) {a:Addr} {ws:List Value} (h1:ws.all BB=true) (hm:ws.length=m) {W:CW} {e:TypeId} {vs:List Value} (hb:Aw W a.block e vs) (ha:a.off+m≤vs.length) {K:CW→Prop}
  (hk:∀ W1,DM a.block W W1→Aw W1 a.block e (putAt vs a.off ws)→K W1):wV (CP P t (.pointer (some a)) (.agg ws.toArray) W) K:=by
 obtain ⟨c,n,z,ho,hn,qe⟩:=hb.put (k:=a.off) (ws:=ws) (by omega); refine A3 ?_ (hk _ (DM.of _ _ _) qe); have:CP P t (.pointer (some a)) (.agg ws.toArray) W=Ic P t a (.agg ws.toArray) W:=rfl; rw [this]; unfold Ic; rw [ho]; have Ax:Nat.ble (a.off+m) n=true:=Nat.ble_eq_true_of_le (by omega); simp only [hs,Ax,hm,List.size_toArray,Nat.beq_refl,Bool.and_self,cond_true,h1]
end
end Go.Ce
namespace Go.Ce
theorem AA {α:Type} (v:α) (K:α→Prop):wV (some v) K=K v:=rfl
theorem lG (v:Value) (W:CW) (K:Value→CW→Prop):CD (some (v,W)) K=K v W:=rfl
theorem Bm (X Y:Prop):wI (.bool true) X Y=X:=rfl
theorem Ao (X Y:Prop):wI (.bool false) X Y=Y:=rfl
theorem Al (b:Bool):KO (.bool b)=some (.bool (!b)):=rfl
theorem Bs (Y:Env→List Deferred→CW→Prop) (K:AG) (e:Env) (ds:List Deferred) (W:CW):Aq Y K .normal e ds W=Y e ds W:=rfl
theorem KR (Y:Env→List Deferred→CW→Prop) (K:AG) (e:Env) (ds:List Deferred) (W:CW):Aq Y K .ret e ds W=K .ret e ds W:=rfl
theorem VD (Y:Env→List Deferred→CW→Prop) (K:AG) (i:Nat) (e:Env) (ds:List Deferred) (W:CW):Aq Y K (.exit i) e ds W=K (.exit i) e ds W:=rfl
theorem VE (Y:Env→List Deferred→CW→Prop) (K:AG) (ch:List PanicEntry) (e:Env) (ds:List Deferred) (W:CW):Aq Y K (.panic ch) e ds W=K (.panic ch) e ds W:=rfl
theorem qu (i:Nat) (K:AG) (e:Env) (ds:List Deferred) (W:CW):BU i K .normal e ds W=K .normal e ds W:=rfl
theorem RR (i:Nat) (K:AG) (e:Env) (ds:List Deferred) (W:CW):BU i K .ret e ds W=K .ret e ds W:=rfl
theorem jI (i:Nat) (K:AG) (ch:List PanicEntry) (e:Env) (ds:List Deferred) (W:CW):BU i K (.panic ch) e ds W=K (.panic ch) e ds W:=rfl
theorem Md (i j:Nat) (K:AG) (e:Env) (ds:List Deferred) (W:CW):BU i K (.exit j) e ds W=if j=i then K .normal e ds W else K (.exit j) e ds W:=by
 simp only [BU,cond_eq_ite,Nat.beq_eq]
theorem xM (vs:List Value) (t:Nat):Env.args vs t=(vs[t]?).getD undef:=by
 unfold Env.args
 cases vs[t]? <;> rfl
def VF (I:Nat→Env→List Deferred→CW→Prop) (k:Nat) (K:AG):AG:=fun x e ds W=>match x with
 | .normal=>∃ k',k'<k∧I k' e ds W
 | x=>K x e ds W
theorem tKn (I:Nat→Env→List Deferred→CW→Prop) (k:Nat) (K:AG) (e:Env) (ds:List Deferred) (W:CW):VF I k K .normal e ds W=∃ k',k'<k∧I k' e ds W:=rfl
theorem tKr (I:Nat→Env→List Deferred→CW→Prop) (k:Nat) (K:AG) (e:Env) (ds:List Deferred) (W:CW):VF I k K .ret e ds W=K .ret e ds W:=rfl
theorem tKx (I:Nat→Env→List Deferred→CW→Prop) (k:Nat) (K:AG) (i:Nat) (e:Env) (ds:List Deferred) (W:CW):VF I k K (.exit i) e ds W=K (.exit i) e ds W:=rfl
theorem tKp (I:Nat→Env→List Deferred→CW→Prop) (k:Nat) (K:AG) (ch:List PanicEntry) (e:Env) (ds:List Deferred) (W:CW):VF I k K (.panic ch) e ds W=K (.panic ch) e ds W:=rfl
theorem lH {P:Program} {L:List FuncId} {ro:Option Nat} {fn:FuncId} {nt:Nat} {b:Code} {K:AG} (I:Nat→Env→List Deferred→CW→Prop) (k:Nat) {e:Env} {ds:List Deferred} {W:CW} (h0:I k e ds W)
  (KF:∀ k e ds W,I k e ds W→AP P L ro fn nt b e ds W (VF I k K)):C1 P L ro fn nt (.loop b) e ds W K :=
 yj I (fun k e ds W hi=>KF k e ds W hi) k e ds W h0
def Me (v:Value) (W:CW):Ending→CW→Prop:=fun e W'=>e=.returned v∧W'=W
theorem EP {P:Program} {L:List FuncId} {f:FuncId} {args:List Value} {W:CW} {K:Value→CW→Prop} {KP:List PanicEntry→CW→Prop} {v:Value} (h:AH P L f args W (Me v W)) (hk:K v W):AH P L f args W (AV K KP) :=
 h.mono fun e W' ⟨he,hw⟩=>by subst he; subst hw; exact hk
theorem Ll {P:Program} {L:List FuncId} {f:FuncId} {first cap:Array Value} {args:List Value} {W:CW} {K:Value→CW→Prop} {KP:List PanicEntry→CW→Prop} {fn:Func} (hf:P.funcs[f]?=some fn) (hb:fn.body.isNone=false)
  (h:AH P L f (first.toList++args++cap.toList) W (AV K KP)):Dj P L (.func (.func f) first cap) args W K KP:=by
 unfold Dj G_; simp only; have:IF P f (first.toList++args++cap.toList) W=none:=by unfold IF; rw [hf]; simp only [hb,cond_false]
 rw [this]; exact h
def Ay {α:Type} (n:Nat) (R:Nat→Nat→α→Prop) (v:Value) (l:List α):Prop:=∃ a cap,v=.slice a l.length cap∧∀ i x,l[i]?=some x→∃ p,a=some p∧R p.block (p.off+i*n) x
section
variable {P:Program} {t:TypeId} {k:Bool}
theorem Bf (kk:IntKind) (a b:Int):AQ P .eql t k (.int kk a) (.int kk b)=some (.bool (a == b)):=by simp [AQ,OS]
theorem B_ (kk:IntKind) (a b:Int):AQ P .neq t k (.int kk a) (.int kk b)=some (.bool (a != b)):=by simp [AQ,OS]
theorem A6 (kk:IntKind) (a b:Int):AQ P .lss t k (.int kk a) (.int kk b)=some (.bool (decide (a<b))):=by simp [AQ,OS]
theorem Hv (kk:IntKind) (a b:Int):AQ P .leq t k (.int kk a) (.int kk b)=some (.bool (decide (a≤b))):=by simp [AQ,OS]
theorem Bg (kk:IntKind) (a b:Int):AQ P .gtr t k (.int kk a) (.int kk b)=some (.bool (decide (a>b))):=by simp [AQ,OS]
theorem Gv (kk:IntKind) (a b:Int):AQ P .geq t k (.int kk a) (.int kk b)=some (.bool (decide (a≥b))):=by simp [AQ,OS]
theorem Ap (kk:IntKind) (a b:Int):AQ P .add t k (.int kk a) (.int kk b)=some (.int kk (kk.wrap (a+b))):=by simp [AQ,OS]
theorem GD (kk:IntKind) (a b:Int):AQ P .sub t k (.int kk a) (.int kk b)=some (.int kk (kk.wrap (a-b))):=by simp [AQ,OS]
theorem Yo (kk:IntKind) (a b:Int) (h:b≠0):AQ P .quo t k (.int kk a) (.int kk b)=some (.int kk (kk.wrap (a.tdiv b))):=by simp [AQ,OS,beq_false_of_ne h]
theorem Yp (kk:IntKind) (a b:Int) (h:b≠0):AQ P .rem t k (.int kk a) (.int kk b)=some (.int kk (a.tmod b)):=by simp [AQ,OS,beq_false_of_ne h]
theorem VG (a b:ByteArray):AQ P .eql t k (.string a) (.string b)=some (.bool (UG (sb a) (sb b))):=rfl
theorem Oq (a b:ByteArray):AQ P .neq t k (.string a) (.string b)=some (.bool (!UG (sb a) (sb b))):=rfl
theorem VH (a b:ByteArray):AQ P .geq t k (.string a) (.string b)=some (.bool (!Q5 (sb a) (sb b))):=rfl
theorem Yq:∀ l:List UInt8,UG l l=true
 | []=>rfl
 | a::l=>by simp only [UG,Nat.beq_refl,Yq l,Bool.and_self]
theorem ox {a b:ByteArray}:UG (sb a) (sb b)=true↔a=b:=⟨Ks,fun h=>by rw [h]; exact Yq _⟩
theorem Lm (a b:ByteArray):UG (sb a) (sb b)=decide (a=b):=by
 cases h:UG (sb a) (sb b) with
 | true=>exact (decide_eq_true (Ks h)).symm
 | false=>exact (decide_eq_false fun e=>by rw [ox.2 e] at h; cases h).symm
theorem Ac {el:TypeId} (u:P.underlying t=some (.slice el)) (a:Option Addr) (n c:Nat) (W:CW):AY P t (.slice a n c) W=some (.int .i64 n):=by unfold AY; rw [u]
theorem LF (u:P.underlying t=some .string) (s:ByteArray) (W:CW):AY P t (.string s) W=some (.int .i64 s.size):=by unfold AY; rw [u]
theorem BH {el:TypeId} {n:Nat} (u:P.underlying t=some (.slice el)) (hs:DC P el=some n) {a:Addr} {len cap:Nat} {kk:IntKind} {i:Nat} (hi:i<len):Dz P t (.slice (some a) len cap) (.int kk i)=some (.pointer (some ⟨a.block,a.off+i*n,none⟩)):=by
 unfold Dz; simp only [u,CH,hs]; simp only [cond_eq_ite]; rw [if_pos (by simp only [Bool.and_eq_true,decide_eq_true_eq]; omega)]; simp
theorem wrap64 {x:Int} (h1:-9223372036854775808≤x) (h2:x≤9223372036854775807):IntKind.i64.wrap x=x:=by
 unfold IntKind.wrap; simp [IntKind.bits,IntKind.signed]; omega
end
theorem xN {α:Type} (a:α) (l:List α):(a::l)[0]?=some a:=rfl
theorem zM {α:Type} (a:α) (l:List α) (i:Nat):(a::l)[i+1]?=l[i]?:=rfl
theorem oy {α:Type} (a b:α):(some a).getD b=a:=rfl
end Go.Ce
namespace Go.Ce
open Go Go.Proofs Go.Proofs.Tryz
structure Sx where
 name:ByteArray
 kind:Int
structure Af where
 name:ByteArray
 Bk:ByteArray
 fields:List Sx
 elem:Int
structure CE where
 type:ByteArray
 to:ByteArray
 map:List Int
structure BR where
 type:ByteArray
 AJ:List Int
def EW (W:CW) (b o:Nat) (x:Int):Prop:=W.cell b o=some (.int .i64 x)∧-9223372036854775808≤x∧x≤9223372036854775807
structure Ot (W:CW) (b o:Nat) (x:Sx):Prop where
 name:W.cell b o=some (.string x.name)
 kind:W.cell b (o+1)=some (.int .u8 x.kind)
 lo:0≤x.kind
 hi:x.kind<256
structure MF (W:CW) (b o:Nat) (x:Af):Prop where
 name:W.cell b o=some (.string x.name)
 Bk:W.cell b (o+1)=some (.string x.Bk)
 fields:∃ v,W.cell b (o+2)=some v∧Ay 2 (Ot W) v x.fields
 elem:W.cell b (o+3)=some (.int .u8 x.elem)
 binds:∃ a l k,W.cell b (o+4)=some (.slice a l k)
 lo:0≤x.elem
 hi:x.elem<256
def MG (W:CW) (el:TypeId) (v:Value):Prop:=∀ a l c,v=.slice a l c→Mk W a el=true∧l≤c
theorem MG.of {W W':CW} {el:TypeId} {v:Value} (h:MG W el v) (ho:∀ b o,W.obj b=some o→(∃ c n z e,o=.cells c n z e)∨(∃ f n e,o=.fixed f n e)→W'.obj b=some o):MG W' el v:=by
 intro a l c hv; obtain ⟨h1,h2⟩:=h a l c hv; refine ⟨?_,h2⟩
 cases a with
 | none=>rfl
 | some a =>
  unfold Mk at h1 ⊢; simp only [Bool.or_eq_true] at h1 ⊢
  rcases h1 with h1 | h1
  ·exact .inl h1
  ·right
   cases hb:W.obj a.block with
   | none=>rw [hb] at h1; cases h1
   | some o =>
    rw [hb] at h1
    cases o with
    | cells c n z e=>rw [ho _ _ hb (.inl ⟨_,_,_,_,rfl⟩)]; exact h1
    | fixed f n e=>rw [ho _ _ hb (.inr ⟨_,_,_,rfl⟩)]; exact h1
    | _=>cases h1
theorem MG.kp {W W':CW} {el:TypeId} {v:Value} (h:MG W el v) (ht:At W) (k:Kp W W'):MG W' el v:=h.of fun b o hb _=>by rw [k.obj b (ht _ _ hb)]; exact hb
structure Ou (W:CW) (b o:Nat) (x:CE):Prop where
 type:W.cell b o=some (.string x.type)
 to:W.cell b (o+1)=some (.string x.to)
 map:∃ v,W.cell b (o+2)=some v∧Ay 1 (EW W) v x.map∧MG W 3 v
structure Fk (W:CW) (b o:Nat) (x:BR):Prop where
 type:W.cell b o=some (.string x.type)
 AJ:∃ v,W.cell b (o+1)=some v∧Ay 1 (EW W) v x.AJ
theorem u9:prog.underlying 9=some .string:=by kernel_rfl
theorem iv:prog.underlying 22=some (.slice 48):=by kernel_rfl
theorem jQ:prog.underlying 23=some (.slice 58):=by kernel_rfl
theorem L4:prog.underlying 24=some (.slice 56):=by kernel_rfl
theorem PR:prog.underlying 29=some (.slice 5):=by kernel_rfl
theorem Iw:prog.underlying 40=some (.slice 3):=by kernel_rfl
theorem qw:prog.underlying 45=some (.slice 72):=by kernel_rfl
theorem xO:prog.underlying 51=some (.slice 9):=by kernel_rfl
theorem s3:DC prog 3=some 1:=by kernel_rfl
theorem s5:DC prog 5=some 1:=by kernel_rfl
theorem s9:DC prog 9=some 1:=by kernel_rfl
theorem eS:DC prog 48=some 5:=by kernel_rfl
theorem Io:DC prog 56=some 2:=by kernel_rfl
theorem gR:DC prog 58=some 3:=by kernel_rfl
theorem s72:DC prog 72=some 2:=by kernel_rfl
theorem a3:agg? prog 3=some false:=by kernel_rfl
theorem a5:agg? prog 5=some false:=by kernel_rfl
theorem a9:agg? prog 9=some false:=by kernel_rfl
theorem a29:agg? prog 29=some false:=by kernel_rfl
theorem ND:agg? prog 40=some false:=by kernel_rfl
theorem a45:agg? prog 45=some false:=by kernel_rfl
theorem a48:agg? prog 48=some true:=by kernel_rfl
theorem Yr:agg? prog 56=some true:=by kernel_rfl
theorem a58:agg? prog 58=some true:=by kernel_rfl
theorem a72:agg? prog 72=some true:=by kernel_rfl
theorem Nr (a:Addr):A_ prog 48 (.pointer (some a)) 0=some (.pointer (some ⟨a.block,a.off,none⟩)):=by kernel_rfl
theorem Wy (a:Addr):A_ prog 48 (.pointer (some a)) 1=some (.pointer (some ⟨a.block,a.off+1,none⟩)):=by kernel_rfl
theorem Ns (a:Addr):A_ prog 48 (.pointer (some a)) 2=some (.pointer (some ⟨a.block,a.off+2,none⟩)):=by kernel_rfl
theorem Wz (a:Addr):A_ prog 48 (.pointer (some a)) 3=some (.pointer (some ⟨a.block,a.off+3,none⟩)):=by kernel_rfl
theorem W_ (a:Addr):A_ prog 72 (.pointer (some a)) 0=some (.pointer (some ⟨a.block,a.off,none⟩)):=by kernel_rfl
theorem eT (a:Addr):A_ prog 72 (.pointer (some a)) 1=some (.pointer (some ⟨a.block,a.off+1,none⟩)):=by kernel_rfl
theorem GF (a:Addr):A_ prog 56 (.pointer (some a)) 0=some (.pointer (some ⟨a.block,a.off,none⟩)):=by kernel_rfl
theorem Dg (a:Addr):A_ prog 56 (.pointer (some a)) 1=some (.pointer (some ⟨a.block,a.off+1,none⟩)):=by kernel_rfl
theorem Ln (a:Addr):A_ prog 58 (.pointer (some a)) 0=some (.pointer (some ⟨a.block,a.off,none⟩)):=by kernel_rfl
theorem Lo (a:Addr):A_ prog 58 (.pointer (some a)) 1=some (.pointer (some ⟨a.block,a.off+1,none⟩)):=by kernel_rfl
theorem Nt (a:Addr):A_ prog 58 (.pointer (some a)) 2=some (.pointer (some ⟨a.block,a.off+2,none⟩)):=by kernel_rfl
end Go.Ce
namespace Go.Ce
open Go Go.Proofs Go.Proofs.Tryz
theorem Ys (n a b:Int) (W:CW):AH prog AT 103 [.int .i64 n,.int .i64 a,.int .i64 b] W (Me (.bool (decide (a≤n) && decide (n≤b))) W):=by
 refine tc ?_; rw [tZ]; simp only [Gv,Hv,AA]; refine AL (fun h=>?_) (fun h=>?_) <;> simp only [Wt,Bs,bn,Aa] <;> refine ⟨?_,rfl⟩ <;> simp at h <;> simp [h]
 omega
theorem VI (n:Int) (W:CW):AH prog AT 100 [.int .u8 n] W (Me (.bool (n == 1 || n == 2)) W):=by
 refine te ?_; rw [td]; simp only [Bf,AA]; refine AL (fun h=>?_) (fun h=>?_) <;> simp only [Wu,Bs,bo,Aa] <;> refine ⟨?_,rfl⟩ <;> simp [h]
theorem XA (n:Int) (W:CW):AH prog AT 124 [.int .u8 n] W (Me (.bool (decide (n<33) || decide (n>126))) W):=by
 refine tu ?_; rw [tr]; simp only [A6,Bg,AA]; refine AL (fun h=>?_) (fun h=>?_) <;> simp only [Ww,Bs,bt,Aa] <;> refine ⟨?_,rfl⟩ <;> simp [h]
end Go.Ce
namespace Go.Ce
def gS (T:Tr Value) (t:Nat):Value:=match T.get t with | some v=>v | none=>undef
theorem XB (a:AI) (t:Nat):a.at t=gS a.t t:=by
 unfold AI.at gS
 cases a.t.get t <;> rfl
def DK (W:CW) (l:Nat) (st:LoopState) (DE:Option Code) (fn:FuncId) (e:Env) (nt:Nat) (ps:Array Tmp) (A B:Code) (d:Nat):Prop :=
 ∃ T:Tr Value,W.obj l=some (.loop st DE fn T nt ps A B d)∧∀ t,gS T t=e t
theorem DK.congr {W W':CW} {l:Nat} {st:LoopState} {DE:Option Code} {fn:FuncId} {e:Env} {nt:Nat} {ps:Array Tmp} {A B:Code} {d:Nat} (h:DK W l st DE fn e nt ps A B d) (ho:W'.obj l=W.obj l):DK W' l st DE fn e nt ps A B d:=by
 obtain ⟨T,h1,h2⟩:=h; exact ⟨T,ho.trans h1,h2⟩
def Env.G8 (e:Env):List (Tmp × Value)→Env
 | []=>e
 | p::ps=>Env.G8 (fun t=>if t=p.1 then p.2 else e t) ps
theorem eU:∀ (ps:List (Tmp × Value)) (T:Tr Value) (e:Env),(∀ t,gS T t=e t) →
  ∀ t,gS (ps.foldl (fun t (p:Tmp × Value)=>t.set p.1 p.2) T) t=e.G8 ps t
 | [],T,e,h=>h
 | p::ps,T,e,h=>by
  intro t; refine eU ps (T.set p.1 p.2) _ (fun t=>?_) t; unfold gS; rw [Tr.BV]
  by_cases ht:t=p.1
  ·rw [if_pos ht,if_pos ht]
  ·rw [if_neg ht,if_neg ht]; exact h t
def ABv (l:Nat) (Q:Ending→CW→Prop):AG:=fun x _ ds W=>∃ st DE fn e nt ps A B d,DK W l st DE fn e nt ps A B d∧match x with
 | .normal=>∀ W',DM l W W'→DK W' l .ready none fn e nt ps A B d→Q (.returned (.bool true)) W'
 | .ret=>∀ W',DM l W W'→DK W' l .done (some .ret) fn e nt ps A B d→Q (.returned (.bool false)) W'
 | .exit id=>∀ W',DM l W W'→DK W' l .done (some (.exit id)) fn e nt ps A B d→Q (.returned (.bool false)) W'
 | .panic ch=>ds=[]∧Q (.panicked ch) W
 | _=>False
section
variable {P:Program} {L:List FuncId}
theorem eV {l:Nat} {args:List Value} {W:CW} {Q:Ending→CW→Prop} {DE:Option Code} {fn:FuncId} {e:Env} {nt:Nat} {ps:Array Tmp} {A B:Code} {d:Nat} (hl:DK W l .ready DE fn e nt ps A B d) (hn:args.length=ps.size)
  (h:AP P L (some l) fn nt A (e.G8 (ps.toList.zip args)) [] W fun x e1 ds W1=>x=.normal∧∃ Yt e2 xF su A1 B1 d1,DK W1 l .ready Yt fn e2 xF su A1 B1 d1∧∀ W2,DM l W1 W2→DK W2 l .busy Yt fn e2 xF su A1 B1 d1→AP P L (some l) fn nt B e1 ds W2 (ABv l Q)):Ho P L l args W Q:=by
 obtain ⟨T,ho,hT⟩:=hl
 let a0:AI:=⟨(ps.toList.zip args).foldl (fun t (p:Tmp × Value)=>t.set p.1 p.2) T,nt,[]⟩
 have hae:AE a0 (e.G8 (ps.toList.zip args)) []:=⟨fun t=>by rw [XB]; exact eU _ T e hT t,rfl⟩
 obtain ⟨n,⟨x1,a1,W1⟩,h1,e1,h2,h3,h4⟩:=Ek h a0 hae rfl; simp only at h2 h3 h4; obtain ⟨rfl,Yt,e2,xF,su,A1,B1,d1,YT,h4⟩:=h4; obtain ⟨T1,t_,hT1⟩:=YT; obtain ⟨m,⟨x2,a2,W2⟩,h5,e3,h6,h7,h8⟩:=Ek (h4 _ (DM.of W1 l (.loop .busy Yt fn T1 xF su A1 B1 d1)) ⟨T1,by rw [FW,if_pos rfl],hT1⟩) a1 h2 h3; simp only at h8; obtain ⟨st,ADl,fn2,e4,nt2,ps2,A2,B2,d2,L8,h8⟩:=h8; obtain ⟨T2,Z9,hT2⟩:=L8; have up1:(CM P L (max n m)).code (some l) fn A a0 W=some [(.normal,a1,W1)]:=FU (Nat.le_max_left n m) h1; have up2:(CM P L (max n m)).code (some l) fn B a1 (W1.A4 l (.loop .busy Yt fn T1 xF su A1 B1 d1))=some [(x2,a2,W2)]:=FU (Nat.le_max_right n m) h5
 have key:∀ {o:Ending × CW},(match x2 with
   | .normal=>Rz l none W2
   | .ret=>Rz l (some .ret) W2
   | .exit id=>Rz l (some (.exit id)) W2
   | .panic ch=>cond a2.defers.isEmpty (some [(.panicked ch,W2)]) none
   | _=>none)=some [o]→(CM P L (max n m+1)).round l args W=some [o]:=by
  intro o hx; rw [GA]; simp only [Bx,ho]; have hq:Nat.beq args.length ps.size=true:=by rw [hn]; exact Nat.beq_refl _
  rw [hq]; simp only [cond_true]; rw [show (CM P L (max n m)).code (some l) fn A ⟨(ps.toList.zip args).foldl (fun t (p:Tmp × Value)=>t.set p.1 p.2) T,nt,[]⟩ W=some [(.normal,a1,W1)] from up1]; refine BK _ _ ?_; simp only [t_]; rw [up2]; refine BK _ _ ?_; rw [←hx]
  cases x2 <;> rfl
 cases x2 with
 | normal=>exact ⟨_,(.returned (.bool true),W2.A4 l (.loop .ready none fn2 T2 nt2 ps2 A2 B2 d2)),key (by simp only [Rz,Z9]; rfl),h8 _ (DM.of _ _ _) ⟨T2,by rw [FW,if_pos rfl],hT2⟩⟩
 | ret=>exact ⟨_,(.returned (.bool false),W2.A4 l (.loop .done (some .ret) fn2 T2 nt2 ps2 A2 B2 d2)),key (by simp only [Rz,Z9]; rfl),h8 _ (DM.of _ _ _) ⟨T2,by rw [FW,if_pos rfl],hT2⟩⟩
 | exit id=>exact ⟨_,(.returned (.bool false),W2.A4 l (.loop .done (some (.exit id)) fn2 T2 nt2 ps2 A2 B2 d2)),key (by simp only [Rz,Z9]; rfl),h8 _ (DM.of _ _ _) ⟨T2,by rw [FW,if_pos rfl],hT2⟩⟩
 | panic ch =>
  obtain ⟨hd,hq⟩:=h8; exact ⟨_,(.panicked ch,W2),key (by simp only [hd]; rfl),hq⟩
 | goto id=>exact h8.elim
 | outgrown=>exact h8.elim
def bu (l:Nat) (e:Env) (ds:List Deferred) (K:AG):Ending→CW→Prop:=fun en W=>(∃ v,en=.returned v)∧∃ st DE fn e0 nt ps A B d,DK W l st DE fn e0 nt ps A B d∧st≠.busy∧∀ W',DM l W W'→match DE with
 | none=>K .normal e ds W'
 | some .ret=>K .ret e ds W'
 | some (.exit id)=>K (.exit id) e ds W'
 | _=>False
def mark (r:Nat):Deferred:={ target:=.collected r,args:=#[] }
def RT (DE:Option Code) (a:AI) (W:CW):Jb:=match DE with
 | none=>some [(.normal,a,W)]
 | some .ret=>some [(.ret,a,W)]
 | some (.exit id)=>some [(.exit id,a,W)]
 | _=>none
theorem bz {ro:Option Nat} {fn:FuncId} {nt:Nat} {f:Operand} {ps:Array Tmp} {A B:Code} {e:Env} {ds:List Deferred} {W W1:CW} {K:AG} {dl:Nat} {mk:List Deferred} {g:FuncId} {args:List Value} (har:Ry ro W=some (dl,mk,W1))
  (hf:G_ (e.ev f) [.func (.yield W1.sz) #[] #[]]=some (.enter g args))
  (h:∀ W2,DM W1.sz (W1.new .deferred) W2→DK W2 W1.sz .ready none fn e nt ps A B dl→AH P L g args W2 (bu W1.sz e (mk++ds) K)):C1 P L ro fn nt (.rangeFunc f ps A B) e ds W K:=by
 intro a ha hn; have h0:W1.new (.loop .ready none fn a.t a.nt ps A B dl)=(W1.new .deferred).A4 W1.sz (.loop .ready none fn a.t a.nt ps A B dl)∨True:=.inr trivial; have hu:DM W1.sz (W1.new .deferred) (W1.new (.loop .ready none fn a.t a.nt ps A B dl)):=⟨rfl,fun i hi=>by rw [BF,BF,if_neg hi,if_neg hi]⟩
 have hl:DK (W1.new (.loop .ready none fn a.t a.nt ps A B dl)) W1.sz .ready none fn e nt ps A B dl:=⟨a.t,by rw [BF,if_pos rfl,hn],fun t=>(XB a t).symm.trans (ha.1 t)⟩
 obtain ⟨n,⟨en,W3⟩,h1,⟨v,hv⟩,st,DE,RD,e0,Yu,Yv,A',B',d',⟨T,ho,hT⟩,Es,hk⟩:=h _ hu hl; simp only at hv; subst hv; have ADu:AE ({ a with defers:=mk++a.defers }:AI) e (mk++ds):=⟨ha.1,by rw [ha.2]⟩
 have key:∀ {o:Exit × AI × CW},RT DE { a with defers:=mk++a.defers } (W3.A4 W1.sz (.loop .exhausted DE RD T Yu Yv A' B' d'))=some [o]→(CM P L (n+1)).code ro fn (.rangeFunc f ps A B) a W=some [o]:=by
  intro o hx; rw [GA]; show BY P (CM P L n) ro fn (.rangeFunc f ps A B) a W=some [o]; unfold BY; simp only [har,ha.eval,hf]; rw [h1]; refine BK _ _ ?_; simp only [ho]; rw [←hx]
  cases st <;> first | exact (Es rfl).elim | (cases DE with | none=>rfl | some c=>cases c <;> rfl)
 have hk:=hk _ (DM.of W3 W1.sz (.loop .exhausted DE RD T Yu Yv A' B' d'))
 have fin:∀ x:Exit,RT DE { a with defers:=mk++a.defers } (W3.A4 W1.sz (.loop .exhausted DE RD T Yu Yv A' B' d'))=some [(x,({ a with defers:=mk++a.defers }:AI),W3.A4 W1.sz (.loop .exhausted DE RD T Yu Yv A' B' d'))]→K x e (mk++ds) (W3.A4 W1.sz (.loop .exhausted DE RD T Yu Yv A' B' d'))→kR P L ro fn (.rangeFunc f ps A B) a W fun x a' W'=>∃ e',AE a' e' a'.defers∧a'.nt=nt∧K x e' a'.defers W':=by
  intro x hx hK
  refine ⟨n+1,_,key hx,e,?_,hn,?_⟩
  ·exact ⟨ha.1,rfl⟩
  ·show K x e (mk++a.defers) _; rw [ha.2]; exact hK
 cases DE with
 | none=>exact fin .normal rfl hk
 | some c =>
  cases c <;> first | exact hk.elim | exact fin _ rfl hk
def eW (l:Nat) (e:Env) (ds:List Deferred) (K:AG):Ending→CW→Prop
 | .panicked ch,W=>K (.panic ch) e ds W
 | en,W=>bu l e ds K en W
theorem Yw {ro:Option Nat} {fn:FuncId} {nt:Nat} {f:Operand} {ps:Array Tmp} {A B:Code} {e:Env} {ds:List Deferred} {W W1:CW} {K:AG} {dl:Nat} {mk:List Deferred} {g:FuncId} {args:List Value} (har:Ry ro W=some (dl,mk,W1))
  (hf:G_ (e.ev f) [.func (.yield W1.sz) #[] #[]]=some (.enter g args))
  (h:∀ W2,DM W1.sz (W1.new .deferred) W2→DK W2 W1.sz .ready none fn e nt ps A B dl→AH P L g args W2 (eW W1.sz e (mk++ds) K)):C1 P L ro fn nt (.rangeFunc f ps A B) e ds W K:=by
 ·intro a ha hn; have hu:DM W1.sz (W1.new .deferred) (W1.new (.loop .ready none fn a.t a.nt ps A B dl)):=⟨rfl,fun i hi=>by rw [BF,BF,if_neg hi,if_neg hi]⟩
  have hl:DK (W1.new (.loop .ready none fn a.t a.nt ps A B dl)) W1.sz .ready none fn e nt ps A B dl:=⟨a.t,by rw [BF,if_pos rfl,hn],fun t=>(XB a t).symm.trans (ha.1 t)⟩
  obtain ⟨n,⟨en,W3⟩,h1,lI⟩:=h _ hu hl
  cases en with
  | panicked ch =>
   refine ⟨n+1,(.panic ch,{ a with defers:=mk++a.defers },W3),?_,e,⟨ha.1,rfl⟩,hn,?_⟩
   ·rw [GA]; show BY P (CM P L n) ro fn (.rangeFunc f ps A B) a W=_; unfold BY; simp only [har,ha.eval,hf]; rw [h1]; exact BK _ _ rfl
   ·show K (.panic ch) e (mk++a.defers) W3; rw [ha.2]; exact lI
  | returned v =>
   obtain ⟨_,st,DE,RD,e0,Yu,Yv,A',B',d',⟨T,ho,hT⟩,Es,hk⟩:=lI; have hk:=hk _ (DM.of W3 W1.sz (.loop .exhausted DE RD T Yu Yv A' B' d'))
   have key:∀ {o:Exit × AI × CW},RT DE { a with defers:=mk++a.defers } (W3.A4 W1.sz (.loop .exhausted DE RD T Yu Yv A' B' d'))=some [o]→(CM P L (n+1)).code ro fn (.rangeFunc f ps A B) a W=some [o]:=by
    intro o hx; rw [GA]; show BY P (CM P L n) ro fn (.rangeFunc f ps A B) a W=some [o]; unfold BY; simp only [har,ha.eval,hf]; rw [h1]; refine BK _ _ ?_; simp only [ho]; rw [←hx]
    cases st <;> first | exact (Es rfl).elim | (cases DE with | none=>rfl | some c=>cases c <;> rfl)
   have fin:∀ x:Exit,RT DE { a with defers:=mk++a.defers } (W3.A4 W1.sz (.loop .exhausted DE RD T Yu Yv A' B' d'))=some [(x,({ a with defers:=mk++a.defers }:AI),W3.A4 W1.sz (.loop .exhausted DE RD T Yu Yv A' B' d'))]→K x e (mk++ds) (W3.A4 W1.sz (.loop .exhausted DE RD T Yu Yv A' B' d'))→kR P L ro fn (.rangeFunc f ps A B) a W fun x a' W'=>∃ e',AE a' e' a'.defers∧a'.nt=nt∧K x e' a'.defers W':=by
    intro x hx hK; refine ⟨n+1,_,key hx,e,⟨ha.1,rfl⟩,hn,?_⟩; show K x e (mk++a.defers) _; rw [ha.2]; exact hK
   cases DE with
   | none=>exact fin .normal rfl hk
   | some c=>cases c <;> first | exact hk.elim | exact fin _ rfl hk
  | outgrown=>obtain ⟨⟨v,hv⟩,_⟩:=lI; cases hv
theorem lJ {fn:FuncId} {nt:Nat} {f:Operand} {ps:Array Tmp} {A B:Code} {e:Env} {ds:List Deferred} {W:CW} {K:AG} {g:FuncId} {args:List Value} (ht:At W)
  (hf:G_ (e.ev f) [.func (.yield (W.sz+1)) #[] #[]]=some (.enter g args))
  (h:∀ W2,Kp W W2→At W2→W2.sz=W.sz+2→W2.obj W.sz=some .deferred→DK W2 (W.sz+1) .ready none fn e nt ps A B W.sz→AH P L g args W2 (eW (W.sz+1) e (mark W.sz::ds) K)):C1 P L none fn nt (.rangeFunc f ps A B) e ds W K:=by
 refine Yw (dl:=W.sz) (mk:=[mark W.sz]) (W1:=W.new .deferred) rfl hf fun W2 hu hl=>?_; have k1:Kp W (W.new .deferred):=.new _; have k2:Kp W ((W.new .deferred).new .deferred):=k1.trans (.new _); have t2:At ((W.new .deferred).new .deferred):=(ht.new _).new _; refine h W2 (k2.A4 (by rw [Fj]; omega) hu) (t2.A4 (by simp only [Fj]; omega) hu) (by rw [hu.sz]; rfl) ?_ hl; rw [hu.obj _ (by rw [Fj]; omega),BF,if_neg (by rw [Fj]; omega),BF,if_pos rfl]
theorem oz {fn:FuncId} {nt:Nat} {f:Operand} {ps:Array Tmp} {A B:Code} {e:Env} {ds:List Deferred} {W:CW} {K:AG} {g:FuncId} {args:List Value} (ht:At W)
  (hf:G_ (e.ev f) [.func (.yield (W.sz+1)) #[] #[]]=some (.enter g args))
  (h:∀ W2,Kp W W2→At W2→W2.sz=W.sz+2→W2.obj W.sz=some .deferred→DK W2 (W.sz+1) .ready none fn e nt ps A B W.sz→AH P L g args W2 (bu (W.sz+1) e (mark W.sz::ds) K)):C1 P L none fn nt (.rangeFunc f ps A B) e ds W K:=by
 refine bz (dl:=W.sz) (mk:=[mark W.sz]) (W1:=W.new .deferred) rfl hf fun W2 hu hl=>?_; have k1:Kp W (W.new .deferred):=.new _; have k2:Kp W ((W.new .deferred).new .deferred):=k1.trans (.new _); have t2:At ((W.new .deferred).new .deferred):=(ht.new _).new _; refine h W2 (k2.A4 (by rw [Fj]; omega) hu) (t2.A4 (by simp only [Fj]; omega) hu) (by rw [hu.sz]; rfl) ?_ hl; rw [hu.obj _ (by rw [Fj]; omega),BF,if_neg (by rw [Fj]; omega),BF,if_pos rfl]
end
end Go.Ce
namespace Go.Ce
section
variable {κ:Type} [DecidableEq κ]
def look (m:List (κ × Value)) (s:κ) (i:Nat):Option (Nat × Value):=match m with
 | []=>none
 | p::m=>if s=p.1 then some (i,p.2) else look m s (i+1)
def Jx (m:List (κ × Value)) (s:κ):Option Value:=match m with
 | []=>none
 | p::m=>if s=p.1 then some p.2 else Jx m s
def XC (m:List (κ × Value)) (s:κ) (x:Value):List (κ × Value):=match m with
 | []=>[(s,x)]
 | p::m=>if s=p.1 then (s,x)::m else p::XC m s x
theorem HX:∀ (m:List (κ × Value)) (s:κ) (x:Value) (u:κ),Jx (XC m s x) u=if u=s then some x else Jx m u
 | [],s,x,u=>by simp [XC,Jx]
 | p::m,s,x,u=>by
  simp only [XC]
  by_cases h:s=p.1
  ·rw [if_pos h]; simp only [Jx]
   by_cases hu:u=s
   ·rw [if_pos hu,if_pos hu]
   ·rw [if_neg hu,if_neg hu,if_neg (by rw [←h]; exact hu)]
  ·rw [if_neg h]; simp only [Jx]
   by_cases hu:u=p.1
   ·rw [if_pos hu,if_pos hu,if_neg (fun e=>h (by rw [←e]; exact hu))]
   ·rw [if_neg hu,if_neg hu,HX m s x u]
theorem Yx:∀ (m:List (κ × Value)) (s:κ) (i:Nat),(look m s i).map (·.2)=Jx m s
 | [],s,i=>rfl
 | p::m,s,i=>by
  simp only [look,Jx]
  by_cases h:s=p.1
  ·rw [if_pos h,if_pos h]; rfl
  ·rw [if_neg h,if_neg h]; exact Yx m s (i+1)
def E6 (enc:κ→Value) (W:CW) (r:Nat) (m:List (κ × Value)):Prop:=∃ es Dq,W.obj r=some (.map es Dq)∧es.map (fun e=>(e.key,e.val))=m.map fun p=>(enc p.1,p.2)
theorem E6.congr {enc:κ→Value} {W W':CW} {r:Nat} {m:List (κ × Value)} (h:E6 enc W r m) (ho:W'.obj r=W.obj r):E6 enc W' r m:=by
 obtain ⟨es,Dq,h1,h2⟩:=h; exact ⟨es,Dq,ho.trans h1,h2⟩
theorem E6.lt {enc:κ→Value} {W:CW} (ht:At W) {r:Nat} {m:List (κ × Value)} (h:E6 enc W r m):r<W.sz:=by
 obtain ⟨es,Dq,h1,h2⟩:=h; exact ht _ _ h1
theorem E6.kp {enc:κ→Value} {W W':CW} {r:Nat} {m:List (κ × Value)} (h:E6 enc W r m) (ht:At W) (k:Kp W W'):E6 enc W' r m:=h.congr (k.obj r (h.lt ht))
variable {enc:κ→Value} {d:TypeDesc}
theorem Sy (hk:∀ a b,MK d (enc a) (enc b)=some (decide (a=b))) (s:κ):∀ (es:List MapEntry) (m:List (κ × Value)) (i:Nat),es.map (fun e=>(e.key,e.val))=m.map (fun p=>(enc p.1,p.2))→Iy d (enc s) es i=some (look m s i)
 | [],[],i,_=>rfl
 | e::es,p::m,i,h=>by
  simp only [List.map_cons,List.cons.injEq,Prod.mk.injEq] at h; obtain ⟨⟨h1,h2⟩,h3⟩:=h; simp only [Iy,look]; rw [h1,hk]
  by_cases hs:s=p.1
  ·rw [if_pos hs,decide_eq_true hs]; simp only [h2]
  ·rw [if_neg hs,decide_eq_false hs]; exact Sy hk s es m (i+1) h3
 | [],_::_,_,h=>by cases h
 | _::_,[],_,h=>by cases h
theorem eX (hk:∀ a b,MK d (enc a) (enc b)=some (decide (a=b))) (s:κ) (x:Value):∀ (es:List MapEntry) (m:List (κ × Value)) (i j:Nat) (y:Value),es.map (fun e=>(e.key,e.val))=m.map (fun p=>(enc p.1,p.2))→look m s i=some (j,y) →
  (ID x (enc s) (j-i) es).map (fun e=>(e.key,e.val))=(XC m s x).map (fun p=>(enc p.1,p.2))∧i≤j
 | [],[],i,j,y,_,hl=>by cases hl
 | e::es,p::m,i,j,y,h,hl=>by
  simp only [List.map_cons,List.cons.injEq,Prod.mk.injEq] at h; obtain ⟨⟨h1,h2⟩,h3⟩:=h; simp only [look] at hl; simp only [XC]
  by_cases hs:s=p.1
  ·rw [if_pos hs] at hl; rw [if_pos hs]
   cases hl
   refine ⟨?_,Nat.le_refl _⟩; rw [Nat.sub_self]; simp only [ID,List.map_cons,h3]
  ·rw [if_neg hs] at hl; rw [if_neg hs]; obtain ⟨h4,h5⟩:=eX hk s x es m (i+1) j y h3 hl; refine ⟨?_,by omega⟩; rw [show j-i=(j-(i+1))+1 by omega]; simp only [ID,List.map_cons,h4,h1,h2]
 | [],_::_,_,_,_,h,_=>by cases h
 | _::_,[],_,_,_,h,_=>by cases h
theorem Mf (s:κ) (x:Value):∀ (m:List (κ × Value)) (i:Nat),look m s i=none→XC m s x=m++[(s,x)]
 | [],i,_=>rfl
 | p::m,i,h=>by
  simp only [look] at h; simp only [XC]
  by_cases hs:s=p.1
  ·rw [if_pos hs] at h; cases h
  ·rw [if_neg hs] at h ⊢; rw [Mf s x m _ h]; rfl
variable {P:Program} {t kt el:TypeId} {z:Value}
theorem Jy (u:P.underlying t=some (.map kt el)) (uk:P.underlying kt=some d) (hd:HU d=true) (hz:GP P el=some z) (hk:∀ a b,MK d (enc a) (enc b)=some (decide (a=b))) {W:CW} {r:Nat} {m:List (κ × Value)} (h:E6 enc W r m) (s:κ) (ok:Bool) :
  HB P t (.map (some r)) (enc s) ok W=some (match Jx m s with
   | some x=>cond ok (.tuple #[x,.bool true]) x
   | none=>cond ok (.tuple #[z,.bool false]) z):=by
 obtain ⟨es,Dq,h1,h2⟩:=h; unfold HB ML; simp only [u,uk,hd,hz,h1,CH,cond_true]; rw [Sy hk s es m 0 h2]; simp only; have:=Yx m s 0
 cases hl:look m s 0 with
 | none=>rw [hl] at this; rw [←this]; rfl
 | some p=>rw [hl] at this; obtain ⟨i,x⟩:=p; rw [←this]; rfl
theorem Yy (u:P.underlying t=some (.map kt el)) (uk:P.underlying kt=some d) (hd:HU d=true) (hk:∀ a b,MK d (enc a) (enc b)=some (decide (a=b))) {W:CW} {r:Nat} {m:List (κ × Value)} (h:E6 enc W r m) {s:κ} {x:Value} {K:CW→Prop}
  (hK:∀ W1,DM r W W1→E6 enc W1 r (XC m s x)→K W1):wV (aC P t (.map (some r)) (enc s) x W) K:=by
 obtain ⟨es,Dq,h1,h2⟩:=h; have hf:=Sy hk s es m 0 h2
 cases hl:look m s 0 with
 | none =>
  rw [hl] at hf
  refine A3 (v:=W.A4 r (.map (es++[{ key:=enc s,val:=x,born:=Dq }]) (Dq+1))) ?_ (hK _ (DM.of _ _ _) ⟨_,_,by rw [FW,if_pos rfl],?_⟩)
  ·unfold aC ML; simp only [u,uk,hd,h1,CH,cond_true,hf]
  ·rw [Mf s x m 0 hl,List.map_append,List.map_append,h2]; rfl
 | some p =>
  obtain ⟨j,y⟩:=p; rw [hl] at hf; obtain ⟨h3,_⟩:=eX hk s x es m 0 j y h2 hl; rw [Nat.sub_zero] at h3; refine A3 (v:=W.A4 r (.map (ID x (enc s) j es) Dq)) ?_ (hK _ (DM.of _ _ _) ⟨_,_,by rw [FW,if_pos rfl],h3⟩); unfold aC ML; simp only [u,uk,hd,h1,CH,cond_true,hf]
theorem Sz {W:CW} {K:Value→CW→Prop} (ht:At W) (hk:∀ W1,Kp W W1→At W1→W1.sz=W.sz+1→E6 enc W1 W.sz []→K (.map (some W.sz)) W1):CD (qq W) K :=
 hk _ (.new _) (ht.new _) rfl ⟨[],0,by rw [BF,if_pos rfl],rfl⟩
end
theorem FX (a b:ByteArray):MK .string (.string a) (.string b)=some (decide (a=b)):=by
 simp only [MK,Lm]
section
variable {P:Program}
theorem Lp {W:CW} {a:Addr} {cs:List Value} (h:Cells W a.block a.off cs):FA (some a) cs.length W=some cs:=by
 unfold FA; simp only [cond_eq_ite]
 cases cs with
 | nil=>rfl
 | cons c cs =>
  rw [if_neg (by simp)]; have P7:∃ v,(c::cs)[cs.length]?=some v:=⟨(c::cs)[cs.length]'(by simp),List.getElem?_eq_getElem _⟩
  obtain ⟨v,hv⟩:=P7; have Hm:=h _ v hv; unfold CW.cell at Hm
  split at Hm
  ·rename_i t n z e ho
   split at Hm
   ·rename_i Ax; rw [ho]; simp only [List.length_cons]; rw [if_pos (Nat.ble_eq_true_of_le (by omega))]
    have:=HQ (c:=t) (z:=z) (vs:=c::cs) (k:=a.off) fun j w hj=>by
     have:=h j w hj; unfold CW.cell at this; rw [ho] at this; simp only at this
     split at this
     ·exact Option.some.inj this
     ·cases this
    rw [←this]; simp
   ·cases Hm
  ·rename_i f n e ho
   split at Hm
   ·rename_i Ax; rw [ho]; simp only [List.length_cons]; rw [if_pos (Nat.ble_eq_true_of_le (by omega))]
    have:=M0 (f:=f) (vs:=c::cs) (k:=a.off) fun j w hj=>by
     have:=h j w hj; unfold CW.cell at this; rw [ho] at this; simp only at this
     split at this
     ·exact Option.some.inj this
     ·cases this
    rw [←this]; simp
   ·cases Hm
  ·cases Hm
inductive DN (W:CW) (el:TypeId) (n:Nat):Value→List Value→Prop where
 | nil:DN W el n (.slice none 0 0) []
 | some {b len:Nat} {cs:List Value} (h:Aw W b el cs) (hl:cs.length=len*n):DN W el n (.slice (some ⟨b,0,none⟩) len len) cs
structure ABw (v:Value) (W W':CW):Prop where
 sz:W'.sz=W.sz+1
 top:At W→At W'
 obj:∀ i,i<W.sz→(∀ b l c,v=.slice (some b) l c→i≠b.block)→W'.obj i=W.obj i
theorem lK {t u el:TypeId} {ts:List TypeId} {n bytes:Nat} {z:Value} (ut:P.underlying t=some (.slice el)) (hu:G' P u=true) (hs:DC P el=some n) (hz:GP P el=some z) (jJ:z.cells.size=n) (hn:0<n) (ng:(P.info? el).map (·.bytes)=some bytes) (hb:bytes≤1024)
  {W:CW} (ht:At W) {v x:Value} {cs news:List Value} {m:Nat} (hv:DN W el n v cs) (hx:aJ x=some m) (hm:0<m) (gT:Gl x m n W=some news) (h1:news.all BB=true) (KN:news.length=m*n) (Ua:cs.length+m≤1000000) {K:Value→CW→Prop}
  (hk:∀ W1 len,ABw v W W1→(cs++news).length=len*n→Aw W1 W.sz el (cs++news)→K (.slice (some ⟨W.sz,0,none⟩) len len) W1):CD (app P (t::u::ts) v x W) K:=by
 have lL:Nat.ble ((P.info? el).map (·.bytes) |>.getD 2000) 1024=true:=by rw [ng]; exact Nat.ble_eq_true_of_le hb
 unfold app; simp only [hu,cond_true]
 cases hv with
 | nil =>
  have hc:F4 P t (.slice none 0 0) x W=some (.slice (some ⟨W.sz,0,none⟩) (0+m) (0+m),W.new (.cells (Tr.nil.AZ 0 news) ((0+m)*n) #[] el)):=by
   unfold F4; simp only [ut,hx,CH,hs,hz,gT,h1,KN,Nat.beq_refl,jJ,lL,Bool.true_and,Bool.and_true]; rw [show Nat.blt 0 n=true from Nat.ble_eq_true_of_le hn,show Nat.ble (0+m) 1000000=true from Nat.ble_eq_true_of_le (by simp only [List.length_nil] at Ua; omega)]; simp only [Bool.and_self,cond_true]; rw [show Nat.ble (0+m) 0=false from by cases h:Nat.ble (0+m) 0 with | false=>rfl | true=>have:=Nat.le_of_ble_eq_true h; omega]; simp only [cond_false]
  refine GC hc (hk _ _ ⟨rfl,fun ht=>ht.new _,fun i hi _=>by rw [BF,if_neg (by omega)]⟩ (by rw [List.nil_append,KN]; congr 1; omega) ⟨_,_,_,by rw [BF,if_pos rfl],by rw [List.nil_append,KN]; congr 1; omega,fun k w hw=>?_⟩); rw [List.nil_append] at hw; rw [CV _ _ _ (List.getElem?_eq_some_iff.1 hw).1,List.getD_eq_getElem?_getD,hw]; rfl
 | @some b len cs hB hl =>
  obtain ⟨c,k,zz,ho,KW,BA⟩:=hB; have hlen:len≤cs.length:=by rw [hl]; exact Nat.le_mul_of_pos_right _ hn
  have Iu:BJ c zz (len*n) 0=cs:=by
   rw [←hl]; exact HQ fun j w hj=>by rw [Nat.zero_add]; exact BA j w hj
  have hc:F4 P t (.slice (some ⟨b,0,none⟩) len len) x W=some (.slice (some ⟨W.sz,0,none⟩) (len+m) (len+m),(W.A4 b .dead).new (.cells (Tr.nil.AZ 0 (cs++news)) ((len+m)*n) #[] el)):=by
   unfold F4; simp only [ut,hx,CH,hs,hz,gT,h1,KN,Nat.beq_refl,jJ,lL,Bool.true_and,Bool.and_true]; rw [show Nat.blt 0 n=true from Nat.ble_eq_true_of_le hn,show Nat.ble (len+m) 1000000=true from Nat.ble_eq_true_of_le (by omega)]; simp only [Bool.and_self,cond_true]; rw [show Nat.ble (len+m) len=false from by cases h:Nat.ble (len+m) len with | false=>rfl | true=>have:=Nat.le_of_ble_eq_true h; omega]; simp only [cond_false,Option.isSome_none,ho,Nat.beq_refl,Bool.and_true,Nat.zero_add,Iu]; rw [show Nat.ble (len*n) k=true from Nat.ble_eq_true_of_le (by omega)]; simp only [cond_true]
  refine GC hc (hk _ _ ⟨rfl,fun ht=>At.new (ht.A4 (ht _ _ ho) (DM.of _ _ _)) _,fun i hi Dp=>by
    have:=Dp ⟨b,0,none⟩ len len rfl
    rw [BF,if_neg (by rw [lF]; omega),FW,if_neg this]⟩ (by rw [List.length_append,hl,KN,←Nat.add_mul]) ⟨_,_,_,by rw [BF,if_pos (by rw [lF])],by rw [List.length_append,hl,KN,←Nat.add_mul],fun k w hw=>?_⟩)
  rw [CV _ _ _ (List.getElem?_eq_some_iff.1 hw).1,List.getD_eq_getElem?_getD,hw]; rfl
end
end Go.Ce
namespace Go.Ce
open Go Go.Proofs Go.Proofs.Tryz
def qx (v:Value) (W:CW):Ending→CW→Prop:=fun e W'=>e=.returned v∧Kp W W'∧At W'
theorem VK {P:Program} {L:List FuncId} {f:FuncId} {args:List Value} {W:CW} {K:Value→CW→Prop} {KP:List PanicEntry→CW→Prop} {v:Value} (h:AH P L f args W (qx v W)) (hk:∀ W1,Kp W W1→At W1→K v W1):AH P L f args W (AV K KP) :=
 h.mono fun e W' ⟨he,h1,h2⟩=>by subst he; exact hk W' h1 h2
def JE (W:CW) (b o:Nat) (x:UInt8):Prop:=W.cell b o=some (.int .u8 x.toNat)
def Lq (x:UInt8):Bool:=decide ((x.toNat:Int)<33) || decide ((x.toNat:Int)>126)
def Ip {α:Type} (l:List α) (p:α→Bool):Int:=match l.findIdx? p with
 | some i=>i
 | none=>-1
theorem JG {α:Type} {l:List α} {p:α→Bool} {i:Nat} (h:i<l.length) (hp:p l[i]=true) (CY:∀ j x,j<i→l[j]?=some x→p x=false):Ip l p=i:=by
 have:l.findIdx? p=some i:=by
  rw [List.findIdx?_eq_some_iff_getElem]; exact ⟨h,hp,fun j hj=>by rw [CY j l[j] hj (List.getElem?_eq_getElem _)]; simp⟩
 simp [Ip,this]
theorem JH {α:Type} {l:List α} {p:α→Bool} (CY:∀ (j:Nat) x,j<l.length→l[j]?=some x→p x=false):Ip l p=-1:=by
 have:l.findIdx? p=none:=by
  rw [List.findIdx?_eq_none_iff]; intro x hx; obtain ⟨j,hj,rfl⟩:=List.mem_iff_getElem.1 hx; exact CY j l[j] hj (List.getElem?_eq_getElem _)
 simp [Ip,this]
theorem Yz {v:Value} {l:List UInt8} {W:CW} (hl:Ay 1 (JE W) v l) (hlen:l.length<1000000):AH prog AT 140 [v,.func (.func 124) #[] #[]] W (Me (.int .i64 (Ip l Lq)) W):=by
 refine tq ?_; rw [tp]; obtain ⟨a,cap,rfl,BA⟩:=hl; rw [Ac PR]; simp only [AA]; refine lH (fun k e ds W'=>W'=W∧ds=[]∧∃ i:Nat,e 0=.slice a l.length cap∧e 1=.func (.func 124) #[] #[]∧e 7=.int .i64 l.length∧e 8=.int .i64 i∧i≤l.length∧k=l.length-i∧∀ j x,j<i→l[j]?=some x→Lq x=false) l.length ⟨rfl,rfl,0,rfl,rfl,rfl,rfl,by omega,by omega,by omega⟩ ?_; rintro k e ds W' ⟨rfl,rfl,i,h0,h1,h7,h8,hi,rfl,CY⟩; rw [ov,h0,h1,h7,h8]; simp only [AA,A6]
 refine AL (fun h=>?_) (fun h=>?_)
 ·have Ax:i<l.length:=by simpa using h
  have hx:=List.getElem?_eq_getElem Ax; obtain ⟨p,rfl,hp⟩:=BA i _ hx; rw [BH PR s5 Ax]; simp only [AA,AD a5 (a:=⟨p.block,p.off+i*1,none⟩) hp]; refine Ll Tryz.func124 (by kernel_rfl) (EP (XA _ _) ?_)
  refine AL (fun hq=>?_) (fun hq=>?_)
  ·simp only [Nq,KR,tKr,RR,Wv,Su,Aa,↓reduceIte]; refine ⟨?_,rfl⟩; rw [JG Ax hq CY]
  ·simp only [Nq,Bs,Aa,Av,Nat.reduceEqDiff,↓reduceIte,h0,h1,h7,h8,Ap,AA,tKn]
   refine ⟨l.length-(i+1),by omega,trivial,trivial,i+1,trivial,trivial,trivial,?_,Ax,rfl,fun j x hj JI=>?_⟩
   ·rw [wrap64 (by omega) (by omega)]; rfl
   ·rcases Nat.lt_succ_iff_lt_or_eq.1 hj with h2 | rfl
    ·exact CY j x h2 JI
    ·rw [hx] at JI; cases JI; exact hq
 ·have NW:i=l.length:=by have:¬i<l.length:=(by simpa using h); omega
  simp only [tKx,Md,Wv,Bs,Su,Aa,↓reduceIte]; refine ⟨?_,rfl⟩; rw [JH fun j x hj hx=>CY j x (by omega) hx]
theorem S1 {v:Value} {l:List UInt8} {W:CW} (hl:Ay 1 (JE W) v l) (hlen:l.length<1000000):AH prog AT 123 [v,.func (.func 124) #[] #[]] W (Me (.bool (l.any Lq)) W):=by
 refine tk ?_; rw [tj]; refine EP (Yz hl hlen) ?_; simp only [Gv,AA,bp,Aa,↓reduceIte]; refine ⟨?_,rfl⟩; congr 2
 cases h:l.any Lq with
 | true =>
  obtain ⟨x,hx,hb⟩:=List.any_eq_true.1 h; unfold Ip
  cases h2:l.findIdx? Lq with
  | none=>rw [List.findIdx?_eq_none_iff] at h2; rw [h2 x hx] at hb; cases hb
  | some i=>simp
 | false =>
  rw [JH fun j x hj hx=>by
   have:=List.any_eq_false.1 h x (List.mem_of_getElem? hx)
   simpa using this]
  rfl
def Hw (s:ByteArray):Bool:=(decide ((1:Int)≤s.size) && decide ((s.size:Int)≤60)) && !(sb s).any Lq
theorem zN {s:ByteArray} {W:CW} (ht:At W) {K:Value→CW→Prop} (hk:∀ v W1,Kp W W1→At W1→Ay 1 (JE W1) v (sb s)→K v W1):CD (s6 prog 9 29 (.string s) W) K:=by
 have hc:s6 prog 9 29 (.string s) W=some (.slice (some ⟨W.sz,0,none⟩) s.size s.size,W.new (.cells (Tr.nil.AZ 0 (DL (sb s))) s.size #[] 5)):=by kernel_rfl
 have HV:(sb s).length=s.size:=by cases s; exact Array.length_toList
 refine GC hc (hk _ _ (.new _) (ht.new _) ⟨some ⟨W.sz,0,none⟩,s.size,by rw [HV],fun i x hx=>⟨_,rfl,?_⟩⟩); have Ax:=(List.getElem?_eq_some_iff.1 hx).1; unfold JE CW.cell; rw [BF,if_pos rfl]; simp only [Nat.zero_add,Nat.mul_one]; rw [if_pos (by omega),CV _ _ _ (by simp [DL]; exact Ax)]; simp [DL,List.getD_eq_getElem?_getD,hx]
theorem LG {s:ByteArray} {W:CW} (ht:At W) (hlen:s.size<1000000):AH prog AT 101 [.string s] W (qx (.bool (Hw s)) W):=by
 have HV:(sb s).length=s.size:=by cases s; exact Array.length_toList
 refine th ?_; rw [tf,LF u9]; simp only [AA]; refine EP (Ys _ _ _ _) ?_
 refine AL (fun h=>?_) (fun h=>?_)
 ·refine zN ht fun v W1 k1 t1 hv=>?_; refine EP (S1 hv (by omega)) ?_; simp only [Al,AA,Lj,Bs,St,Aa,↓reduceIte]; refine ⟨?_,k1,t1⟩; simp only [Hw,h,Bool.true_and]
 ·simp only [Lj,Bs,St,Aa,↓reduceIte]; refine ⟨?_,.refl _,ht⟩; simp only [Hw,h,Bool.false_and]
end Go.Ce
namespace Go.Ce
open Go Go.Proofs Go.Proofs.Tryz
end Go.Ce
namespace Go.Ce
section
variable {P:Program}
def Bw (A:Nat) (v:Value):Prop:=∀ b l c,v=.slice (some b) l c→A≤b.block
theorem Bw.nil (A l c:Nat):Bw A (.slice none l c):=fun b l c h=>by cases h
structure Jz (v:Value) (W W':CW):Prop where
 sz:W.sz≤W'.sz
 obj:∀ i,i<W.sz→(∀ b l c,v=.slice (some b) l c→i≠b.block)→W'.obj i=W.obj i
theorem Jz.kp {v:Value} {A W W':CW} (h:Jz v W W') (k:Kp A W) (hv:Bw A.sz v):Kp A W' :=
 ⟨by have:=h.sz; have:=k.sz; omega,fun i hi=>by
  rw [h.obj i (by have:=k.sz; omega) (fun b l c e=>by have:=hv b l c e; omega)]
  exact k.obj i hi⟩
theorem lM {t el:TypeId} {ts:List TypeId} {n bytes:Nat} {z x:Value} {xs:List Value} (ut:P.underlying t=some (.slice el)) (hs:DC P el=some n) (hz:GP P el=some z) (jJ:z.cells.size=n) (hn:0<n) (ng:(P.info? el).map (·.bytes)=some bytes) (hb:bytes≤1024)
  (uA:∀ W,WX P t 1 [(0,x)] W=some (.slice (some ⟨W.sz,0,none⟩) 1 1,W.new (.cells (Tr.nil.AZ 0 xs) xs.length #[] el))) (fx:xs.length=n) (Xg:xs.all BB=true)
  {W:CW} (ht:At W) {v:Value} {cs:List Value} (hv:DN W el n v cs) (Ua:cs.length<900000) {K:Value→Value→CW→Prop}
  (hk:∀ u v1 W1,Jz v W W1→At W1→DN W1 el n v1 (cs++xs)→(∀ A,A≤W.sz→Bw A v1)→K u v1 W1):CD (WX P t 1 [(0,x)] W) fun u W1=>CD (app P (t::t::ts) v u W1) fun v1 W2=>K u v1 W2:=by
 refine GC (uA W) ?_; have hkp:Kp W (W.new (.cells (Tr.nil.AZ 0 xs) xs.length #[] el)):=.new _
 have hB:Aw (W.new (.cells (Tr.nil.AZ 0 xs) xs.length #[] el)) W.sz el xs:=⟨_,_,_,by rw [BF,if_pos rfl],rfl,fun k w hw=>by
  rw [CV _ _ _ (List.getElem?_eq_some_iff.1 hw).1,List.getD_eq_getElem?_getD,hw]; rfl⟩
 have F7:DN (W.new (.cells (Tr.nil.AZ 0 xs) xs.length #[] el)) el n v cs:=by
  cases hv with
  | nil=>exact .nil
  | some h hl=>exact .some (h.ext ht hkp) hl
 have aF:∀ b l c,v=.slice (some b) l c→b.block<W.sz:=by
  intro b l c e
  cases hv with
  | nil=>cases e
  | some h hl=>cases e; exact h.lt ht
 have hu:G' P t=true:=by unfold G'; rw [ut]
 refine lK (x:=.slice (some ⟨W.sz,0,none⟩) 1 1) (m:=1) (news:=xs) ut hu hs hz jJ hn ng hb (ht.new _) F7 rfl (by omega) ?_ Xg (by omega) (by omega) fun W1 len hg hl lN=>?_
 ·show FA (some ⟨W.sz,0,none⟩) (1*n) _=some xs; rw [Nat.one_mul,←fx]; exact Lp hB.cells
 ·refine hk _ _ W1 ⟨by rw [hg.sz,Fj]; omega,fun i hi Dp=>?_⟩ (hg.top (ht.new _)) (.some lN hl) (fun A hA b l c e=>by cases e; rw [Fj]; show A≤W.sz+1; omega); rw [hg.obj i (by rw [Fj]; omega) Dp,BF,if_neg (by omega)]
end
end Go.Ce
namespace Go.Ce
open Go Go.Proofs Go.Proofs.Tryz
theorem Ay.imp {α:Type} {n:Nat} {R S:Nat→Nat→α→Prop} {v:Value} {l:List α} (h:Ay n R v l) (hi:∀ b o x,R b o x→S b o x):Ay n S v l:=by
 obtain ⟨a,cap,h1,h2⟩:=h; exact ⟨a,cap,h1,fun i x hx=>by obtain ⟨p,hp,hr⟩:=h2 i x hx; exact ⟨p,hp,hi _ _ _ hr⟩⟩
theorem Ot.kp {W W':CW} {b o:Nat} {x:Sx} (h:Ot W b o x) (ht:At W) (k:Kp W W'):Ot W' b o x:=⟨k.cell ht h.name,k.cell ht h.kind,h.lo,h.hi⟩
theorem MF.kp {W W':CW} {b o:Nat} {x:Af} (h:MF W b o x) (ht:At W) (k:Kp W W'):MF W' b o x :=
 ⟨k.cell ht h.name,k.cell ht h.Bk,by obtain ⟨v,h1,h2⟩:=h.fields; exact ⟨v,k.cell ht h1,h2.imp fun _ _ _ hr=>hr.kp ht k⟩,k.cell ht h.elem,by obtain ⟨a,l,n,h1⟩:=h.binds; exact ⟨a,l,n,k.cell ht h1⟩,h.lo,h.hi⟩
def D2:ByteArray:=⟨#[]⟩
def Ub (c:List Af) (i:Nat):Option Nat:=match c[i]? with
 | some x=>match c.findIdx? (fun y=>decide (y.name=x.Bk)) with
  | some j=>match c[j]? with
   | some y=>if y.elem=0 then some j else none
   | none=>none
  | none=>none
 | none=>none
def Bh (c:List Af):Nat→Nat→Option (List Nat)
 | f,i=>match c[i]? with
  | none=>none
  | some x=>if x.Bk=D2 then some [i] else match f with
   | 0=>none
   | f+1=>match Ub c i with
    | some j=>(Bh c f j).map (i::·)
    | none=>none
termination_by f=>f
theorem z3:GP prog 3=some (.int .i64 0):=by kernel_rfl
theorem zO:(prog.info? 3).map (·.bytes)=some 8:=by kernel_rfl
theorem qy (n:Int) (W:CW):WX prog 40 1 [(0,.int .i64 n)] W=some (.slice (some ⟨W.sz,0,none⟩) 1 1,W.new (.cells (Tr.nil.AZ 0 [.int .i64 n]) [Value.int .i64 n].length #[] 3)):=by kernel_rfl
theorem Nu {P:Program} {t el o3:TypeId} (u:P.underlying t=some (.slice o3)) {W W':CW} {v:Value} {cs:List Value} (h:DN W el 1 v cs):AY P t v W'=some (.int .i64 cs.length):=by
 cases h with
 | nil=>rw [Ac u]; rfl
 | some hB hl=>rw [Ac u,hl,Nat.mul_one]
theorem Lr {c:List Af} {f i:Nat} {x:Af} (hx:c[i]?=some x) (hs:x.Bk=D2):Bh c f i=some [i]:=by
 unfold Bh; rw [hx]; simp only [hs,if_true]
theorem b7 {c:List Af} {i:Nat} {x:Af} (hx:c[i]?=some x) (hs:x.Bk≠D2):Bh c 0 i=none:=by
 unfold Bh; rw [hx]; simp only [hs,if_false]
theorem M1 {c:List Af} {f i:Nat} {x:Af} (hx:c[i]?=some x) (hs:x.Bk≠D2):Bh c (f+1) i=match Ub c i with
  | some j=>(Bh c f j).map (i::·)
  | none=>none:=by
 rw [Bh,hx]; simp only [hs,if_false]
end Go.Ce
namespace Go.Ce
section
variable {α:Type} {W:CW} {b n:Nat} {enc:α→List Value}
theorem S4 (hn:∀ x,(enc x).length=n):∀ (l:List α) (o:Nat),Cells W b o (l.flatMap enc)→∀ i x,l[i]?=some x→Cells W b (o+i*n) (enc x)
 | [],o,_=>fun i x h=>by cases h
 | y::l,o,h=>by
  intro i x hx; rw [List.flatMap_cons] at h
  cases i with
  | zero =>
   cases hx
   intro j v hj; rw [Nat.zero_mul,Nat.add_zero]; exact h j v (by rw [List.getElem?_append_left (List.getElem?_eq_some_iff.1 hj).1]; exact hj)
  | succ i =>
   have:=S4 hn l (o+n) (fun j v hj=>by
    have:=h (n+j) v (by rw [List.getElem?_append_right (by rw [hn]; omega),hn,Nat.add_sub_cancel_left]; exact hj)
    rwa [show o+(n+j)=o+n+j by omega] at this) i x (by simpa using hx)
   rwa [show o+n+i*n=o+(i+1)*n by rw [Nat.succ_mul]; omega] at this
end
section
variable {P:Program}
end
end Go.Ce
namespace Go.Ce
open Go Go.Proofs Go.Proofs.Tryz
theorem DN.kp {W W':CW} {el:TypeId} {n:Nat} {v:Value} {cs:List Value} (h:DN W el n v cs) (ht:At W) (k:Kp W W'):DN W' el n v cs:=by
 cases h with
 | nil=>exact DN.nil
 | some hB hl=>exact DN.some (hB.ext ht k) hl
theorem J4 (c:List Af):∀ (f i:Nat) (l:List Nat),Bh c f i=some l→l.length≤f+1∧∀ j,j ∈ l→j<c.length
 | f,i,l,h=>by
  unfold Bh at h
  cases hx:c[i]? with
  | none=>rw [hx] at h; cases h
  | some x =>
   rw [hx] at h; have hi:i<c.length:=(List.getElem?_eq_some_iff.1 hx).1; simp only at h
   split at h
   ·cases h
    exact ⟨by simp,fun j hj=>by rw [List.mem_singleton.1 hj]; exact hi⟩
   ·cases f with
    | zero=>cases h
    | succ f =>
     simp only at h
     split at h
     ·rename_i j hj
      cases hl:Bh c f j with
      | none=>rw [hl] at h; cases h
      | some m =>
       rw [hl] at h
       cases h
       obtain ⟨h1,h2⟩:=J4 c f j m hl
       exact ⟨by simp only [List.length_cons]; omega,fun j hj=>by
        rcases List.mem_cons.1 hj with rfl | hj
        ·exact hi
        ·exact h2 j hj⟩
     ·cases h
termination_by f=>f
def JJ (c:List Af) (j:Nat):List Sx:=match c[j]? with
 | some x=>x.fields
 | none=>[]
def Eu (c:List Af) (i:Nat):List Sx:=match Bh c c.length i with
 | some l=>l.reverse.flatMap (JJ c)
 | none=>[]
def gU (f:Sx):List Value:=[.string f.name,.int .u8 f.kind]
theorem Y0 (f:Sx):(gU f).length=2:=rfl
theorem z72:GP prog 72=some (.agg #[.string ⟨#[]⟩,.int .u8 0]):=by kernel_rfl
theorem Ot.cells {W:CW} {b o:Nat} {x:Sx} (h:Ot W b o x):Cells W b o (gU x):=by
 intro j v hj
 match j,hj with
 | 0,hj=>cases hj; exact h.name
 | 1,hj=>cases hj; exact h.kind
theorem lO {c:List Af} {m:Nat} (hf:∀ x,x ∈ c→x.fields.length≤m) (j:Nat):(JJ c j).length≤m:=by
 unfold JJ
 cases hx:c[j]? with
 | none=>simp
 | some x=>exact hf x (List.mem_of_getElem? hx)
theorem Y1 {c:List Af} {m:Nat} (hf:∀ x,x ∈ c→x.fields.length≤m):∀ l:List Nat,((l.flatMap (JJ c)).flatMap gU).length≤l.length*(2*m)
 | []=>by simp
 | j::l=>by
  rw [List.flatMap_cons,List.flatMap_append,List.length_append,List.length_cons,Nat.succ_mul]; have h1:=Y1 hf l
  have h2:((JJ c j).flatMap gU).length≤2*m:=by
   have h3:=lO hf j
   have:∀ fs:List Sx,(fs.flatMap gU).length=2*fs.length:=by
    intro fs
    induction fs with
    | nil=>rfl
    | cons f fs ih=>rw [List.flatMap_cons,List.length_append,ih,List.length_cons,Y0]; omega
   rw [this]; omega
  omega
end Go.Ce
namespace Go.Ce
open Go Go.Proofs Go.Proofs.Tryz
def Ai (c:List Af) (i:Nat):List Int:=(Eu c i).map (·.kind)
def Fl (l:List Int):List Value:=l.map fun k=>Value.int .u8 k
theorem z5:GP prog 5=some (.int .u8 0):=by kernel_rfl
theorem by5:(prog.info? 5).map (·.bytes)=some 1:=by kernel_rfl
theorem zP (n:Int) (W:CW):WX prog 29 1 [(0,.int .u8 n)] W=some (.slice (some ⟨W.sz,0,none⟩) 1 1,W.new (.cells (Tr.nil.AZ 0 [.int .u8 n]) [Value.int .u8 n].length #[] 5)):=by kernel_rfl
theorem Uc (fs:List Sx):(fs.flatMap gU).length=2*fs.length:=by
 induction fs with
 | nil=>rfl
 | cons f fs ih=>rw [List.flatMap_cons,List.length_append,ih,List.length_cons,Y0]; omega
theorem LH {c:List Af} (hlen:c.length<200) (hf:∀ x,x ∈ c→x.fields.length≤100) (i:Nat):(Eu c i).length≤20100:=by
 unfold Eu
 cases hl:Bh c c.length i with
 | none=>simp
 | some l =>
  have h1:=(J4 c _ _ _ hl).1; have h2:=Y1 hf l.reverse; rw [Uc] at h2; have:l.reverse.length*(2*100)≤200*200:=Nat.mul_le_mul (by simp; omega) (by omega); show (l.reverse.flatMap (JJ c)).length≤20100; omega
end Go.Ce
namespace Go.Ce
open Go Go.Proofs Go.Proofs.Tryz
def A9 (c:List Af) (i k:Nat):Int:=match c[i]? with
 | some x=>if x.elem≠0 then x.elem else ((Ai c i)[k]?).getD 0
 | none=>0
def zQ (W:CW) (b o:Nat) (x:ByteArray):Prop:=W.cell b o=some (.string x)
end Go.Ce
namespace Go.Ce
open Go Go.Proofs Go.Proofs.Tryz
def Gw (n:Nat):List Int:=if n<128 then [(n:Int)] else ((n % 128+128:Nat):Int)::Gw (n / 128)
termination_by n
decreasing_by omega
end Go.Ce
namespace Go.Ce
open Go Go.Proofs Go.Proofs.Tryz
def b9 (s:ByteArray):List Int:=(sb s).map fun b=>(b.toNat:Int)
def Y2 (s:ByteArray):List Int:=Gw s.size++b9 s
end Go.Ce
namespace Go.Ce
open Go Go.Proofs Go.Proofs.Tryz
end Go.Ce
