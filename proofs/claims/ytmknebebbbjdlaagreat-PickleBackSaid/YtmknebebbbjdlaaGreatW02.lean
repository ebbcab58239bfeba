/- A part of the proof: Fd, Fe, Ga, Ha, Pa, ShT1, ShL5, Ff, ShR, Sh1, Sh0, Hb, Hc, Pb, Pc, Hd, He, Pd, Pe, Hf, Pf, Hg, Pg, Ph, Pi, Pj, Pk, ShA, Hh, Pl, Pm, Pn, Po, Pp, Pq, Pr, ShB, Ps. -/
import Derived.Test.YtmknebebbbjdlaaGreatW01
import Derived.Test.YtmknebebbbjdlaaGreatProg
set_option linter.unusedSectionVars false
set_option linter.unusedVariables false
set_option linter.unusedSimpArgs false
set_option maxRecDepth 200000
namespace Go.Ce
def AE (a:AJ) (e:Env) (ds:List Deferred):Prop:=(∀ t,a.at t=e t)∧a.defers=ds
theorem AE.eval {a:AJ} {e:Env} {ds:List Deferred} (h:AE a e ds):a.eval=e.ev:=by
 funext x
 cases x with
 | tmp t=>rw [AJ.O1]; exact h.1 t
 | _=>rfl
theorem AE.put {a:AJ} {e:Env} {ds:List Deferred} (h:AE a e ds) (d:Option Tmp) (v:Value):AE (a.put d v) (e.put d v) ds:=by
 refine ⟨fun t=>?_,by rw [AJ.put_defers]; exact h.2⟩
 cases d with
 | none=>exact h.1 t
 | some d =>
  rw [AJ.dc]; simp only [Env.put,cond_eq_ite,Nat.beq_eq]
  split
  ·rfl
  ·exact h.1 t
theorem du {v:Value} {X Y:Prop} (h:wI v X Y):∃ b,v=.bool b∧cond b X Y:=by
 unfold wI at h
 split at h
 ·exact ⟨true,rfl,h⟩
 ·exact ⟨false,rfl,h⟩
 ·obtain ⟨b,hb,h1,h2⟩:=h
  cases b with
  | true=>exact ⟨_,hb,h1 rfl⟩
  | false=>exact ⟨_,hb,h2 rfl⟩
theorem AP {b:Bool} {X Y:Prop} (h1:b=true→X) (h2:b=false→Y):wI (.bool b) X Y:=by
 cases b with
 | true=>exact h1 rfl
 | false=>exact h2 rfl
section
variable (P:Program) (L:List FuncId)
def gZ:Value→Bool
 | .tuple _=>true
 | _=>false
def OC (sk:List Nat) (ops:Array Oper) (o:Oper) (e:Env) (K:Bool→Env→Prop):Prop:=match o.guard with
 | none=>K true e
 | some (j,want)=>match (ops[j]?).bind (·.dst) with
  | some d=>cond (Bt sk j) (cond (gZ (e d)) (K false e) False) (wI (e d) (K (true == want) (fun t=>cond (Nat.beq t d) (.bool true) (e t))) (K (false == want) (fun t=>cond (Nat.beq t d) (.bool false) (e t))))
  | none=>False
def YH (o:Oper):Bool:=match o.op with
 | .call c=>match c.callee with
  | .value _=>true
  | _=>false
 | _=>false
def dw (ops:Array Oper):Nat→List Nat→List Oper→Env→List Deferred→CW→(Exit→Env→List Deferred→CW→Prop)→Prop
 | _,_,[],e,ds,W,K=>K .normal e ds W
 | i,sk,o::rest,e,ds,W,K=>OC sk ops o e fun b e=>cond b
   (wOp P L o e.ev W (fun v W=>dw ops (i+1) sk rest (e.put o.dst v) ds W K) (fun W=>dw ops (i+1) sk rest (e.put o.dst undef) ds W K) (fun d W=>dw ops (i+1) sk rest (e.put o.dst undef) (d::ds) W K) (fun ch W=>K (.panic ch) e ds W))
   (dw ops (i+1) (i::sk) rest (e.put o.dst undef) ds W K)
def UL (ops:Array Oper) (ev:Operand→Value) (W:CW):Nat→Operand→Value
 | n+1,.tmp t=>match ops.toList.find? (fun o=>match o.dst with | some d=>Nat.beq d t | none=>false) with
  | some o=>cond (C9 P o) ((BP P o (UL ops ev W n) W).elim undef fun l=>l.head?.elim undef fun p=>match p.1 with | .value v=>v | _=>undef) undef
  | none=>ev (.tmp t)
 | _,x=>ev x
def Qy (ops:Array Oper) (ev:Operand→Value) (W:CW) (o:Oper):Operand→Value :=
 match o.op with
 | .makeSlice _ _ _=>UL P ops ev W 6
 | _=>ev
def Z5 (ops:Array Oper) (ev:Operand→Value):List Nat→CW→Option (List (Nat × Value × Option Av) × CW)
 | [],W=>some ([],W)
 | i::is,W=>match ops[i]? with
  | some o=>match BP P o (Qy P ops ev W o) W with
   | some [(.value v,W1)]=>match Z5 ops ev is W1 with
    | some (l,W2)=>some ((i,v,W1.obj W.sz)::l,W2)
    | none=>none
   | _=>none
  | none=>none
def UM (o:Oper) (ev:Operand→Value) (v:Value) (ob:Option Av):Bool :=
 match o.op with
 | .makeSlice _ _ _=>match v with
  | .slice (some b) _ _=>(BP P o ev ⟨.nil,b.block⟩).any fun l=>l.head?.any fun p=>match p.1 with
   | .value u=>Xi 8 u v && CM (p.2.obj b.block) ob
   | _=>false
  | _=>false
 | _=>true
def TF (ops:Array Oper) (i:Nat) (an:List Nat) (ok:CW→Prop):List (Nat × CW)→CW→Prop
 | [],W=>ok W
 | (j,Wj)::before,W=>cond (uj ops j i) True (ok W)∧cond (Bt an j) True (TF ops i an ok before Wj)
def OD (ops:Array Oper) (ws:List (Nat × CW)) (W:CW):List (Nat × (CW→Prop))→Prop
 | []=>True
 | (i,ok)::rd=>TF ops i (FW ops i) ok ws W∧OD ops ws W rd
def G5 (v:Value) (ob:Option Av) (W:CW):Bool:=match v with
 | .pointer (some b)=>CM (W.obj b.block) ob
 | .map (some b)=>CM (W.obj b) ob
 | .slice (some b) _ _=>CM (W.obj b.block) ob
 | _=>false
def ga (ops:Array Oper) (ws:List (Nat × CW)) (W:CW):List (Nat × Value × Option Av)→Prop
 | []=>True
 | (i,v,ob)::fl=>TF ops i (FW ops i) (fun W=>G5 v ob W=true) ws W∧ga ops ws W fl
def YI (ops:Array Oper) (fl:List (Nat × Value × Option Av)):Nat→List Nat→List Oper→Env→CW→List (Nat × CW)→List (Nat × (CW→Prop))→(Env→CW→List (Nat × CW)→List (Nat × (CW→Prop))→Prop)→Prop
 | _,_,[],e,W,ws,rd,K=>K e W ws rd
 | i,sk,o::rest,e,W,ws,rd,K=>match fl.find? fun p=>Nat.beq p.1 i with
  | some (_,v,ob)=>UM P o e.ev v ob=true∧YI ops fl (i+1) sk rest (e.put o.dst v) W ws rd K
  | none=>OC sk ops o e fun b e=>cond b
    (cond (C9 P o) (wV (jE P o e.ev) fun v=>YI ops fl (i+1) sk rest (e.put o.dst v) W ws rd K)
     (cond (DW P o) (wV (cl P o e.ev W) fun v=>YI ops fl (i+1) sk rest (e.put o.dst v) W ws ((i,fun W'=>cl P o e.ev W'=some v)::rd) K)
      (wOp P L o e.ev W (fun v W1=>YI ops fl (i+1) sk rest (e.put o.dst v) W1 ((i,W)::ws) rd K) (fun W1=>YI ops fl (i+1) sk rest (e.put o.dst undef) W1 ((i,W)::ws) rd K) (fun _ _=>False) (fun _ _=>False))))
    (YI ops fl (i+1) (i::sk) rest (e.put o.dst undef) W ws rd K)
def mf (ops:Array Oper) (e:Env) (W:CW) (K:Env→CW→Prop):Prop:=match Z5 P ops e.ev (F4 P ops) W with
 | some (fl,W1)=>YI P L ops fl 0 [] ops.toList e W1 [] [] fun e W ws rd=>OD ops ws W rd∧ga ops ws W fl∧K e W
 | none=>False
def SO (ops:Array Oper) (i0:Nat):Nat→List Nat→List Oper→Env→CW→List (Nat × (CW→Prop))→(List (Nat × (CW→Prop))→Prop)→Prop
 | _,_,[],_,_,rd,K=>K rd
 | i,sk,o::rest,e,W,rd,K=>cond (Lr ops i0 i) (SO ops i0 (i+1) sk rest (e.put o.dst undef) W rd K)
   (OC sk ops o e fun b e=>cond b
    (cond (C9 P o) (wV (jE P o e.ev) fun v=>SO ops i0 (i+1) sk rest (e.put o.dst v) W rd K)
     (cond (DW P o) (wV (cl P o e.ev W) fun v=>SO ops i0 (i+1) sk rest (e.put o.dst v) W ((i,fun W'=>cl P o e.ev W'=some v)::rd) K) False))
    (SO ops i0 (i+1) (i::sk) rest (e.put o.dst undef) W rd K))
def O9 (ops:Array Oper) (fl:List (Nat × Value × Option Av)) (KP:List PanicEntry→CW→Prop):Nat→List Nat→List Oper→Env→CW→List (Nat × CW)→List (Nat × (CW→Prop))→(Env→CW→List (Nat × CW)→List (Nat × (CW→Prop))→Prop)→Prop
 | _,_,[],e,W,ws,rd,K=>K e W ws rd
 | i,sk,o::rest,e,W,ws,rd,K=>match fl.find? fun p=>Nat.beq p.1 i with
  | some (_,v,ob)=>UM P o e.ev v ob=true∧O9 ops fl KP (i+1) sk rest (e.put o.dst v) W ws rd K
  | none=>OC sk ops o e fun b e=>cond b
    (cond (C9 P o) (wV (jE P o e.ev) fun v=>O9 ops fl KP (i+1) sk rest (e.put o.dst v) W ws rd K)
     (cond (DW P o) (wV (cl P o e.ev W) fun v=>O9 ops fl KP (i+1) sk rest (e.put o.dst v) W ws ((i,fun W'=>cl P o e.ev W'=some v)::rd) K)
      (wOp P L o e.ev W (fun v W1=>O9 ops fl KP (i+1) sk rest (e.put o.dst v) W1 ((i,W)::ws) rd K) (fun W1=>O9 ops fl KP (i+1) sk rest (e.put o.dst undef) W1 ((i,W)::ws) rd K) (fun _ _=>False)
       (fun ch W2=>cond (YH o && fl.isEmpty && ws.all fun x=>Bt (FW ops i) x.1) (SO P ops i (i+1) sk rest (e.put o.dst undef) W rd fun rd=>OD ops ws W rd∧KP ch W2) False))))
    (O9 ops fl KP (i+1) (i::sk) rest (e.put o.dst undef) W ws rd K)
def dz (ops:Array Oper) (e:Env) (W:CW) (K:Env→CW→Prop) (KP:List PanicEntry→CW→Prop):Prop:=match Z5 P ops e.ev (F4 P ops) W with
 | some (fl,W1)=>O9 P L ops fl KP 0 [] ops.toList e W1 [] [] fun e W ws rd=>OD ops ws W rd∧ga ops ws W fl∧K e W
 | none=>False
def Env.bad:Env:=fun t=>cond (Nat.beq t 0) (.complex .f64 0 0) undef
def C6 (ro:Option Nat) (fn:FuncId) (nt:Nat) (c:Code) (e:Env) (ds:List Deferred) (W:CW) (K:Exit→Env→List Deferred→CW→Prop):Prop :=
 ∀ a:AJ,AE a e ds→a.nt=nt→mb P L ro fn c a W fun x a' W'=>∃ e',AE a' e' a'.defers∧a'.nt=nt∧K x e' a'.defers W'
abbrev AG:=Exit→Env→List Deferred→CW→Prop
def Aw (Y:Env→List Deferred→CW→Prop) (K:AG):AG:=fun x e ds W=>match x with
 | .normal=>Y e ds W
 | x=>K x e ds W
def Bm (id:Nat) (K:AG):AG:=fun x e ds W=>match x with
 | .exit R8=>cond (Nat.beq R8 id) (K .normal e ds W) (K (.exit R8) e ds W)
 | x=>K x e ds W
def AK (ro:Option Nat) (fn:FuncId) (nt:Nat):Code→Env→List Deferred→CW→(Exit→Env→List Deferred→CW→Prop)→Prop
 | .skip,e,ds,W,K=>K .normal e ds W
 | .label _,e,ds,W,K=>K .normal e ds W
 | .exit id,e,ds,W,K=>K (.exit id) e ds W
 | .ret,e,ds,W,K=>K .ret e ds W
 | .region _ ops false,e,ds,W,K=>dw P L ops 0 [] ops.toList e ds W K
 | .region _ ops true,e,ds,W,K=>cond (Bt L (fn+1500000)) (dz P L ops e W (fun e W=>K .normal e ds W) (fun ch W=>K (.panic ch) Env.bad ds W)) (mf P L ops e W fun e W=>K .normal e ds W)
 | .seq x y,e,ds,W,K=>AK ro fn nt x e ds W (Aw (fun e ds W=>AK ro fn nt y e ds W K) K)
 | .cond c x y,e,ds,W,K=>wI (e.ev c) (AK ro fn nt x e ds W K) (AK ro fn nt y e ds W K)
 | .block id b,e,ds,W,K=>AK ro fn nt b e ds W (Bm id K)
 | .scope b,e,ds,W,K=>AK ro fn nt b e ds W K
 | c,e,ds,W,K=>C6 P L ro fn nt c e ds W K
end
section
variable {P:Program} {L:List FuncId}
theorem YJ {n m:Nat} (h:n≤m) {f:FuncId} {args:List Value} {W:CW} {o:List (Ending × CW)} (hc:(C2 P L n).call f args W=some o):(C2 P L m).call f args W=some o:=(DY h).call hc
theorem UN {n m:Nat} (h:n≤m) {l:Nat} {args:List Value} {W:CW} {o:List (Ending × CW)} (hc:(C2 P L n).round l args W=some o):(C2 P L m).round l args W=some o:=(DY h).round hc
theorem Fw {n m:Nat} (h:n≤m) {ro:Option Nat} {fn:FuncId} {c:Code} {a:AJ} {W:CW} {o:List (Exit × AJ × CW)} (hc:(C2 P L n).code ro fn c a W=some o):(C2 P L m).code ro fn c a W=some o:=(DY h).code hc
theorem BY {α β:Type} (x:α) (f:α→Option (List β)) {y:List β} (h:f x=some y):CI (some [x]) f=some y:=by
 simp [CI,Em,h]
theorem KH {sk:List Nat} {ops:Array Oper} {o:Oper} {e:Env} {ds:List Deferred} {a:AJ} (ha:AE a e ds) {K:Bool→Env→Prop} (h:OC sk ops o e K):∃ e',AE a e' ds∧K (C5 ops o a) e'∧Dj ops o a=some (C5 ops o a):=by
 unfold OC at h; unfold C5 Dj
 split at h
 ·rename_i hg; rw [hg]; exact ⟨e,ha,h,by first | rfl | trivial⟩
 ·rename_i j want hg; rw [hg]
  split at h
  ·rename_i d hd; obtain ⟨oj,Y9,X3⟩:=Option.bind_eq_some_iff.1 hd
   cases hm:Bt sk j with
   | true =>
    rw [hm] at h; simp only [cond_true] at h
    cases hu:gZ (e d) with
    | false=>rw [hu] at h; exact h.elim
    | true =>
     rw [hu] at h; simp only [cond_true] at h
     have hy:Jd ops a j=none:=by
      unfold Jd; rw [Y9]; simp only [X3]; have h1:=ha.1 d; unfold AJ.at at h1
      cases MK:a.t.get d with
      | none=>rfl
      | some u =>
       rw [MK] at h1; have h1:u=e d:=h1; subst h1
       cases K1:e d <;> rw [K1] at hu <;> first | rfl | cases hu
     simp only [hy]; exact ⟨e,ha,h,by first | rfl | trivial⟩
   | false =>
   rw [hm] at h; simp only [cond_false] at h; obtain ⟨b,hb,hK⟩:=du h
   replace hK:K (b == want) (fun t=>cond (Nat.beq t d) (.bool b) (e t)):=by cases b <;> exact hK
   have hy:Jd ops a j=some b:=by
    unfold Jd; rw [Y9]; simp only [X3]; have h1:=ha.1 d; rw [hb] at h1; unfold AJ.at at h1
    cases MK:a.t.get d with
    | none=>rw [MK] at h1; cases h1
    | some u =>
     rw [MK] at h1; have h1:u=.bool b:=h1; subst h1; rfl
   simp only [hy]; refine ⟨_,⟨fun t=>?_,ha.2⟩,hK,by first | rfl | trivial⟩; simp only [cond_eq_ite,Nat.beq_eq]
   split
   ·rename_i ht; subst ht; rw [ha.1 t,hb]
   ·exact ha.1 t
  ·exact h.elim
theorem F6 {ops:Array Oper}:∀ {i:Nat} {sk:List Nat} {rest:List Oper} {a:AJ} {e:Env} {ds:List Deferred} {W:CW} {K:Exit→Env→List Deferred→CW→Prop},dw P L ops i sk rest e ds W K→AE a e ds →
  ∃ n o e',En P (C2 P L n) ops rest a W=some [o]∧AE o.2.1 e' o.2.1.defers∧o.2.1.nt=a.nt∧K o.1 e' o.2.1.defers o.2.2
 | i,sk,[],a,e,ds,W,K,h,ha=>by
  refine ⟨0,(.normal,a,W),e,rfl,?_,rfl,?_⟩
  ·rw [ha.2]; exact ha
  ·rw [ha.2]; exact h
 | i,sk,o::rest,a,e,ds,W,K,h,ha=>by
  simp only [dw] at h; obtain ⟨e1,DC,h,_⟩:=KH ha h
  cases hw:C5 ops o a with
  | false =>
   rw [hw] at h; obtain ⟨n,x,e',h1,h2,h3,h4⟩:=F6 h (DC.put _ _); exact ⟨n,x,e',by simp only [En,hw]; exact h1,h2,by rw [h3,AJ.BZ],h4⟩
  | true =>
   rw [hw] at h; simp only [cond_true] at h; obtain ⟨p,hp,Gs⟩:=QZ h; obtain ⟨nx,W1⟩:=p; have Hv:BP P o a.eval W=some [(nx,W1)]:=by rw [DC.eval]; exact hp
   have step:∀ {n:Nat} {x:Exit × AJ × CW},(match nx with
     | .value v=>En P (C2 P L n) ops rest (a.put o.dst v) W1
     | .skip=>En P (C2 P L n) ops rest (a.put o.dst undef) W1
     | .defer d=>En P (C2 P L n) ops rest ({ a with defers:=d::a.defers }.put o.dst undef) W1
     | .enter f args=>CI ((C2 P L n).call f args W1) fun (e,W)=>match e with
      | .returned v=>En P (C2 P L n) ops rest (a.put o.dst v) W
      | .panicked ch=>some [(.panic ch,a,W)]
      | .outgrown=>none
     | .round l args=>CI ((C2 P L n).round l args W1) fun (e,W)=>match e with
      | .returned v=>En P (C2 P L n) ops rest (a.put o.dst v) W
      | .panicked ch=>some [(.panic ch,a,W)]
      | .outgrown=>none
     | .recover=>none
     | .panic v=>some [(.panic [{ v,recovered:=false }],a,W1)])=some [x]→En P (C2 P L n) ops (o::rest) a W=some [x]:=by
    intro n x hx; simp only [En,hw,Hv]; refine BY _ _ ?_
    cases nx <;> exact hx
   have up:∀ {n m:Nat} (hle:n≤m) {a:AJ} {W:CW} {r:List (Exit × AJ × CW)},En P (C2 P L n) ops rest a W=some r→En P (C2 P L m) ops rest a W=some r:=fun hle=>E7 (DY hle)
   cases nx with
   | value v =>
    obtain ⟨n,x,e',h1,h2,h3,h4⟩:=F6 (a:=a.put o.dst v) Gs (DC.put _ _); exact ⟨n,x,e',step h1,h2,by rw [h3,AJ.BZ],h4⟩
   | skip =>
    obtain ⟨n,x,e',h1,h2,h3,h4⟩:=F6 (a:=a.put o.dst undef) Gs (DC.put _ _); exact ⟨n,x,e',step h1,h2,by rw [h3,AJ.BZ],h4⟩
   | defer d =>
    obtain ⟨n,x,e',h1,h2,h3,h4⟩:=F6 (a:=({ a with defers:=d::a.defers }:AJ).put o.dst undef) Gs (AE.put (a:={ a with defers:=d::a.defers }) ⟨DC.1,by show d::a.defers=d::ds; rw [DC.2]⟩ _ _); exact ⟨n,x,e',step h1,h2,by rw [h3,AJ.BZ],h4⟩
   | enter f args =>
    obtain ⟨n1,y,hy,hQ⟩:=Gs; obtain ⟨en,W2⟩:=y
    cases en with
    | returned v =>
     obtain ⟨n,x,e',h1,h2,h3,h4⟩:=F6 (a:=a.put o.dst v) hQ (DC.put _ _); refine ⟨max n n1,x,e',step ?_,h2,by rw [h3,AJ.BZ],h4⟩; simp only [YJ (Nat.le_max_right n n1) hy]; exact BY _ _ (up (Nat.le_max_left _ _) h1)
    | panicked ch =>
     refine ⟨n1,(.panic ch,a,W2),e1,step ?_,by rw [DC.2]; exact DC,rfl,by rw [DC.2]; exact hQ⟩; simp only [hy]; exact BY _ _ rfl
    | outgrown=>exact hQ.elim
   | round l args =>
    obtain ⟨n1,y,hy,hQ⟩:=Gs; obtain ⟨en,W2⟩:=y
    cases en with
    | returned v =>
     obtain ⟨n,x,e',h1,h2,h3,h4⟩:=F6 (a:=a.put o.dst v) hQ (DC.put _ _); refine ⟨max n n1,x,e',step ?_,h2,by rw [h3,AJ.BZ],h4⟩; simp only [UN (Nat.le_max_right n n1) hy]; exact BY _ _ (up (Nat.le_max_left _ _) h1)
    | panicked ch =>
     refine ⟨n1,(.panic ch,a,W2),e1,step ?_,by rw [DC.2]; exact DC,rfl,by rw [DC.2]; exact hQ⟩; simp only [hy]; exact BY _ _ rfl
    | outgrown=>exact hQ.elim
   | recover=>exact Gs.elim
   | panic v=>exact ⟨0,(.panic [{ v,recovered:=false }],a,W1),e1,step rfl,by rw [DC.2]; exact DC,rfl,by rw [DC.2]; exact Gs⟩
theorem Z6 (ops:Array Oper) (a:AJ) (W:CW):∀ (n:Nat) (x:Operand),early P ops a W n x=UL P ops a.eval W n x
 | 0,x=>by cases x <;> rfl
 | n+1,x=>by
  cases x with
  | tmp t =>
   simp only [early,UL]; have:early P ops a W n=UL P ops a.eval W n:=funext fun x=>Z6 ops a W n x; rw [this]; rfl
  | _=>rfl
theorem Z7 (ops:Array Oper) (a:AJ) (W:CW) (o:Oper):Tt P ops a W o=Qy P ops a.eval W o:=by
 unfold Tt Qy
 cases o.op <;> first | rfl | (funext x; exact Z6 ops a W 6 x)
theorem MP (ops:Array Oper) (a:AJ):∀ (is:List Nat) (W:CW),HG P ops a is W=Z5 P ops a.eval is W
 | [],W=>rfl
 | i::is,W=>by
  simp only [HG,Z5,Z7,MP ops a is]; rfl
theorem UO (o:Oper) (a:AJ) (v:Value) (ob:Option Av):On P o a v ob=UM P o a.eval v ob:=rfl
theorem Qz {ops:Array Oper} {i:Nat} {an:List Nat} {ok:CW→Bool} {okP:CW→Prop} (h:∀ W,okP W→ok W=true):∀ {ws:List (Nat × CW)} {W:CW},TF ops i an okP ws W→C' ops i an ok ws W=true
 | [],W,hw=>h W hw
 | (j,Wj)::before,W,hw=>by
  obtain ⟨h1,h2⟩:=hw; simp only [C',Bool.and_eq_true,Bool.or_eq_true]
  refine ⟨?_,?_⟩
  ·cases ha:uj ops j i with
   | true=>exact .inl rfl
   | false=>rw [ha] at h1; exact .inr (h W h1)
  ·cases hm:Bt an j with
   | true=>rfl
   | false=>rw [hm] at h2; exact Qz h h2
def O' (P:Program):List (Nat × (CW→Prop))→List (Nat × Oper × AJ × Value)→Prop
 | [],[]=>True
 | (i,ok)::rd,(i',o,a,v)::rd'=>(i=i'∧∀ W,ok W→BP P o a.eval W=some [(.value v,W)])∧O' P rd rd'
 | _,_=>False
theorem LF (x:Ending × CW):merged (some [x])=some [x]:=rfl
theorem EM {ops:Array Oper} {fl:List (Nat × Value × Option Av)} {K:Env→CW→List (Nat × CW)→List (Nat × (CW→Prop))→Prop}:∀ {rest:List Oper} {i:Nat} {sk:List Nat} {e:Env} {W:CW} {ws:List (Nat × CW)} {rd:List (Nat × (CW→Prop))} {a:AJ} {ds:List Deferred} {rd':List (Nat × Oper × AJ × Value)},
  YI P L ops fl i sk rest e W ws rd K→AE a e ds→O' P rd rd'→∃ n s e' IA,Dk P (C2 P L n) ops fl i rest ⟨a,W,ws,rd'⟩=some s∧AE s.a e' ds∧s.a.nt=a.nt∧O' P IA s.rd∧K e' s.W s.ws IA
 | [],i,sk,e,W,ws,rd,a,ds,rd',h,ha,hr=>⟨0,_,e,rd,rfl,ha,rfl,hr,h⟩
 | o::rest,i,sk,e,W,ws,rd,a,ds,rd',h,ha,hr=>by
  have up:∀ {n m:Nat} (hle:n≤m) {i:Nat} {s s':EJ},Dk P (C2 P L n) ops fl i rest s=some s'→Dk P (C2 P L m) ops fl i rest s=some s':=fun hle=>Hu (DY hle)
  have go:∀ {n:Nat} {s1 s:EJ},BU P (C2 P L n) ops fl i o ⟨a,W,ws,rd'⟩=some s1→Dk P (C2 P L n) ops fl (i+1) rest s1=some s→Dk P (C2 P L n) ops fl i (o::rest) ⟨a,W,ws,rd'⟩=some s:=by
   intro n s1 s h1 h2; simp only [Dk,h1]; exact h2
  simp only [YI] at h
  cases hf:fl.find? fun p=>Nat.beq p.1 i with
  | some y =>
   obtain ⟨i',v,ob⟩:=y; rw [hf] at h; obtain ⟨Lz,h⟩:=h; obtain ⟨n,s,e',IA,h1,h2,h3,h4,h5⟩:=EM h (ha.put o.dst v) hr; refine ⟨n,s,e',IA,go ?_ h1,h2,by rw [h3,AJ.BZ],h4,h5⟩; unfold BU; rw [hf]; simp only [UO,ha.eval,Lz,cond_true]
  | none =>
   rw [hf] at h; obtain ⟨e1,DC,h,GR⟩:=KH ha h
   have st:∀ {n:Nat},BU P (C2 P L n) ops fl i o ⟨a,W,ws,rd'⟩=(match Dj ops o a with
     | none=>none
     | some false=>some { (⟨a,W,ws,rd'⟩:EJ) with a:=a.put o.dst undef }
     | some true =>
      cond (C9 P o) (match BP P o a.eval W with
       | some [(.value v,_)]=>some { (⟨a,W,ws,rd'⟩:EJ) with a:=a.put o.dst v }
       | _=>none)
      (cond (DW P o) (match BP P o a.eval W with
       | some [(.value v,_)]=>some { (⟨a,W,ws,rd'⟩:EJ) with a:=a.put o.dst v,rd:=(i,o,a,v)::rd' }
       | _=>none)
      (match BP P o a.eval W with
      | some [(.value v,W1)]=>some { (⟨a,W,ws,rd'⟩:EJ) with a:=a.put o.dst v,W:=W1,ws:=(i,W)::ws }
      | some [(.skip,W1)]=>some { (⟨a,W,ws,rd'⟩:EJ) with a:=a.put o.dst undef,W:=W1,ws:=(i,W)::ws }
      | some [(.enter f args,W1)]=>match merged ((C2 P L n).call f args W1) with
       | some [(.returned v,W2)]=>some { (⟨a,W,ws,rd'⟩:EJ) with a:=a.put o.dst v,W:=W2,ws:=(i,W)::ws }
       | _=>none
      | some [(.round l args,W1)]=>match merged ((C2 P L n).round l args W1) with
       | some [(.returned v,W2)]=>some { (⟨a,W,ws,rd'⟩:EJ) with a:=a.put o.dst v,W:=W2,ws:=(i,W)::ws }
       | _=>none
      | _=>none))):=by
    intro n; unfold BU; rw [hf]; rfl
   cases hw:C5 ops o a with
   | false =>
    rw [hw] at h GR; simp only [cond_false] at h; obtain ⟨n,s,e',IA,h1,h2,h3,h4,h5⟩:=EM h (DC.put o.dst undef) hr; exact ⟨n,s,e',IA,go (by rw [st,GR]) h1,h2,by rw [h3,AJ.BZ],h4,h5⟩
   | true =>
    rw [hw] at h GR; simp only [cond_true] at h; have jF:=DC.eval
    cases hp:C9 P o with
    | true =>
     rw [hp] at h; simp only [cond_true] at h
     cases hx:jE P o e1.ev with
     | none=>rw [hx] at h; exact h.elim
     | some v =>
      rw [hx] at h; obtain ⟨n,s,e',IA,h1,h2,h3,h4,h5⟩:=EM h (DC.put o.dst v) hr; refine ⟨n,s,e',IA,go ?_ h1,h2,by rw [h3,AJ.BZ],h4,h5⟩; rw [st,GR]; simp only [hp,cond_true,UK hp,jF,hx,vL]
    | false =>
     rw [hp] at h; simp only [cond_false] at h
     cases Jy:DW P o with
     | true =>
      rw [Jy] at h; simp only [cond_true] at h
      cases hx:cl P o e1.ev W with
      | none=>rw [hx] at h; exact h.elim
      | some v =>
       rw [hx] at h; obtain ⟨n,s,e',IA,h1,h2,h3,h4,h5⟩:=EM (rd':=(i,o,a,v)::rd') h (DC.put o.dst v) ⟨⟨rfl,fun W' p6=>by rw [MO Jy,jF,p6]; rfl⟩,hr⟩; refine ⟨n,s,e',IA,go ?_ h1,h2,by rw [h3,AJ.BZ],h4,h5⟩; rw [st,GR]; simp only [hp,Jy,cond_true,cond_false,MO Jy,jF,hx,vL]
     | false =>
      rw [Jy] at h; simp only [cond_false] at h; obtain ⟨p,Hv,Gs⟩:=QZ h; obtain ⟨nx,W1⟩:=p; rw [←jF] at Hv
      cases nx with
      | value v =>
       obtain ⟨n,s,e',IA,h1,h2,h3,h4,h5⟩:=EM (a:=a.put o.dst v) Gs (DC.put o.dst v) hr; refine ⟨n,s,e',IA,go ?_ h1,h2,by rw [h3,AJ.BZ],h4,h5⟩; rw [st,GR]; simp only [hp,Jy,cond_false,Hv]
      | skip =>
       obtain ⟨n,s,e',IA,h1,h2,h3,h4,h5⟩:=EM (a:=a.put o.dst undef) Gs (DC.put o.dst undef) hr; refine ⟨n,s,e',IA,go ?_ h1,h2,by rw [h3,AJ.BZ],h4,h5⟩; rw [st,GR]; simp only [hp,Jy,cond_false,Hv]
      | enter f args =>
       obtain ⟨n1,y,hy,hQ⟩:=Gs; obtain ⟨en,W2⟩:=y
       cases en with
       | returned v =>
        obtain ⟨n,s,e',IA,h1,h2,h3,h4,h5⟩:=EM (a:=a.put o.dst v) hQ (DC.put o.dst v) hr; refine ⟨max n n1,s,e',IA,go ?_ (up (Nat.le_max_left _ _) h1),h2,by rw [h3,AJ.BZ],h4,h5⟩; rw [st,GR]; simp only [hp,Jy,cond_false,Hv,YJ (Nat.le_max_right n n1) hy,LF]
       | panicked ch=>exact hQ.elim
       | outgrown=>exact hQ.elim
      | round l args =>
       obtain ⟨n1,y,hy,hQ⟩:=Gs; obtain ⟨en,W2⟩:=y
       cases en with
       | returned v =>
        obtain ⟨n,s,e',IA,h1,h2,h3,h4,h5⟩:=EM (a:=a.put o.dst v) hQ (DC.put o.dst v) hr; refine ⟨max n n1,s,e',IA,go ?_ (up (Nat.le_max_left _ _) h1),h2,by rw [h3,AJ.BZ],h4,h5⟩; rw [st,GR]; simp only [hp,Jy,cond_false,Hv,UN (Nat.le_max_right n n1) hy,LF]
       | panicked ch=>exact hQ.elim
       | outgrown=>exact hQ.elim
      | defer d=>exact Gs.elim
      | recover=>exact Gs.elim
      | panic v=>exact Gs.elim
theorem mg {n:Nat} (v:Value):(C2 P L n).eqv v v=true:=by
 have:(C2 P L n).eqv=fun u v=>@decide (u=v) (Classical.propDecidable _):=by
  unfold C2
  induction n with
  | zero=>rfl
  | succ n ih=>exact ih
 rw [this]; exact @decide_eq_true _ (Classical.propDecidable _) rfl
theorem M1 {n:Nat} {ops:Array Oper} {ws:List (Nat × CW)} {W:CW}:∀ {rd:List (Nat × (CW→Prop))} {rd':List (Nat × Oper × AJ × Value)},OD ops ws W rd→O' P rd rd' →
  (rd'.all fun (i,o,a,v)=>C' ops i (FW ops i) (fun W=>match BP P o a.eval W with | some [(.value u,_)]=>(C2 P L n).eqv u v | _=>false) ws W)=true
 | [],[],_,_=>rfl
 | (i,ok)::rd,(i',o,a,v)::rd',h,hr=>by
  obtain ⟨⟨rfl,h1⟩,hr⟩:=hr; simp only [List.all_cons,Bool.and_eq_true]; refine ⟨Qz (fun W hW=>?_) h.1,M1 h.2 hr⟩; rw [h1 W hW]; exact mg v
 | [],_::_,_,h=>h.elim
 | _::_,[],_,h=>h.elim
theorem UP {ops:Array Oper} {ws:List (Nat × CW)} {W:CW}:∀ {fl:List (Nat × Value × Option Av)},ga ops ws W fl→(fl.all fun (i,v,ob)=>C' ops i (FW ops i) (fun W=>match v with | .pointer (some b)=>CM (W.obj b.block) ob | .map (some b)=>CM (W.obj b) ob | .slice (some b) _ _=>CM (W.obj b.block) ob | _=>false) ws W)=true
 | [],_=>rfl
 | (i,v,ob)::fl,h=>by
  simp only [List.all_cons,Bool.and_eq_true]; exact ⟨Qz (fun W hW=>hW) h.1,UP h.2⟩
theorem Z8 {ops:Array Oper} {a:AJ} {e:Env} {ds:List Deferred} {W:CW} {K:Env→CW→Prop} (h:mf P L ops e W K) (ha:AE a e ds) :
  ∃ n a' W' e',HT P (C2 P L n) ops a W=some [(.normal,a',W')]∧AE a' e' ds∧a'.nt=a.nt∧K e' W':=by
 unfold mf at h; rw [←ha.eval,←MP] at h
 split at h
 ·rename_i fl W1 Bj; obtain ⟨n,s,e',IA,h1,h2,h3,h4,h5,h6,h7⟩:=EM (ds:=ds) (rd':=[]) h ha trivial; refine ⟨n,s.a,s.W,e',?_,h2,h3,h7⟩; unfold HT; rw [Bj]; simp only [h1]; have e1:=M1 (L:=L) (n:=n) h5 h4; have e2:=UP h6
  show cond (s.rd.all fun (i,o,a,v)=>C' ops i (FW ops i) (fun W=>match BP P o a.eval W with | some [(.value u,_)]=>(C2 P L n).eqv u v | _=>false) s.ws s.W)
   (cond (fl.all fun (i,v,ob)=>C' ops i (FW ops i) (fun W=>match v with | .pointer (some b)=>CM (W.obj b.block) ob | .map (some b)=>CM (W.obj b) ob | .slice (some b) _ _=>CM (W.obj b.block) ob | _=>false) s.ws s.W)
    (some [(Exit.normal,s.a,s.W)]) none) none=_
  rw [e1,e2]; rfl
 ·exact h.elim
theorem JL {ops:Array Oper} {fl:List (Nat × Value × Option Av)} {i:Nat} {o:Oper} {a:AJ} {W:CW} {ws:List (Nat × CW)} {rd':List (Nat × Oper × AJ × Value)} {R:CL} (hf:(fl.find? fun p=>Nat.beq p.1 i)=none) (GR:Dj ops o a=some true):BU P R ops fl i o ⟨a,W,ws,rd'⟩=(
      cond (C9 P o) (match BP P o a.eval W with
       | some [(.value v,_)]=>some { (⟨a,W,ws,rd'⟩:EJ) with a:=a.put o.dst v }
       | _=>none)
      (cond (DW P o) (match BP P o a.eval W with
       | some [(.value v,_)]=>some { (⟨a,W,ws,rd'⟩:EJ) with a:=a.put o.dst v,rd:=(i,o,a,v)::rd' }
       | _=>none)
      (match BP P o a.eval W with
      | some [(.value v,W1)]=>some { (⟨a,W,ws,rd'⟩:EJ) with a:=a.put o.dst v,W:=W1,ws:=(i,W)::ws }
      | some [(.skip,W1)]=>some { (⟨a,W,ws,rd'⟩:EJ) with a:=a.put o.dst undef,W:=W1,ws:=(i,W)::ws }
      | some [(.enter f args,W1)]=>match merged (R.call f args W1) with
       | some [(.returned v,W2)]=>some { (⟨a,W,ws,rd'⟩:EJ) with a:=a.put o.dst v,W:=W2,ws:=(i,W)::ws }
       | _=>none
      | some [(.round l args,W1)]=>match merged (R.round l args W1) with
       | some [(.returned v,W2)]=>some { (⟨a,W,ws,rd'⟩:EJ) with a:=a.put o.dst v,W:=W2,ws:=(i,W)::ws }
       | _=>none
      | _=>none))):=by
 unfold BU; rw [hf]; simp only [GR]; rfl
theorem HK {ops:Array Oper} {i0:Nat} {R:CL} {K:List (Nat × (CW→Prop))→Prop}:∀ {rest:List Oper} {i:Nat} {sk:List Nat} {e:Env} {W:CW} {ws:List (Nat × CW)} {rd:List (Nat × (CW→Prop))} {a:AJ} {ds:List Deferred} {rd':List (Nat × Oper × AJ × Value)},
  SO P ops i0 i sk rest e W rd K→AE a e ds→O' P rd rd'→∃ s IA,CX (Gv P R ops [] i0) i rest ⟨a,W,ws,rd'⟩=some s∧s.W=W∧s.ws=ws∧O' P IA s.rd∧K IA
 | [],i,sk,e,W,ws,rd,a,ds,rd',h,ha,hr=>⟨_,rd,rfl,rfl,rfl,hr,h⟩
 | o::rest,i,sk,e,W,ws,rd,a,ds,rd',h,ha,hr=>by
  simp only [SO] at h
  have go:∀ {s1 s:EJ},Gv P R ops [] i0 i o ⟨a,W,ws,rd'⟩=some s1→CX (Gv P R ops [] i0) (i+1) rest s1=some s→CX (Gv P R ops [] i0) i (o::rest) ⟨a,W,ws,rd'⟩=some s:=by
   intro s1 s h1 h2; simp only [CX,h1]; exact h2
  cases hn:Lr ops i0 i with
  | true =>
   rw [hn] at h; obtain ⟨s,IA,h1,h2,h3,h4,h5⟩:=HK (ws:=ws) (rd':=rd') h (ha.put o.dst undef) hr; exact ⟨s,IA,go (by unfold Gv; rw [hn]; rfl) h1,h2,h3,h4,h5⟩
  | false =>
   rw [hn] at h; simp only [cond_false] at h; have hN:Gv P R ops [] i0 i o ⟨a,W,ws,rd'⟩=BU P R ops [] i o ⟨a,W,ws,rd'⟩:=by unfold Gv; rw [hn]; rfl
   obtain ⟨e1,DC,h,GR⟩:=KH ha h
   cases hw:C5 ops o a with
   | false =>
    rw [hw] at h GR; simp only [cond_false] at h; obtain ⟨s,IA,h1,h2,h3,h4,h5⟩:=HK (ws:=ws) (rd':=rd') h (DC.put o.dst undef) hr; refine ⟨s,IA,go ?_ h1,h2,h3,h4,h5⟩; rw [hN]; unfold BU; simp only [List.find?_nil,GR]
   | true =>
    rw [hw] at h GR; simp only [cond_true] at h; have jF:=DC.eval
    cases hp:C9 P o with
    | true =>
     rw [hp] at h; simp only [cond_true] at h
     cases hx:jE P o e1.ev with
     | none=>rw [hx] at h; exact h.elim
     | some v =>
      rw [hx] at h; obtain ⟨s,IA,h1,h2,h3,h4,h5⟩:=HK (ws:=ws) (rd':=rd') h (DC.put o.dst v) hr; refine ⟨s,IA,go ?_ h1,h2,h3,h4,h5⟩; rw [hN,JL rfl GR]; simp only [hp,cond_true,UK hp,jF,hx,vL]
    | false =>
     rw [hp] at h; simp only [cond_false] at h
     cases Jy:DW P o with
     | true =>
      rw [Jy] at h; simp only [cond_true] at h
      cases hx:cl P o e1.ev W with
      | none=>rw [hx] at h; exact h.elim
      | some v =>
       rw [hx] at h; obtain ⟨s,IA,h1,h2,h3,h4,h5⟩:=HK (ws:=ws) (rd':=(i,o,a,v)::rd') h (DC.put o.dst v) ⟨⟨rfl,fun W' p6=>by rw [MO Jy,jF,p6]; rfl⟩,hr⟩; refine ⟨s,IA,go ?_ h1,h2,h3,h4,h5⟩; rw [hN,JL rfl GR]; simp only [hp,Jy,cond_true,cond_false,MO Jy,jF,hx,vL]
     | false=>rw [Jy] at h; exact h.elim
def ZA (P:Program) (L:List FuncId) (ops:Array Oper) (fl:List (Nat × Value × Option Av)) (KP:List PanicEntry→CW→Prop) (K:Env→CW→List (Nat × CW)→List (Nat × (CW→Prop))→Prop) (ds:List Deferred) (nt n i:Nat) (rest:List Oper) (s0:EJ):Prop :=
 (∃ s e' IA,Dk P (C2 P L n) ops fl i rest s0=some s∧AE s.a e' ds∧s.a.nt=nt∧O' P IA s.rd∧K e' s.W s.ws IA) ∨
 ∃ i0 ch W2 s IA,i≤i0∧Dl P (C2 P L n) ops fl i rest s0=some (i0,ch,W2)∧CX (Gv P (C2 P L n) ops fl i0) i rest s0=some s∧(fl.isEmpty && s.ws.all fun x=>Bt (FW ops i0) x.1)=true∧O' P IA s.rd∧OD ops s.ws s.W IA∧KP ch W2
theorem ZA.cons {ops:Array Oper} {fl:List (Nat × Value × Option Av)} {KP:List PanicEntry→CW→Prop} {K:Env→CW→List (Nat × CW)→List (Nat × (CW→Prop))→Prop} {ds:List Deferred} {nt n i:Nat} {o:Oper} {rest:List Oper} {s0 s1:EJ} (hs:BU P (C2 P L n) ops fl i o s0=some s1)
  (h:ZA P L ops fl KP K ds nt n (i+1) rest s1):ZA P L ops fl KP K ds nt n i (o::rest) s0:=by
 rcases h with ⟨s,e',IA,h1,h2⟩ | ⟨i0,ch,W2,s,IA,h0,h1,h2,h3⟩
 ·exact .inl ⟨s,e',IA,by simp only [Dk,hs]; exact h1,h2⟩
 ·refine .inr ⟨i0,ch,W2,s,IA,by omega,?_,?_,h3⟩
  ·simp only [Dl]
   cases hp:Dy P (C2 P L n) ops fl i o s0 with
   | some y=>have:=LD hp; rw [hs] at this; cases this
   | none=>simp only [hs]; exact h1
  ·simp only [CX,Gv,gE (show i<i0 by omega),cond_false,hs]; exact h2
theorem ZA.up {ops:Array Oper} {fl:List (Nat × Value × Option Av)} {KP:List PanicEntry→CW→Prop} {K:Env→CW→List (Nat × CW)→List (Nat × (CW→Prop))→Prop} {ds:List Deferred} {nt n m i:Nat} {rest:List Oper} {s0:EJ} (hle:n≤m) (h:ZA P L ops fl KP K ds nt n i rest s0):ZA P L ops fl KP K ds nt m i rest s0:=by
 rcases h with ⟨s,e',IA,h1,h2⟩ | ⟨i0,ch,W2,s,IA,h0,h1,h2,h3⟩
 ·exact .inl ⟨s,e',IA,Hu (DY hle) h1,h2⟩
 ·exact .inr ⟨i0,ch,W2,s,IA,h0,Jh (DY hle) h1,Jj (UG (DY hle)) h2,h3⟩
theorem Dp {ops:Array Oper} {fl:List (Nat × Value × Option Av)} {KP:List PanicEntry→CW→Prop} {K:Env→CW→List (Nat × CW)→List (Nat × (CW→Prop))→Prop}:∀ {rest:List Oper} {i:Nat} {sk:List Nat} {e:Env} {W:CW} {ws:List (Nat × CW)} {rd:List (Nat × (CW→Prop))} {a:AJ} {ds:List Deferred} {rd':List (Nat × Oper × AJ × Value)},
  O9 P L ops fl KP i sk rest e W ws rd K→AE a e ds→O' P rd rd'→∃ n,ZA P L ops fl KP K ds a.nt n i rest ⟨a,W,ws,rd'⟩
 | [],i,sk,e,W,ws,rd,a,ds,rd',h,ha,hr=>⟨0,.inl ⟨_,e,rd,rfl,ha,rfl,hr,h⟩⟩
 | o::rest,i,sk,e,W,ws,rd,a,ds,rd',h,ha,hr=>by
  have nt:∀ {n:Nat} {d:Option Tmp} {v:Value} {s1:EJ},ZA P L ops fl KP K ds (a.put d v).nt n (i+1) rest s1→ZA P L ops fl KP K ds a.nt n (i+1) rest s1:=by
   intro n d v s1 hh
   rwa [AJ.BZ] at hh
  simp only [O9] at h
  cases hf:fl.find? fun p=>Nat.beq p.1 i with
  | some y =>
   obtain ⟨i',v,ob⟩:=y; rw [hf] at h; obtain ⟨Lz,h⟩:=h; obtain ⟨n,hn⟩:=Dp (rd':=rd') h (ha.put o.dst v) hr; refine ⟨n,ZA.cons (s1:={ (⟨a,W,ws,rd'⟩:EJ) with a:=a.put o.dst v }) ?_ (nt hn)⟩; unfold BU; rw [hf]; simp only [UO,ha.eval,Lz,cond_true]
  | none =>
   rw [hf] at h; obtain ⟨e1,DC,h,GR⟩:=KH ha h
   cases hw:C5 ops o a with
   | false =>
    rw [hw] at h GR; simp only [cond_false] at h; obtain ⟨n,hn⟩:=Dp (rd':=rd') h (DC.put o.dst undef) hr; refine ⟨n,ZA.cons (s1:={ (⟨a,W,ws,rd'⟩:EJ) with a:=a.put o.dst undef }) ?_ (nt hn)⟩; unfold BU; rw [hf]; simp only [GR]
   | true =>
    rw [hw] at h GR; simp only [cond_true] at h; have jF:=DC.eval
    cases hp:C9 P o with
    | true =>
     rw [hp] at h; simp only [cond_true] at h
     cases hx:jE P o e1.ev with
     | none=>rw [hx] at h; exact h.elim
     | some v =>
      rw [hx] at h; obtain ⟨n,hn⟩:=Dp (rd':=rd') h (DC.put o.dst v) hr; refine ⟨n,ZA.cons (s1:={ (⟨a,W,ws,rd'⟩:EJ) with a:=a.put o.dst v }) ?_ (nt hn)⟩; rw [JL hf GR]; simp only [hp,cond_true,UK hp,jF,hx,vL]
    | false =>
     rw [hp] at h; simp only [cond_false] at h
     cases Jy:DW P o with
     | true =>
      rw [Jy] at h; simp only [cond_true] at h
      cases hx:cl P o e1.ev W with
      | none=>rw [hx] at h; exact h.elim
      | some v =>
       rw [hx] at h; obtain ⟨n,hn⟩:=Dp (rd':=(i,o,a,v)::rd') h (DC.put o.dst v) ⟨⟨rfl,fun W' p6=>by rw [MO Jy,jF,p6]; rfl⟩,hr⟩; refine ⟨n,ZA.cons (s1:={ (⟨a,W,ws,rd'⟩:EJ) with a:=a.put o.dst v,rd:=(i,o,a,v)::rd' }) ?_ (nt hn)⟩; rw [JL hf GR]; simp only [hp,Jy,cond_true,cond_false,MO Jy,jF,hx,vL]
     | false =>
      rw [Jy] at h; simp only [cond_false] at h; obtain ⟨p,Hv,Gs⟩:=QZ h; obtain ⟨nx,W1⟩:=p; rw [←jF] at Hv
      have pan:∀ {ch:List PanicEntry} {W2:CW} {n1:Nat},Dy P (C2 P L n1) ops fl i o ⟨a,W,ws,rd'⟩=some (ch,W2)→cond (YH o && fl.isEmpty && ws.all fun x=>Bt (FW ops i) x.1) (SO P ops i (i+1) sk rest (e1.put o.dst undef) W rd fun rd=>OD ops ws W rd∧KP ch W2) False→∃ n,ZA P L ops fl KP K ds a.nt n i (o::rest) ⟨a,W,ws,rd'⟩:=by
       intro ch W2 n1 Gr hc; rw [cond_eq_ite] at hc; split at hc
       rotate_left
       ·exact hc.elim
       rename_i Lz; simp only [Bool.and_eq_true] at Lz; have KA:fl=[]:=by simpa using Lz.1.2
       subst KA; obtain ⟨s,IA,h1,h2,h3,h4,h5,h6⟩:=HK (R:=C2 P L n1) (ws:=ws) (rd':=rd') hc (DC.put o.dst undef) hr
       refine ⟨n1,.inr ⟨i,ch,W2,s,IA,Nat.le_refl _,by simp only [Dl,Gr],?_,?_,h4,by rw [h2,h3]; exact h5,h6⟩⟩
       ·have AAm:Lr ops i i=true:=by unfold Lr; simp
        simp only [CX,Gv,AAm,cond_true]; exact h1
       ·rw [h3]; simp only [Lz.2,Bool.and_true]; rfl
      cases nx with
      | value v =>
       obtain ⟨n,hn⟩:=Dp (rd':=rd') (a:=a.put o.dst v) Gs (DC.put o.dst v) hr; refine ⟨n,ZA.cons (s1:={ (⟨a,W,ws,rd'⟩:EJ) with a:=a.put o.dst v,W:=W1,ws:=(i,W)::ws }) ?_ (nt hn)⟩; rw [JL hf GR]; simp only [hp,Jy,cond_false,Hv]
      | skip =>
       obtain ⟨n,hn⟩:=Dp (rd':=rd') (a:=a.put o.dst undef) Gs (DC.put o.dst undef) hr; refine ⟨n,ZA.cons (s1:={ (⟨a,W,ws,rd'⟩:EJ) with a:=a.put o.dst undef,W:=W1,ws:=(i,W)::ws }) ?_ (nt hn)⟩; rw [JL hf GR]; simp only [hp,Jy,cond_false,Hv]
      | enter f args =>
       obtain ⟨n1,y,hy,hQ⟩:=Gs; obtain ⟨en,W2⟩:=y
       cases en with
       | returned v =>
        obtain ⟨n,hn⟩:=Dp (rd':=rd') (a:=a.put o.dst v) hQ (DC.put o.dst v) hr; refine ⟨max n n1,ZA.cons (s1:={ (⟨a,W,ws,rd'⟩:EJ) with a:=a.put o.dst v,W:=W2,ws:=(i,W)::ws }) ?_ ((nt hn).up (Nat.le_max_left _ _))⟩; rw [JL hf GR]; simp only [hp,Jy,cond_false,Hv,YJ (Nat.le_max_right n n1) hy,LF]
       | panicked ch =>
        refine pan (n1:=n1) ?_ hQ; unfold Dy; rw [hf]; simp only [GR,hp,Jy,cond_false,Hv,hy]
       | outgrown=>exact hQ.elim
      | round l args =>
       obtain ⟨n1,y,hy,hQ⟩:=Gs; obtain ⟨en,W2⟩:=y
       cases en with
       | returned v =>
        obtain ⟨n,hn⟩:=Dp (rd':=rd') (a:=a.put o.dst v) hQ (DC.put o.dst v) hr; refine ⟨max n n1,ZA.cons (s1:={ (⟨a,W,ws,rd'⟩:EJ) with a:=a.put o.dst v,W:=W2,ws:=(i,W)::ws }) ?_ ((nt hn).up (Nat.le_max_left _ _))⟩; rw [JL hf GR]; simp only [hp,Jy,cond_false,Hv,UN (Nat.le_max_right n n1) hy,LF]
       | panicked ch =>
        refine pan (n1:=n1) ?_ hQ; unfold Dy; rw [hf]; simp only [GR,hp,Jy,cond_false,Hv,hy]
       | outgrown=>exact hQ.elim
      | defer d=>exact Gs.elim
      | recover=>exact Gs.elim
      | panic v =>
       exfalso
       have Ho:YH o=false:=by
        unfold YH
        split
        ·rename_i c hc
         split
         ·rename_i f hcf
          exfalso
          simp only [BP,hc,hcf] at Hv
          split at Hv
          ·split at Hv
           ·cases Hv
           ·cases Hv
          ·rename_i EY
           cases Hv
           unfold Hm at EY; split at EY <;> cases EY
          ·cases Hv
         ·rfl
        ·rfl
       rw [Ho] at Gs; exact Gs
theorem YK {ops:Array Oper} {a:AJ} {e:Env} {ds:List Deferred} {W:CW} {K:Env→CW→Prop} {KP:List PanicEntry→CW→Prop} (h:dz P L ops e W K KP) (ha:AE a e ds) :
  ∃ n,(∃ a' W' e',HT P (C2 P L n) ops a W=some [(.normal,a',W')]∧AE a' e' ds∧a'.nt=a.nt∧K e' W')∨∃ ch W',HT P (C2 P L n) ops a W=some [(.panic ch,a.bad,W')]∧KP ch W':=by
 unfold dz at h; rw [←ha.eval,←MP] at h
 split at h
 ·rename_i fl W1 Bj; obtain ⟨n,hn⟩:=Dp (ds:=ds) (rd':=[]) h ha trivial; refine ⟨n,?_⟩
  rcases hn with ⟨s,e',IA,h1,h2,h3,h4,h5,h6,h7⟩ | ⟨i0,ch,W2,s,IA,h0,h1,h2,h3,h4,h5,h6⟩
  ·refine .inl ⟨s.a,s.W,e',?_,h2,h3,h7⟩; unfold HT; rw [Bj]; simp only [h1]; have e1:=M1 (L:=L) (n:=n) h5 h4; have e2:=UP h6
   show cond (s.rd.all fun (i,o,a,v)=>C' ops i (FW ops i) (fun W=>match BP P o a.eval W with | some [(.value u,_)]=>(C2 P L n).eqv u v | _=>false) s.ws s.W)
    (cond (fl.all fun (i,v,ob)=>C' ops i (FW ops i) (fun W=>match v with | .pointer (some b)=>CM (W.obj b.block) ob | .map (some b)=>CM (W.obj b) ob | .slice (some b) _ _=>CM (W.obj b.block) ob | _=>false) s.ws s.W)
     (some [(Exit.normal,s.a,s.W)]) none) none=_
   rw [e1,e2]; rfl
  ·refine .inr ⟨ch,W2,?_,h6⟩; unfold HT; rw [Bj]; simp only [Ji h1,h1,h2,h3,cond_true]; have e1:=M1 (L:=L) (n:=n) h5 h4; show cond (s.rd.all fun (i,o,a,v)=>C' ops i (FW ops i) (fun W=>match BP P o a.eval W with | some [(.value u,_)]=>(C2 P L n).eqv u v | _=>false) s.ws s.W) (some [(Exit.panic ch,a.bad,W2)]) none=_; rw [e1]; rfl
 ·exact h.elim
end
end Go.Ce
namespace Go.Ce
section
variable {P:Program} {L:List FuncId}
theorem GU (n:Nat):C2 P L (n+1)=CD P L (C2 P L n):=rfl
theorem EO {α β:Type} {x:α} {f:α→Option (List β)} {y:List β} (h:f x=some y):CI (some [x]) f=some y:=BY x f h
theorem E8 {ro:Option Nat} {fn:FuncId} {nt:Nat}:∀ {c:Code} {e:Env} {ds:List Deferred} {W:CW} {K:Exit→Env→List Deferred→CW→Prop},AK P L ro fn nt c e ds W K→C6 P L ro fn nt c e ds W K:=by
 intro c
 induction c with
 | skip =>
  intro e ds W K h a ha hn; exact ⟨1,(.normal,a,W),rfl,e,by rw [ha.2]; exact ha,hn,by rw [ha.2]; exact h⟩
 | label id =>
  intro e ds W K h a ha hn; exact ⟨1,(.normal,a,W),rfl,e,by rw [ha.2]; exact ha,hn,by rw [ha.2]; exact h⟩
 | exit id =>
  intro e ds W K h a ha hn; exact ⟨1,(.exit id,a,W),rfl,e,by rw [ha.2]; exact ha,hn,by rw [ha.2]; exact h⟩
 | ret =>
  intro e ds W K h a ha hn; exact ⟨1,(.ret,a,W),rfl,e,by rw [ha.2]; exact ha,hn,by rw [ha.2]; exact h⟩
 | region id ops d =>
  intro e ds W K h a ha hn
  cases d with
  | false =>
   obtain ⟨n,o,e',h1,h2,h3,h4⟩:=F6 h ha; exact ⟨n+1,o,h1,e',h2,by rw [h3,hn],h4⟩
  | true =>
   simp only [AK] at h
   cases hm:Bt L (fn+1500000) with
   | false =>
    rw [hm] at h; obtain ⟨n,a',W',e',h1,h2,h3,h4⟩:=Z8 h ha; exact ⟨n+1,(.normal,a',W'),h1,e',by rw [h2.2]; exact h2,by rw [←hn]; exact h3,by rw [h2.2]; exact h4⟩
   | true =>
    rw [hm] at h
    obtain ⟨n,⟨a',W',e',h1,h2,h3,h4⟩ | ⟨ch,W',h1,h4⟩⟩:=YK h ha
    ·exact ⟨n+1,(.normal,a',W'),h1,e',by rw [h2.2]; exact h2,by rw [←hn]; exact h3,by rw [h2.2]; exact h4⟩
    ·refine ⟨n+1,(.panic ch,a.bad,W'),h1,Env.bad,⟨fun t=>?_,rfl⟩,hn,by show K (.panic ch) Env.bad a.defers W'; rw [ha.2]; exact h4⟩; show (AJ.bad a).at t=Env.bad t; unfold AJ.bad AJ.at Env.bad; simp only [Tr.Bi,Tr.get_nil,cond_eq_ite,Nat.beq_eq]; split <;> rfl
 | seq x y Xk Xl =>
  intro e ds W K h a ha hn; obtain ⟨n,⟨x1,a1,W1⟩,h1,e1,h2,h3,h4⟩:=Xk h a ha hn
  cases x1 with
  | normal =>
   obtain ⟨m,o,h5,h6⟩:=Xl h4 a1 h2 h3; refine ⟨max n m+1,o,?_,h6⟩; show HH ((C2 P L (max n m)).code ro fn x a W) ((C2 P L (max n m)).code ro fn y)=some [o]; rw [Fw (Nat.le_max_left n m) h1]; exact EO (Fw (Nat.le_max_right n m) h5)
  | _ =>
   refine ⟨n+1,_,?_,e1,h2,h3,h4⟩; show HH ((C2 P L n).code ro fn x a W) ((C2 P L n).code ro fn y)=_; rw [h1]; exact EO rfl
 | cond c x y Xk Xl =>
  intro e ds W K h a ha hn; obtain ⟨b,hb,h⟩:=du h; have hc:a.eval c=.bool b:=by rw [ha.eval]; exact hb
  cases b with
  | true =>
   obtain ⟨n,o,h1,h2⟩:=Xk h a ha hn; refine ⟨n+1,o,?_,h2⟩; show (match a.eval c with | .bool b=>(C2 P L n).code ro fn (cond b x y) a W | _=>none)=_; rw [hc]; exact h1
  | false =>
   obtain ⟨n,o,h1,h2⟩:=Xl h a ha hn; refine ⟨n+1,o,?_,h2⟩; show (match a.eval c with | .bool b=>(C2 P L n).code ro fn (cond b x y) a W | _=>none)=_; rw [hc]; exact h1
 | block id b ih =>
  intro e ds W K h a ha hn; obtain ⟨n,⟨x1,a1,W1⟩,h1,e1,h2,h3,h4⟩:=ih h a ha hn
  have key:∀ {r:Exit × AJ × CW} {f:Exit × AJ × CW→K4},(∀ e a W,f (e,a,W)=match e with
    | .exit R8=>cond (Nat.beq R8 id) (some [(.normal,a,W)]) (some [(.exit R8,a,W)])
    | e=>some [(e,a,W)])→f (x1,a1,W1)=some [r]→(C2 P L (n+1)).code ro fn (.block id b) a W=some [r]:=by
   intro r f hf hr
   show (CI ((C2 P L n).code ro fn b a W) fun (e,a,W)=>match e with
    | .exit R8=>cond (Nat.beq R8 id) (some [(.normal,a,W)]) (some [(.exit R8,a,W)])
    | e=>some [(e,a,W)])=_
   rw [h1]; refine EO ?_; rw [←hr,hf]
  cases x1 with
  | exit R8 =>
   cases hq:Nat.beq R8 id with
   | true =>
    simp only [Bm,hq,cond_true] at h4
    exact ⟨n+1,(.normal,a1,W1),key (f:=fun (e,a,W)=>match e with
     | .exit R8=>cond (Nat.beq R8 id) (some [(.normal,a,W)]) (some [(.exit R8,a,W)])
     | e=>some [(e,a,W)]) (fun e a W=>by cases e <;> rfl) (by simp only [hq,cond_true]),e1,h2,h3,h4⟩
   | false =>
    simp only [Bm,hq,cond_false] at h4
    exact ⟨n+1,(.exit R8,a1,W1),key (f:=fun (e,a,W)=>match e with
     | .exit R8=>cond (Nat.beq R8 id) (some [(.normal,a,W)]) (some [(.exit R8,a,W)])
     | e=>some [(e,a,W)]) (fun e a W=>by cases e <;> rfl) (by simp only [hq,cond_false]),e1,h2,h3,h4⟩
  | _=>exact ⟨n+1,_,key (f:=fun (e,a,W)=>match e with
     | .exit R8=>cond (Nat.beq R8 id) (some [(.normal,a,W)]) (some [(.exit R8,a,W)])
     | e=>some [(e,a,W)]) (fun e a W=>by cases e <;> rfl) rfl,e1,h2,h3,h4⟩
 | scope b ih =>
  intro e ds W K h a ha hn; obtain ⟨n,o,h1,h2⟩:=ih h a ha hn; exact ⟨n+1,o,h1,h2⟩
 | _=>intro e ds W K h; exact h
theorem AAn {ro:Option Nat} {fn:FuncId} {nt:Nat} {b:Code} {K:Exit→Env→List Deferred→CW→Prop} (Inv:Nat→Env→List Deferred→CW→Prop)
  (Lk:∀ k e ds W,Inv k e ds W→AK P L ro fn nt b e ds W fun x e' DN W'=>match x with
   | .normal=>∃ k',k'<k∧Inv k' e' DN W'
   | x=>K x e' DN W'):∀ k e ds W,Inv k e ds W→C6 P L ro fn nt (.loop b) e ds W K:=by
 intro k
 induction k using Nat.strongRecOn with
 | ind k ih =>
  intro e ds W hi a ha hn; obtain ⟨n,⟨x1,a1,W1⟩,h1,e1,h2,h3,h4⟩:=E8 (Lk k e ds W hi) a ha hn
  cases x1 with
  | normal =>
   obtain ⟨k',hk,IJ⟩:=h4; obtain ⟨m,o,h5,h6⟩:=ih k' hk e1 a1.defers W1 IJ a1 h2 h3; refine ⟨max n m+1,o,?_,h6⟩; show HH ((C2 P L (max n m)).code ro fn b a W) ((C2 P L (max n m)).code ro fn (.loop b))=some [o]; rw [Fw (Nat.le_max_left n m) h1]; exact EO (Fw (Nat.le_max_right n m) h5)
  | _ =>
   refine ⟨n+1,_,?_,e1,h2,h3,h4⟩; show HH ((C2 P L n).code ro fn b a W) ((C2 P L n).code ro fn (.loop b))=_; rw [h1]; exact EO rfl
def Env.args (args:List Value):Env:=fun t=>match args[t]? with
 | some v=>v
 | none=>undef
theorem UQ (fn:Func) (args:List Value):AE (GO fn args) (Env.args args) []:=by
 refine ⟨fun t=>?_,rfl⟩; unfold GO AJ.at Env.args; simp only [Tr.JE,Nat.zero_le,true_and,Nat.zero_add,Nat.sub_zero,Tr.get_nil]
 by_cases h:t<args.length
 ·rw [if_pos h,List.getElem?_eq_getElem h]; rfl
 ·rw [if_neg h,List.getElem?_eq_none (by omega)]; rfl
def jG (P:Program) (r:ResultVar) (e:Env) (W:CW):Option Value:=match r with
 | .tmp t=>some (e t)
 | .cell s ty=>match e s with
  | .pointer (some p)=>JB P ty p W
  | _=>none
def IQ (P:Program):List ResultVar→Env→CW→Option (List Value)
 | [],_,_=>some []
 | r::rs,e,W=>match jG P r e W with
  | some v=>match IQ P rs e W with
   | some vs=>some (v::vs)
   | none=>none
  | none=>none
def CB (P:Program) (rs:List ResultVar) (e:Env) (W:CW):Option Value:=match IQ P rs e W with
 | some [v]=>some v
 | some vs=>some (.tuple vs.toArray)
 | none=>none
theorem get_at {a:AJ} {e:Env} {ds:List Deferred} (h:AE a e ds) (t:Tmp):(match a.t.get t with | some v=>v | none=>undef)=e t:=by
 rw [←h.1 t]; unfold AJ.at
 cases a.t.get t <;> rfl
theorem qw {a:AJ} {e:Env} {ds:List Deferred} (h:AE a e ds) {t:Tmp} {p:Addr} (hp:e t=.pointer (some p)):a.t.get t=some (.pointer (some p)):=by
 have:=h.1 t; rw [hp] at this; unfold AJ.at at this
 cases hg:a.t.get t with
 | none=>rw [hg] at this; cases this
 | some v=>rw [hg] at this; exact congrArg some this
theorem UR {a:AJ} {e:Env} {ds:List Deferred} (ha:AE a e ds) {W:CW}:∀ {rs:List ResultVar} {vs:List Value},IQ P rs e W=some vs→rs.mapM (G9 P a W)=some vs
 | [],vs,h=>by simpa [IQ] using h
 | r::rs,vs,h=>by
  simp only [IQ] at h
  split at h
  ·rename_i v hv
   split at h
   ·rename_i vs' hvs
    cases h
    have h1:G9 P a W r=some v:=by
     unfold jG at hv; unfold G9
     split at hv
     ·rename_i t; show some (match a.t.get t with | some v=>v | none=>undef)=some v; rw [get_at ha]; exact hv
     ·rename_i s ty
      split at hv
      ·rename_i p hp; show (match a.t.get s with | some (.pointer (some p))=>JB P ty p W | _=>none)=some v; rw [qw ha hp]; exact hv
      ·cases hv
    simp only [List.mapM_cons,h1,UR ha hvs]; rfl
   ·cases h
  ·cases h
theorem OE {fn:Func} {a:AJ} {e:Env} {ds:List Deferred} (ha:AE a e ds) {W:CW} {v:Value} (h:CB P fn.results.toList e W=some v):Fl P fn a W=some v:=by
 unfold CB at h; unfold Fl
 cases hr:IQ P fn.results.toList e W with
 | none=>rw [hr] at h; cases h
 | some vs =>
  rw [hr] at h; rw [UR ha hr]
  match vs,h with
  | [],h=>exact h
  | [v],h=>exact h
  | _::_::_,h=>exact h
def AI (P:Program) (fn:Func) (Q:Ending→CW→Prop) (x:Exit) (e:Env):List Deferred→CW→Prop
 | [],W=>match x with
  | .normal=>wV (CB P fn.results.toList e W) fun v=>Q (.returned v) W
  | .ret=>wV (CB P fn.results.toList e W) fun v=>Q (.returned v) W
  | .panic ch=>Q (.panicked ch) W
  | _=>False
 | d::ds,W=>match d.target with
  | .collected r=>W.obj r=some .deferred∧AI P fn Q x e ds (W.A5 r .dead)
  | _=>False
def behind (P:Program) (R:CL) (fn:Func) (x:Exit) (a:AJ) (W:CW):Ends:=match x with
 | .normal=>leaves P R fn a a.defers .returning W
 | .ret=>leaves P R fn a a.defers .returning W
 | .panic ch=>cond a.Lh (Fu a.defers ch W) (leaves P R fn a a.defers (.panicking ch) W)
 | _=>none
theorem US {fn:Func} {e:Env} {Q:Ending→CW→Prop} {ch:List PanicEntry}:∀ (ds:List Deferred) (W:CW),AI P fn Q (.panic ch) e ds W→∃ o:Ending × CW,Fu ds ch W=some [o]∧Q o.1 o.2
 | [],W,h=>⟨(.panicked ch,W),rfl,h⟩
 | d::ds,W,h=>by
  obtain ⟨tg,vk⟩:=d
  cases tg with
  | collected r =>
   obtain ⟨ho,h⟩:=h; obtain ⟨o,h1,h2⟩:=US ds (W.A5 r .dead) h; exact ⟨o,by simp only [Fu,ho]; exact h1,h2⟩
  | _=>exact h.elim
theorem Q0 {fn:Func} {a:AJ} {e:Env} {Q:Ending→CW→Prop} {R:CL} (ha:AE a e a.defers) (x:Exit):∀ (ds:List Deferred) (W:CW),AI P fn Q x e ds W→∃ o:Ending × CW,(match x with
  | .normal=>leaves P R fn a ds .returning W
  | .ret=>leaves P R fn a ds .returning W
  | .panic ch=>leaves P R fn a ds (.panicking ch) W
  | _=>none)=some [o]∧Q o.1 o.2
 | [],W,h=>by
  have fin:wV (CB P fn.results.toList e W) (fun v=>Q (.returned v) W)→∃ o:Ending × CW,leaves P R fn a [] .returning W=some [o]∧Q o.1 o.2:=by
   intro hw
   cases hv:CB P fn.results.toList e W with
   | none=>rw [hv] at hw; exact hw.elim
   | some v =>
    rw [hv] at hw; exact ⟨(.returned v,W),by simp only [leaves,OE ha hv],hw⟩
  cases x with
  | normal=>exact fin h
  | ret=>exact fin h
  | panic ch=>exact ⟨(.panicked ch,W),rfl,h⟩
  | exit id=>exact h.elim
  | goto id=>exact h.elim
  | outgrown=>exact h.elim
 | d::ds,W,h=>by
  obtain ⟨tg,vk⟩:=d
  cases tg with
  | collected r =>
   obtain ⟨ho,h⟩:=h; obtain ⟨o,h1,h2⟩:=Q0 ha x ds (W.A5 r .dead) h; refine ⟨o,?_,h2⟩
   cases x <;> first | (simp only [leaves,ho]; exact h1) | exact h1
  | _=>exact h.elim
theorem d_ {f:FuncId} {fn:Func} {c:Code} {args:List Value} {W:CW} {Q:Ending→CW→Prop} (hL:Bt L f=true) (qy:Bt L (f+1000000)=false) (mh:Bt L (f+2000000)=false) (hf:P.funcs[f]?=some fn) (hc:fn.body=some c)
  (hle:Nat.ble args.length fn.ntmps=true) (h:AK P L none f fn.ntmps c (Env.args args) [] W (AI P fn Q)):AF P L f args W Q:=by
 obtain ⟨n,⟨x,a,W1⟩,h1,e,h2,h3,h4⟩:=E8 h (GO fn args) (UQ fn args) rfl
 have key:∀ {o:Ending × CW},behind P (C2 P L n) fn x a W1=some [o]→(C2 P L (n+1)).call f args W=some [o]:=by
  intro o ho; rw [GU]; simp only [CD,hL,qy,mh,hf,hc,hle,Bool.not_true,cond_false,cond_true,Bool.false_and]; rw [h1]; refine EO ?_; rw [←ho]
  cases x <;> rfl
 simp only at h2 h4
 cases hb:a.Lh with
 | false =>
  obtain ⟨o,e1,e2⟩:=Q0 (R:=C2 P L n) h2 x a.defers W1 h4; exact ⟨n+1,o,key (by unfold behind; cases x <;> first | exact e1 | (simp only [hb,cond_false]; exact e1)),e2⟩
 | true =>
  cases x with
  | panic ch =>
   obtain ⟨o,e1,e2⟩:=US a.defers W1 h4; exact ⟨n+1,o,key (by unfold behind; simp only [hb,cond_true]; exact e1),e2⟩
  | _ =>
   obtain ⟨o,e1,e2⟩:=Q0 (R:=C2 P L n) h2 _ a.defers W1 h4; exact ⟨n+1,o,key (by unfold behind; exact e1),e2⟩
theorem AF.mono {f:FuncId} {args:List Value} {W:CW} {Q Q':Ending→CW→Prop} (h:AF P L f args W Q) (hq:∀ e W,Q e W→Q' e W):AF P L f args W Q':=by
 obtain ⟨n,o,h1,h2⟩:=h; exact ⟨n,o,h1,hq _ _ h2⟩
theorem IP.mono {l:Nat} {args:List Value} {W:CW} {Q Q':Ending→CW→Prop} (h:IP P L l args W Q) (hq:∀ e W,Q e W→Q' e W):IP P L l args W Q':=by
 obtain ⟨n,o,h1,h2⟩:=h; exact ⟨n,o,h1,hq _ _ h2⟩
theorem JM {f:FuncId} {W:CW} (hL:Bt L f=true) (mh:Bt L (f+2000000)=true) {Q:Ending→CW→Prop} (h:Q (.returned (.bool true)) W):AF P L f [] W Q:=by
 refine ⟨1,(.returned (.bool true),W),?_,h⟩; rw [GU]; simp only [CD,hL,mh,Bool.not_true,cond_false,List.isEmpty_nil,Bool.and_self,cond_true]
end
end Go.Ce
namespace Go.Ce
open Go.RowKit (Below)
def Tr.Hi {α:Type} (t:Tr α):List (Nat × α)→Tr α
 | []=>t
 | p::ps=>(t.set p.1 p.2).Hi ps
def Tr.of {α:Type} (l:List (Nat × α)):Tr α:=Tr.nil.Hi l
def CW.Hi (W:CW) (l:List (Nat × Av)) (n:Nat):CW:=⟨W.h.Hi l,n⟩
def MQ (l:List (Nat × Value)) (n:Nat):AJ:=⟨Tr.of l,n,[]⟩
def steps:Code→List Code
 | .seq x y=>steps x++steps y
 | c=>[c]
def Nq:Code→Nat
 | .seq x y=>Nq x+Nq y+1
 | _=>0
def AM (P:Program) (f:FuncId):Code:=match P.funcs[f]? with
 | some fn=>match fn.body with
  | some c=>c
  | none=>.skip
 | none=>.skip
def DP (P:Program) (f:FuncId):List Code:=steps (AM P f)
def Bg (R:CL) (ro:Option Nat) (fn:FuncId):List Code→AJ→CW→K4
 | [],a,W=>some [(.normal,a,W)]
 | c::cs,a,W=>HH (R.code ro fn c a W) (Bg R ro fn cs)
def E9:Code→List (Code × Code)
 | .seq x y=>E9 x++E9 y
 | .cond _ x y=>E9 x++E9 y
 | .block _ b=>E9 b
 | .scope b=>E9 b
 | .loop b=>E9 b
 | .rangeFunc _ _ a b=>(a,b)::(E9 a++E9 b)
 | _=>[]
def AS (P:Program) (f:FuncId) (k:Nat):Code:=match (E9 (AM P f))[k]? with
 | some p=>p.1
 | none=>.skip
def AQ (P:Program) (f:FuncId) (k:Nat):Code:=match (E9 (AM P f))[k]? with
 | some p=>p.2
 | none=>.skip
section
variable {P:Program} {L:List FuncId}
theorem O_ {α β:Type} (f:α→Option (List β)):∀ (l m:List α),Em f (l++m)=(Em f l).bind fun x=>(Em f m).bind fun y=>some (x++y)
 | [],m=>by cases h:Em f m <;> simp [Em,h]
 | x::l,m=>by
  simp only [List.cons_append,Em,O_ f l m]
  cases f x <;> simp
  cases Em f l <;> simp
  cases Em f m <;> simp
theorem Z9 {α β γ:Type} (o:Option (List α)) (f:α→Option (List β)) (g:β→Option (List γ)):CI (CI o f) g=CI o fun x=>CI (f x) g:=by
 cases o with
 | none=>rfl
 | some l =>
  simp only [CI]
  induction l with
  | nil=>rfl
  | cons x l ih =>
   simp only [Em]
   cases hx:f x with
   | none=>rfl
   | some y =>
    simp only
    cases hl:Em f l with
    | none =>
     rw [hl] at ih; simp only at ih ⊢
     cases Em g y with
     | none=>rfl
     | some z=>simp only [←ih]
    | some m =>
     rw [hl] at ih; simp only at ih ⊢; rw [O_,←ih]
     cases Em g y <;> simp
     cases Em g m <;> simp
theorem eC {α:Type} (o:Option (List α)):CI o (fun x=>some [x])=o:=by
 cases o with
 | none=>rfl
 | some l =>
  simp only [CI]
  induction l with
  | nil=>rfl
  | cons x l ih=>simp [Em,ih]
theorem eD (o:K4) (f g:AJ→CW→K4):HH (HH o f) g=HH o fun a W=>HH (f a W) g:=by
 unfold HH; rw [Z9]; congr 1; funext ⟨e,a,W⟩
 cases e <;> rfl
theorem jH (o:K4):HH o (fun a W=>some [(.normal,a,W)])=o:=by
 unfold HH
 have:(fun (x:Exit × AJ × CW)=>match x with
  | (e,a,W)=>match e with
   | .normal=>some [(Exit.normal,a,W)]
   | e=>some [(e,a,W)])=fun x=>some [x]:=by
  funext ⟨e,a,W⟩
  cases e <;> rfl
 exact (congrArg (CI o) this).trans (eC o)
theorem IS {R:CL} {ro:Option Nat} {fn:FuncId}:∀ (xs ys:List Code) (a:AJ) (W:CW),Bg R ro fn (xs++ys) a W=HH (Bg R ro fn xs a W) (Bg R ro fn ys)
 | [],ys,a,W=>by
  simp only [List.nil_append,Bg,HH]; unfold CI; simp [Em]
  cases Bg R ro fn ys a W <;> simp
 | x::xs,ys,a,W=>by
  simp only [List.cons_append,Bg]; rw [eD]; congr 1; funext a W; exact IS xs ys a W
theorem Q1 {n m:Nat} (h:n≤m) {ro:Option Nat} {fn:FuncId}:∀ {cs:List Code} {a:AJ} {W:CW} {o:List (Exit × AJ × CW)},Bg (C2 P L n) ro fn cs a W=some o→Bg (C2 P L m) ro fn cs a W=some o
 | [],a,W,o,e=>e
 | c::cs,a,W,o,e=>by
  simp only [Bg] at e ⊢; exact KF (.refl (CL.base fun _ _=>false)) (fun l hl=>Fw h hl) (fun a W r hr=>Q1 h hr) e
theorem jI:∀ (c:Code) {n:Nat} {ro:Option Nat} {fn:FuncId} {a:AJ} {W:CW} {o:List (Exit × AJ × CW)},Bg (C2 P L n) ro fn (steps c) a W=some o→(C2 P L (n+Nq c)).code ro fn c a W=some o:=by
 intro c
 induction c with
 | seq x y Xk Xl =>
  intro n ro fn a W o h; simp only [steps] at h; rw [IS] at h; show (C2 P L (n+(Nq x+Nq y)+1)).code ro fn (.seq x y) a W=some o; show HH ((C2 P L (n+(Nq x+Nq y))).code ro fn x a W) ((C2 P L (n+(Nq x+Nq y))).code ro fn y)=some o; exact KF (.refl (CL.base fun _ _=>false)) (fun l hl=>Fw (by omega) (Xk hl)) (fun a W r hr=>Fw (by omega) (Xl hr)) h
 | _ =>
  intro n ro fn a W o h; simp only [steps,Bg] at h; rw [←h]; exact (jH _).symm
theorem qz (n:Nat):(cS P L n).Le (C2 P L n):=gU (fun {u v} h=>by rw [GC 8 u v h]; exact @decide_eq_true _ (Classical.propDecidable _) rfl) n
theorem eE {n:Nat} {ro:Option Nat} {fn:FuncId}:∀ {cs:List Code} {a:AJ} {W:CW} {o:List (Exit × AJ × CW)},Bg (cS P L n) ro fn cs a W=some o→Bg (C2 P L n) ro fn cs a W=some o
 | [],a,W,o,e=>e
 | c::cs,a,W,o,e=>by
  simp only [Bg] at e ⊢; exact KF (.refl (CL.base fun _ _=>false)) (fun l hl=>(qz n).code hl) (fun a W r hr=>eE hr) e
def IT (P:Program) (L:List FuncId) (f:FuncId) (i:Nat) (a:AJ) (W:CW) (x:Exit) (a':AJ) (W':CW):Prop:=∃ n,Bg (C2 P L n) none f ((DP P f).drop i) a W=some [(x,a',W')]
theorem IT.p7 {f:FuncId} {i:Nat} (j n:Nat) {a a1 a2:AJ} {W W1 W2:CW} {x:Exit} (h:Bg (cS P L n) none f (((DP P f).drop i).take j) a W=some [(.normal,a1,W1)]) (hk:IT P L f (i+j) a1 W1 x a2 W2):IT P L f i a W x a2 W2:=by
 obtain ⟨m,hm⟩:=hk; refine ⟨max n m,?_⟩
 have e:(DP P f).drop i=((DP P f).drop i).take j++(DP P f).drop (i+j):=by
  rw [←List.drop_drop,List.take_append_drop]
 rw [e,IS,Q1 (Nat.le_max_left n m) (eE h)]; show HH (some [(.normal,a1,W1)]) _=_; unfold HH; exact BY _ _ (Q1 (Nat.le_max_right n m) hm)
theorem IT.end {f:FuncId} {i:Nat} (n:Nat) {a a1:AJ} {W W1:CW} {x:Exit} (h:Bg (cS P L n) none f ((DP P f).drop i) a W=some [(x,a1,W1)]):IT P L f i a W x a1 W1:=⟨n,eE h⟩
theorem IT.call {f:FuncId} {fn:Func} {a:AJ} {W W1:CW} {v:Value} {args:List Value} (hL:Bt L f=true) (qy:Bt L (f+1000000)=false) (mh:Bt L (f+2000000)=false) (hf:P.funcs[f]?=some fn) (hb:fn.body.isSome=true)
  (hle:Nat.ble args.length fn.ntmps=true) (h:IT P L f 0 (GO fn args) W .ret a W1) (hd:a.defers=[]) (hv:Fl P fn a W1=some v):∃ n,(C2 P L n).call f args W=some [(.returned v,W1)]:=by
 obtain ⟨n,h⟩:=h
 cases hc:fn.body with
 | none=>rw [hc] at hb; cases hb
 | some c =>
  have hbo:AM P f=c:=by unfold AM; rw [hf]; simp only [hc]
  rw [List.drop_zero] at h; unfold DP at h; rw [hbo] at h; have h1:=jI c h; refine ⟨n+Nq c+1,?_⟩; rw [GU]; simp only [CD,hL,qy,mh,hf,hc,hle,Bool.not_true,cond_false,cond_true,Bool.false_and]; rw [h1]; refine BY _ _ ?_; show leaves P _ fn a a.defers .returning W1=_; rw [hd]; simp only [leaves,hv]
theorem YL (hz:ZP P) (O7:P.follows .mixedOrders=true) (YB:EN P) (Wh:CK P L) {f:FuncId} {n:Nat} (h:Mu ((C2 P L n).call f [] (W0 0))=true) (w:World) (k:Nat) :
  CallsIn (F0 P) k P f #[] w (fun e w'=>e=.returned (.bool true)∧Below w.heap.size w w'):=by
 have hw:AY P w (fun _=>none) (W0 0) w:=⟨(fun i x hx=>by cases hx),(fun i o ho=>by cases ho),(fun i o x ho=>by cases ho),(fun i j o u x y ho=>by cases ho),Below.tQ w⟩
 cases ho:(C2 P L n).call f [] (W0 0) with
 | none=>rw [ho] at h; cases h
 | some outs =>
  rw [ho] at h; obtain ⟨_,hc⟩:=(gW (w0:=w) hz O7 YB Wh n).call ho (args':=#[]) (.nil _) hw; refine (hc k).mono fun e w' hE=>?_; obtain ⟨e0,W2,ρ2,hm,_,hN,FI⟩:=hE; have:=List.all_eq_true.1 h _ hm; simp only at this
  cases hN with
  | returned hv =>
   split at this
   ·rename_i heq
    cases heq
    cases hv
    exact ⟨rfl,FI.below⟩
   ·cases this
  | panicked _=>cases this
end
end Go.Ce
namespace Go.Ce
def Env.of (b:Env):List (Nat × Value)→Env
 | []=>b
 | p::l=>fun t=>cond (Nat.beq t p.1) p.2 (Env.of b l t)
theorem Ao (b:Env) (d:Nat) (v:Value) (l:List (Nat × Value)) (t:Nat):Env.of b ((d,v)::l) t=if t=d then v else Env.of b l t:=by
 simp only [Env.of,cond_eq_ite,Nat.beq_eq]
theorem BC (b:Env) (t:Nat):Env.of b [] t=b t:=rfl
def HA:Code→List Code
 | .seq x y=>HA x++HA y
 | .cond _ x y=>HA x++HA y
 | .block _ b=>HA b
 | .scope b=>HA b
 | .loop b=>b::HA b
 | .rangeFunc _ _ a b=>HA a++HA b
 | _=>[]
def Ae (P:Program) (f:FuncId) (k:Nat):Code:=match (HA (AM P f))[k]? with
 | some c=>c
 | none=>.skip
def tV (W:CW):Option (Value × CW):=some (.map (some W.sz),W.new (.map [] 0))
def ADe (v:Value) (K:List PanicEntry→Prop):Prop:=match v with
 | .iface t y=>K [{ v:=.iface t y,recovered:=false }]
 | _=>False
section
variable {P:Program} {L:List FuncId}
theorem AX {f:FuncId} {fn:Func} {args:List Value} {W:CW} {Q:Ending→CW→Prop} (hf:P.funcs[f]?=some fn) (hb:fn.body.isSome=true) (hL:Bt L f=true) (qy:Bt L (f+1000000)=false) (mh:Bt L (f+2000000)=false)
  (hle:Nat.ble args.length fn.ntmps=true) (h:AK P L none f fn.ntmps (AM P f) (Env.args args) [] W (AI P fn Q)):AF P L f args W Q:=by
 cases hc:fn.body with
 | none=>rw [hc] at hb; cases hb
 | some c =>
  have hbo:AM P f=c:=by unfold AM; rw [hf]; simp only [hc]
  rw [hbo] at h; exact d_ hL qy mh hf hc hle h
end
end Go.Ce
namespace Go.Ce
def AV:List FuncId:=[16+2000000]++([1500072,1500074,1500121]++(List.range 162).filter fun f=>Nat.ble 3 f && !Nat.beq f 7)
end Go.Ce
namespace Go.Ce
open Go Go.Proofs Go.Proofs.Tryz
def UT (ro:Option Nat) (K:AG):AG:=Aw (fun e ds W=>K .ret e ds W) K
def mi (ro:Option Nat) (K:AG):AG:=Aw (fun e ds W=>wV (KG (e 18)) fun Jl=>wI Jl (AF prog AV 16 [] W (AT (fun KI W8=>K .ret (Env.of e [(8,KI),(127,KI),(126,Jl),(125,(e 18))]) ds W8) (fun mj W9=>K (.panic mj) (Env.of e [(126,Jl),(125,(e 18))]) ds W9))) (AF prog AV 20 [(e 0),(e 2),(e 3),(e 11),(e 12)] W (AT (fun Iv QG=>wV (ext Iv 0) fun KJ=>wV (ext Iv 1) fun Hw=>AF prog AV 16 [] QG (AT (fun OF Iw=>wI OF (wV (AU prog .eql 30 true Hw (.int .i64 0)) fun OG=>wI OG ((UT ro K) .normal (Env.of e [(8,KJ),(144,KJ),(143,KJ),(142,(.bool true)),(142,OG),(141,OG),(140,OG),(138,(.bool true)),(139,Hw),(138,(.bool true)),(138,OF),(137,OF),(23,Hw),(22,KJ),(136,Hw),(135,KJ),(128,Iv),(134,Iv),(133,(e 12)),(132,(e 11)),(131,(e 3)),(130,(e 2)),(129,(e 0)),(126,Jl),(125,(e 18))]) ds Iw) ((UT ro K) .normal (Env.of e [(8,(.bool false)),(144,(.bool false)),(143,undef),(142,(.bool false)),(142,OG),(141,OG),(140,OG),(138,(.bool true)),(139,Hw),(138,(.bool true)),(138,OF),(137,OF),(23,Hw),(22,KJ),(136,Hw),(135,KJ),(128,Iv),(134,Iv),(133,(e 12)),(132,(e 11)),(131,(e 3)),(130,(e 2)),(129,(e 0)),(126,Jl),(125,(e 18))]) ds Iw)) ((UT ro K) .normal (Env.of e [(8,(.bool false)),(144,(.bool false)),(143,undef),(142,(.bool false)),(142,(.bool false)),(141,(.bool false)),(140,undef),(138,(.bool false)),(139,undef),(138,(.bool false)),(138,OF),(137,OF),(23,Hw),(22,KJ),(136,Hw),(135,KJ),(128,Iv),(134,Iv),(133,(e 12)),(132,(e 11)),(131,(e 3)),(130,(e 2)),(129,(e 0)),(126,Jl),(125,(e 18))]) ds Iw)) (fun q5 MR=>(UT ro K) (.panic q5) (Env.of e [(23,Hw),(22,KJ),(136,Hw),(135,KJ),(128,Iv),(134,Iv),(133,(e 12)),(132,(e 11)),(131,(e 3)),(130,(e 2)),(129,(e 0)),(126,Jl),(125,(e 18))]) ds MR))) (fun jJ Dd=>K (.panic jJ) (Env.of e [(133,(e 12)),(132,(e 11)),(131,(e 3)),(130,(e 2)),(129,(e 0)),(126,Jl),(125,(e 18))]) ds Dd)))) K
def YM (ro:Option Nat) (K:AG):AG:=Aw (fun e ds W=>C6 prog AV ro 9 145 (.loop (Ae prog 9 0)) (Env.of e [(19,(.int .i64 0)),(18,(.bool true))]) ds W (Bm 0 (mi ro K))) K
def UU (ro:Option Nat) (K:AG):AG:=Aw (fun e ds W=>wI (e 92) ((YM ro K) .ret (Env.of e [(8,(.bool false))]) ds W) ((YM ro K) .normal e ds W)) (YM ro K)
def UW (ro:Option Nat) (K:AG):AG:=Aw (fun e ds W=>AF prog AV 19 [(e 0),(e 1),(e 9)] W (AT (fun Hq W2=>wV (ext Hq 0) fun Fx=>wV (ext Hq 1) fun E_=>wV (ext Hq 2) fun FR=>AF prog AV 17 [(e 0),(e 1),Fx,E_] W2 (AT (fun J4 W4=>wV (ext J4 0) fun J5=>wV (ext J4 1) fun HP=>AF prog AV 27 [(e 0),Fx] W4 (AT (fun V4 W6=>wV (ext V4 0) fun PA=>wV (ext V4 1) fun HQ=>wV (AU prog .neq 30 true FR (.int .i64 0)) fun Jm=>wI Jm ((UU ro K) .normal (Env.of e [(92,(.bool true)),(91,undef),(86,(.bool true)),(90,undef),(86,(.bool true)),(89,undef),(86,(.bool true)),(88,undef),(86,(.bool true)),(87,undef),(86,(.bool true)),(86,(.bool true)),(85,(.bool true)),(84,undef),(82,(.bool true)),(83,undef),(82,(.bool true)),(82,(.bool true)),(81,(.bool true)),(80,undef),(78,(.bool true)),(79,undef),(78,(.bool true)),(78,Jm),(77,Jm),(76,FR),(17,HQ),(16,PA),(75,HQ),(74,PA),(70,V4),(73,V4),(72,Fx),(71,(e 0)),(15,HP),(14,J5),(69,HP),(68,J5),(62,J4),(67,J4),(66,E_),(65,Fx),(64,(e 1)),(63,(e 0)),(13,FR),(12,E_),(11,Fx),(61,FR),(60,E_),(59,Fx),(54,Hq),(58,Hq),(57,(e 9)),(56,(e 1)),(55,(e 0))]) ds W6) (wV (AU prog .neq 30 true HP (.int .i64 0)) fun JN=>wI JN ((UU ro K) .normal (Env.of e [(92,(.bool true)),(91,undef),(86,(.bool true)),(90,undef),(86,(.bool true)),(89,undef),(86,(.bool true)),(88,undef),(86,(.bool true)),(87,undef),(86,(.bool true)),(86,(.bool true)),(85,(.bool true)),(84,undef),(82,(.bool true)),(83,undef),(82,(.bool true)),(82,JN),(81,JN),(80,JN),(78,(.bool false)),(79,HP),(78,(.bool false)),(78,Jm),(77,Jm),(76,FR),(17,HQ),(16,PA),(75,HQ),(74,PA),(70,V4),(73,V4),(72,Fx),(71,(e 0)),(15,HP),(14,J5),(69,HP),(68,J5),(62,J4),(67,J4),(66,E_),(65,Fx),(64,(e 1)),(63,(e 0)),(13,FR),(12,E_),(11,Fx),(61,FR),(60,E_),(59,Fx),(54,Hq),(58,Hq),(57,(e 9)),(56,(e 1)),(55,(e 0))]) ds W6) (wV (AU prog .neq 30 true HQ (.int .i64 0)) fun L4=>wI L4 ((UU ro K) .normal (Env.of e [(92,(.bool true)),(91,undef),(86,(.bool true)),(90,undef),(86,(.bool true)),(89,undef),(86,(.bool true)),(88,undef),(86,(.bool true)),(87,undef),(86,(.bool true)),(86,L4),(85,L4),(84,L4),(82,(.bool false)),(83,HQ),(82,(.bool false)),(82,JN),(81,JN),(80,JN),(78,(.bool false)),(79,HP),(78,(.bool false)),(78,Jm),(77,Jm),(76,FR),(17,HQ),(16,PA),(75,HQ),(74,PA),(70,V4),(73,V4),(72,Fx),(71,(e 0)),(15,HP),(14,J5),(69,HP),(68,J5),(62,J4),(67,J4),(66,E_),(65,Fx),(64,(e 1)),(63,(e 0)),(13,FR),(12,E_),(11,Fx),(61,FR),(60,E_),(59,Fx),(54,Hq),(58,Hq),(57,(e 9)),(56,(e 1)),(55,(e 0))]) ds W6) (wV (qo prog 29 9 J5 W6) fun Q2=>wV (qo prog 29 9 (e 9) W6) fun OH=>wV (AU prog .neq 9 false Q2 OH) fun Nr=>(UU ro K) .normal (Env.of e [(92,Nr),(91,Nr),(86,(.bool false)),(90,OH),(86,(.bool false)),(89,(e 9)),(86,(.bool false)),(88,Q2),(86,(.bool false)),(87,J5),(86,(.bool false)),(86,L4),(85,L4),(84,L4),(82,(.bool false)),(83,HQ),(82,(.bool false)),(82,JN),(81,JN),(80,JN),(78,(.bool false)),(79,HP),(78,(.bool false)),(78,Jm),(77,Jm),(76,FR),(17,HQ),(16,PA),(75,HQ),(74,PA),(70,V4),(73,V4),(72,Fx),(71,(e 0)),(15,HP),(14,J5),(69,HP),(68,J5),(62,J4),(67,J4),(66,E_),(65,Fx),(64,(e 1)),(63,(e 0)),(13,FR),(12,E_),(11,Fx),(61,FR),(60,E_),(59,Fx),(54,Hq),(58,Hq),(57,(e 9)),(56,(e 1)),(55,(e 0))]) ds W6)))) (fun q7 W7=>K (.panic q7) (Env.of e [(72,Fx),(71,(e 0)),(15,HP),(14,J5),(69,HP),(68,J5),(62,J4),(67,J4),(66,E_),(65,Fx),(64,(e 1)),(63,(e 0)),(13,FR),(12,E_),(11,Fx),(61,FR),(60,E_),(59,Fx),(54,Hq),(58,Hq),(57,(e 9)),(56,(e 1)),(55,(e 0))]) ds W7))) (fun ml W5=>K (.panic ml) (Env.of e [(66,E_),(65,Fx),(64,(e 1)),(63,(e 0)),(13,FR),(12,E_),(11,Fx),(61,FR),(60,E_),(59,Fx),(54,Hq),(58,Hq),(57,(e 9)),(56,(e 1)),(55,(e 0))]) ds W5))) (fun Wo W3=>K (.panic Wo) (Env.of e [(57,(e 9)),(56,(e 1)),(55,(e 0))]) ds W3))) K
def YN (ro:Option Nat) (K:AG):AG:=Aw (fun e ds W=>(UW ro K) .ret e ds W) (UW ro K)
def Q5 (ro:Option Nat) (K:AG):AG:=Aw (fun e ds W=>AF prog AV 17 [(e 0),(e 1),(e 2),(e 3)] W (AT (fun FE W0=>wV (ext FE 0) fun KL=>wV (ext FE 1) fun FT=>wV (AU prog .neq 30 true FT (.int .i64 0)) fun IU=>wI IU (AF prog AV 16 [] W0 (AT (fun IB QH=>wI IB (wV (Aj prog 29 KL QH) fun GH=>wV (AU prog .eql 3 true GH (.int .i64 0)) fun Ls=>(YN ro K) .normal (Env.of e [(8,Ls),(53,Ls),(52,Ls),(49,(.bool true)),(51,GH),(49,(.bool true)),(50,KL),(49,(.bool true)),(49,IB),(48,IB),(47,IU),(46,FT),(10,FT),(9,KL),(45,FT),(44,KL),(38,FE),(43,FE),(42,(e 3)),(41,(e 2)),(40,(e 1)),(39,(e 0))]) ds QH) ((YN ro K) .normal (Env.of e [(8,(.bool false)),(53,(.bool false)),(52,undef),(49,(.bool false)),(51,undef),(49,(.bool false)),(50,undef),(49,(.bool false)),(49,IB),(48,IB),(47,IU),(46,FT),(10,FT),(9,KL),(45,FT),(44,KL),(38,FE),(43,FE),(42,(e 3)),(41,(e 2)),(40,(e 1)),(39,(e 0))]) ds QH)) (fun AAo k_=>(YN ro K) (.panic AAo) (Env.of e [(47,IU),(46,FT),(10,FT),(9,KL),(45,FT),(44,KL),(38,FE),(43,FE),(42,(e 3)),(41,(e 2)),(40,(e 1)),(39,(e 0))]) ds k_))) ((UW ro K) .normal (Env.of e [(47,IU),(46,FT),(10,FT),(9,KL),(45,FT),(44,KL),(38,FE),(43,FE),(42,(e 3)),(41,(e 2)),(40,(e 1)),(39,(e 0))]) ds W0)) (fun L0 W1=>K (.panic L0) (Env.of e [(42,(e 3)),(41,(e 2)),(40,(e 1)),(39,(e 0))]) ds W1))) K
def LG (ro:Option Nat) (K:AG):AG:=Aw (fun e ds W=>wI (e 36) (AF prog AV 16 [] W (AT (fun Fh jK=>(Q5 ro K) .ret (Env.of e [(8,Fh),(37,Fh)]) ds jK) (fun vn eF=>(Q5 ro K) (.panic vn) e ds eF))) ((Q5 ro K) .normal e ds W)) (Q5 ro K)
theorem ADf (v0 v1 v2 v3:Value) (K:AG) (W:CW):AK prog AV none 9 145 (AM prog 9) (Env.args [v0,v1,v2,v3]) [] W K=(AF prog AV 13 [v0] W (AT (fun Dc cn=>wV (KG Dc) fun Dx=>wI Dx ((LG none K) .normal (Env.of (Env.args [v0,v1,v2,v3]) [(36,(.bool true)),(35,undef),(32,(.bool true)),(34,undef),(32,(.bool true)),(33,undef),(32,(.bool true)),(32,(.bool true)),(31,(.bool true)),(30,undef),(27,(.bool true)),(29,undef),(27,(.bool true)),(28,undef),(27,(.bool true)),(27,Dx),(26,Dx),(25,Dc),(24,v0),(8,(.bool false))]) [] cn) (AF prog AV 14 [v1] cn (AT (fun D' W28=>wV (KG D') fun v30=>wI v30 ((LG none K) .normal (Env.of (Env.args [v0,v1,v2,v3]) [(36,(.bool true)),(35,undef),(32,(.bool true)),(34,undef),(32,(.bool true)),(33,undef),(32,(.bool true)),(32,v30),(31,v30),(30,v30),(27,(.bool false)),(29,D'),(27,(.bool false)),(28,v1),(27,(.bool false)),(27,Dx),(26,Dx),(25,Dc),(24,v0),(8,(.bool false))]) [] W28) (AF prog AV 15 [v2] W28 (AT (fun Fi tW=>wV (KG Fi) fun FF=>(LG none K) .normal (Env.of (Env.args [v0,v1,v2,v3]) [(36,FF),(35,FF),(32,(.bool false)),(34,Fi),(32,(.bool false)),(33,v2),(32,(.bool false)),(32,v30),(31,v30),(30,v30),(27,(.bool false)),(29,D'),(27,(.bool false)),(28,v1),(27,(.bool false)),(27,Dx),(26,Dx),(25,Dc),(24,v0),(8,(.bool false))]) [] tW) (fun ADg Q6=>(LG none K) (.panic ADg) (Env.of (Env.args [v0,v1,v2,v3]) [(32,(.bool false)),(33,v2),(32,(.bool false)),(32,v30),(31,v30),(30,v30),(27,(.bool false)),(29,D'),(27,(.bool false)),(28,v1),(27,(.bool false)),(27,Dx),(26,Dx),(25,Dc),(24,v0),(8,(.bool false))]) [] Q6)))) (fun vu gb=>(LG none K) (.panic vu) (Env.of (Env.args [v0,v1,v2,v3]) [(27,(.bool false)),(28,v1),(27,(.bool false)),(27,Dx),(26,Dx),(25,Dc),(24,v0),(8,(.bool false))]) [] gb)))) (fun AAp VX=>(LG none K) (.panic AAp) (Env.of (Env.args [v0,v1,v2,v3]) [(24,v0),(8,(.bool false))]) [] VX))):=by kernel_rfl
def Q7 (ro:Option Nat) (K:AG):AG:=Aw (fun e ds W=>wV (AU prog .add 3 true (e 19) (.int .i64 1)) fun Z'=>K .normal (Env.of e [(19,Z'),(98,Z'),(97,(e 19))]) ds W) K
theorem AAq (ro:Option Nat) (e:Env) (ds:List Deferred) (K:AG) (W:CW):AK prog AV ro 9 145 (Ae prog 9 0) e ds W K=(wV (Aj prog 23 (e 1) W) fun TG=>wV (AU prog .lss 3 false (e 19) TG) fun TH=>wI TH (wV (EV prog 23 (e 1) (e 19)) fun Gt=>wV (A0 prog 58 Gt 0) fun NO=>wV (ld prog 9 NO W) fun OI=>AF prog AV 26 [(e 0),OI] W (AT (fun LH vz=>wV (ext LH 0) fun LI=>wV (ext LH 1) fun LJ=>wI (e 18) (wV (AU prog .eql 30 true LJ (.int .i64 0)) fun Jn=>wI Jn (wV (Aj prog 29 LI vz) fun KM=>wV (EV prog 23 (e 1) (e 19)) fun KN=>wV (A0 prog 58 KN 2) fun UX=>wV (ld prog 40 UX vz) fun NP=>wV (Aj prog 40 NP vz) fun V5=>wV (AU prog .eql 3 false KM V5) fun IV=>(Q7 ro K) .normal (Env.of e [(18,IV),(124,IV),(123,IV),(114,(.bool true)),(122,V5),(114,(.bool true)),(121,NP),(114,(.bool true)),(120,UX),(114,(.bool true)),(119,KN),(114,(.bool true)),(118,(e 19)),(114,(.bool true)),(117,(e 1)),(114,(.bool true)),(116,KM),(114,(.bool true)),(115,LI),(114,(.bool true)),(114,Jn),(113,Jn),(112,Jn),(110,(.bool true)),(111,LJ),(110,(.bool true)),(110,(e 18)),(109,(e 18)),(21,LJ),(20,LI),(108,LJ),(107,LI),(99,LH),(106,LH),(105,OI),(104,NO),(103,Gt),(102,(e 19)),(101,(e 1)),(100,(e 0)),(96,TH),(95,TG),(94,(e 1)),(93,(e 19))]) ds vz) ((Q7 ro K) .normal (Env.of e [(18,(.bool false)),(124,(.bool false)),(123,undef),(114,(.bool false)),(122,undef),(114,(.bool false)),(121,undef),(114,(.bool false)),(120,undef),(114,(.bool false)),(119,undef),(114,(.bool false)),(118,undef),(114,(.bool false)),(117,undef),(114,(.bool false)),(116,undef),(114,(.bool false)),(115,undef),(114,(.bool false)),(114,Jn),(113,Jn),(112,Jn),(110,(.bool true)),(111,LJ),(110,(.bool true)),(110,(e 18)),(109,(e 18)),(21,LJ),(20,LI),(108,LJ),(107,LI),(99,LH),(106,LH),(105,OI),(104,NO),(103,Gt),(102,(e 19)),(101,(e 1)),(100,(e 0)),(96,TH),(95,TG),(94,(e 1)),(93,(e 19))]) ds vz)) ((Q7 ro K) .normal (Env.of e [(18,(.bool false)),(124,(.bool false)),(123,undef),(114,(.bool false)),(122,undef),(114,(.bool false)),(121,undef),(114,(.bool false)),(120,undef),(114,(.bool false)),(119,undef),(114,(.bool false)),(118,undef),(114,(.bool false)),(117,undef),(114,(.bool false)),(116,undef),(114,(.bool false)),(115,undef),(114,(.bool false)),(114,(.bool false)),(113,(.bool false)),(112,undef),(110,(.bool false)),(111,undef),(110,(.bool false)),(110,(e 18)),(109,(e 18)),(21,LJ),(20,LI),(108,LJ),(107,LI),(99,LH),(106,LH),(105,OI),(104,NO),(103,Gt),(102,(e 19)),(101,(e 1)),(100,(e 0)),(96,TH),(95,TG),(94,(e 1)),(93,(e 19))]) ds vz)) (fun ADh eG=>(Q7 ro K) (.panic ADh) (Env.of e [(105,OI),(104,NO),(103,Gt),(102,(e 19)),(101,(e 1)),(100,(e 0)),(96,TH),(95,TG),(94,(e 1)),(93,(e 19))]) ds eG))) (K (.exit 0) (Env.of e [(96,TH),(95,TG),(94,(e 1)),(93,(e 19))]) ds W)):=by kernel_rfl
theorem mm (Q:Ending→CW→Prop) (e:Env) (W:CW):AI prog Tryz.f9 Q .ret e [] W=Q (.returned (e 8)) W:=by kernel_rfl
theorem ADi {Q:Ending→CW→Prop} {v0 v1 v2 v3:Value} {W:CW} (h:AK prog AV none 9 145 (AM prog 9) (Env.args [v0,v1,v2,v3]) [] W (AI prog Tryz.f9 Q)):AF prog AV 9 [v0,v1,v2,v3] W Q:=AX Tryz.func9 (by kernel_rfl) (by kernel_rfl) (by kernel_rfl) (by kernel_rfl) (by kernel_rfl) h
end Go.Ce
namespace Go.Ce
open Go Go.Proofs Go.Proofs.Tryz
theorem AAr (v0 v1:Value) (K:AG) (W:CW):AK prog AV none 26 31 (AM prog 26) (Env.args [v0,v1]) [] W K=(AF prog AV 47 [v0] W (AT (fun BR W0=>wV (ext BR 0) fun DQ=>wV (ext BR 1) fun Bk=>Bw (F5 prog 78 W0) fun v6 W2=>wV (CE prog 78 v6 DQ W2) fun W3=>wV (KG Bk) fun DS=>wI DS (K .ret (Env.of (Env.args [v0,v1]) [(5,(.int .i64 210)),(4,(.slice none 0 0)),(16,DS),(15,Bk),(7,Bk),(6,v6),(14,Bk),(13,DQ),(10,BR),(12,BR),(11,v0),(5,(.int .i64 0)),(4,(.slice none 0 0))]) [] W3) (wV (A0 prog 78 v6 0) fun CP=>wV (ld prog 75 CP W3) fun CH=>wV (GL prog 75 CH v1 true W3) fun DR=>wV (ext DR 0) fun FX=>wV (ext DR 1) fun Da=>Bw (F5 prog 48 W3) fun v8 W4=>wV (CE prog 48 v8 FX W4) fun W5=>wV (KG Da) fun Dc=>wI Dc (K .ret (Env.of (Env.args [v0,v1]) [(5,(.int .i64 213)),(4,(.slice none 0 0)),(25,Dc),(24,Da),(9,Da),(8,v8),(23,Da),(22,FX),(17,DR),(21,DR),(20,v1),(19,CH),(18,CP),(16,DS),(15,Bk),(7,Bk),(6,v6),(14,Bk),(13,DQ),(10,BR),(12,BR),(11,v0),(5,(.int .i64 0)),(4,(.slice none 0 0))]) [] W5) (wV (A0 prog 78 v6 1) fun Dx=>wV (ld prog 76 Dx W5) fun D_=>wV (GL prog 76 D_ v1 false W5) fun D'=>AF prog AV 83 [D'] W5 (AT (fun v30 W6=>K .ret (Env.of (Env.args [v0,v1]) [(5,(.int .i64 0)),(4,v30),(30,v30),(29,D'),(28,v1),(27,D_),(26,Dx),(25,Dc),(24,Da),(9,Da),(8,v8),(23,Da),(22,FX),(17,DR),(21,DR),(20,v1),(19,CH),(18,CP),(16,DS),(15,Bk),(7,Bk),(6,v6),(14,Bk),(13,DQ),(10,BR),(12,BR),(11,v0),(5,(.int .i64 0)),(4,(.slice none 0 0))]) [] W6) (fun q7 W7=>K (.panic q7) (Env.of (Env.args [v0,v1]) [(29,D'),(28,v1),(27,D_),(26,Dx),(25,Dc),(24,Da),(9,Da),(8,v8),(23,Da),(22,FX),(17,DR),(21,DR),(20,v1),(19,CH),(18,CP),(16,DS),(15,Bk),(7,Bk),(6,v6),(14,Bk),(13,DQ),(10,BR),(12,BR),(11,v0),(5,(.int .i64 0)),(4,(.slice none 0 0))]) [] W7))))) (fun L0 W1=>K (.panic L0) (Env.of (Env.args [v0,v1]) [(11,v0),(5,(.int .i64 0)),(4,(.slice none 0 0))]) [] W1))):=by kernel_rfl
theorem jL (Q:Ending→CW→Prop) (e:Env) (W:CW):AI prog Tryz.f26 Q .ret e [] W=Q (.returned (.tuple #[e 4,e 5])) W:=by kernel_rfl
theorem AAs {Q:Ending→CW→Prop} {v0 v1:Value} {W:CW} (h:AK prog AV none 26 31 (AM prog 26) (Env.args [v0,v1]) [] W (AI prog Tryz.f26 Q)):AF prog AV 26 [v0,v1] W Q:=AX Tryz.func26 (by kernel_rfl) (by kernel_rfl) (by kernel_rfl) (by kernel_rfl) (by kernel_rfl) h
end Go.Ce
namespace Go.Ce
section
variable (P:Program) (L:List FuncId)
def isRec (o:Oper):Bool:=match o.op with
 | .call c=>match c.callee with
  | .builtin b=>match b with
   | .recover=>c.args.toList.isEmpty && c.argTypes.toList.isEmpty
   | _=>false
  | _=>false
 | _=>false
def v_ (o:Oper):Bool:=match o.op with
 | .alloc _=>true
 | _=>false
def mn (u:FrameMode) (K:Value→FrameMode→Prop):Prop:=match u with
 | .panicking ({ v,recovered:=false,goexit:=false }::WJ)=>K v (.panicking ({ v,recovered:=true }::WJ))
 | .returning=>K .nilIface .returning
 | _=>False
def PB (ops:Array Oper):Nat→List Nat→List Oper→Env→FrameMode→CW→(Exit→Env→FrameMode→CW→Prop)→Prop
 | _,_,[],e,u,W,K=>K .normal e u W
 | i,sk,o::rest,e,u,W,K=>OC sk ops o e fun b e=>cond b
   (cond (isRec o) (mn u fun v u=>PB ops (i+1) sk rest (e.put o.dst v) u W K)
    (cond (C9 P o) (wV (jE P o e.ev) fun v=>PB ops (i+1) sk rest (e.put o.dst v) u W K)
     (cond (DW P o) (wV (cl P o e.ev W) fun v=>PB ops (i+1) sk rest (e.put o.dst v) u W K)
      (cond (M0 o) (wV (vj P o e.ev W) fun W=>PB ops (i+1) sk rest (e.put o.dst undef) u W K)
       (cond (v_ o) (Bw (qp P o e.ev W) fun v W=>PB ops (i+1) sk rest (e.put o.dst v) u W K) False)))))
   (PB ops (i+1) (i::sk) rest (e.put o.dst undef) u W K)
def sqS (Y:Env→FrameMode→CW→Prop) (K:Exit→Env→FrameMode→CW→Prop):Exit→Env→FrameMode→CW→Prop
 | .normal,e,u,W=>Y e u W
 | x,e,u,W=>K x e u W
def wS (fn:FuncId) (nt:Nat):Code→Env→FrameMode→CW→(Exit→Env→FrameMode→CW→Prop)→Prop
 | .region _ ops false,e,u,W,K=>PB P ops 0 [] ops.toList e u W K
 | .seq x y,e,u,W,K=>wS fn nt x e u W (sqS (fun e u W=>wS fn nt y e u W K) K)
 | .cond c x y,e,u,W,K=>wI (e.ev c) (wS fn nt x e u W K) (wS fn nt y e u W K)
 | c,e,u,W,K=>AK P L none fn nt c e [] W fun x e ds W=>ds=[]∧K x e u W
end
section
variable {P:Program} {L:List FuncId} {R:CL} {ops:Array Oper}
theorem Z_ {o:Oper} (h:isRec o=true) {e:Operand→Value} {W:CW}:BP P o e W=some [(.recover,W)]:=by
 unfold isRec at h
 split at h
 ·rename_i c hc
  split at h
  ·rename_i b EY
   split at h
   ·simp only [Bool.and_eq_true] at h; have h1:c.args.toList=[]:=by simpa using h.1
    have h2:c.argTypes.toList=[]:=by simpa using h.2
    simp only [BP,hc,EY,h1,h2]; rfl
   ·cases h
  ·cases h
 ·cases h
theorem Q9 {o:Oper} {rest:List Oper} {a:AJ} {u:FrameMode} {W W1:CW} {v:Value} {x:Exit × AJ × FrameMode × CW} (hw:C5 ops o a=true) (hc:BP P o a.eval W=some [(.value v,W1)]) (h:CN P R ops rest (a.put o.dst v) u W1=some [x]):CN P R ops (o::rest) a u W=some [x]:=by
 simp only [CN,hw,hc]; exact BY _ _ h
theorem mo {o:Oper} {rest:List Oper} {a:AJ} {u:FrameMode} {W W1:CW} {x:Exit × AJ × FrameMode × CW} (hw:C5 ops o a=true) (hc:BP P o a.eval W=some [(.skip,W1)]) (h:CN P R ops rest (a.put o.dst undef) u W1=some [x]):CN P R ops (o::rest) a u W=some [x]:=by
 simp only [CN,hw,hc]; exact BY _ _ h
theorem mq {o:Oper} {rest:List Oper} {a:AJ} {WJ:List PanicEntry} {W:CW} {v:Value} {x:Exit × AJ × FrameMode × CW} (hw:C5 ops o a=true) (hc:BP P o a.eval W=some [(.recover,W)]) (h:CN P R ops rest (a.put o.dst v) (.panicking ({ v,recovered:=true }::WJ)) W=some [x]):CN P R ops (o::rest) a (.panicking ({ v,recovered:=false }::WJ)) W=some [x]:=by
 simp only [CN,hw,hc]; exact BY _ _ h
theorem mu {o:Oper} {rest:List Oper} {a:AJ} {W:CW} {x:Exit × AJ × FrameMode × CW} (hw:C5 ops o a=true) (hc:BP P o a.eval W=some [(.recover,W)]) (h:CN P R ops rest (a.put o.dst .nilIface) .returning W=some [x]):CN P R ops (o::rest) a .returning W=some [x]:=by
 simp only [CN,hw,hc]; exact BY _ _ h
theorem EF {K:Exit→Env→FrameMode→CW→Prop}:∀ {rest:List Oper} {i:Nat} {sk:List Nat} {e:Env} {u:FrameMode} {W:CW} {a:AJ},
  PB P ops i sk rest e u W K→AE a e []→∃ a' e' u' W',CN P R ops rest a u W=some [(.normal,a',u',W')]∧AE a' e' []∧a'.nt=a.nt∧K .normal e' u' W'
 | [],i,sk,e,u,W,a,h,ha=>⟨a,e,u,W,rfl,ha,rfl,h⟩
 | o::rest,i,sk,e,u,W,a,h,ha=>by
  simp only [PB] at h; obtain ⟨e1,DC,h,GR⟩:=KH ha h
  cases hw:C5 ops o a with
  | false =>
   rw [hw] at h; obtain ⟨a',e',u',W',h1,h2,h3,h4⟩:=EF h (DC.put o.dst undef); exact ⟨a',e',u',W',by simp only [CN,hw]; exact h1,h2,by rw [h3,AJ.BZ],h4⟩
  | true =>
   rw [hw] at h; simp only [cond_true] at h
   cases Zk:isRec o with
   | true =>
    rw [Zk] at h; simp only [cond_true] at h; have hc:=Z_ (P:=P) Zk (e:=a.eval) (W:=W); unfold mn at h
    split at h
    ·obtain ⟨a',e',u',W',h1,h2,h3,h4⟩:=EF h (DC.put o.dst _); exact ⟨a',e',u',W',mq hw hc h1,h2,by rw [h3,AJ.BZ],h4⟩
    ·obtain ⟨a',e',u',W',h1,h2,h3,h4⟩:=EF h (DC.put o.dst _); exact ⟨a',e',u',W',mu hw hc h1,h2,by rw [h3,AJ.BZ],h4⟩
    ·exact h.elim
   | false =>
    rw [Zk] at h; simp only [cond_false] at h
    cases hp:C9 P o with
    | true =>
     rw [hp] at h; simp only [cond_true] at h
     cases hx:jE P o e1.ev with
     | none=>rw [hx] at h; exact h.elim
     | some v =>
      rw [hx] at h; obtain ⟨a',e',u',W',h1,h2,h3,h4⟩:=EF h (DC.put o.dst v); exact ⟨a',e',u',W',Q9 hw (by rw [UK hp,DC.eval,hx]; rfl) h1,h2,by rw [h3,AJ.BZ],h4⟩
    | false =>
     rw [hp] at h; simp only [cond_false] at h
     cases hr:DW P o with
     | true =>
      rw [hr] at h; simp only [cond_true] at h
      cases hx:cl P o e1.ev W with
      | none=>rw [hx] at h; exact h.elim
      | some v =>
       rw [hx] at h; obtain ⟨a',e',u',W',h1,h2,h3,h4⟩:=EF h (DC.put o.dst v); exact ⟨a',e',u',W',Q9 hw (by rw [MO hr,DC.eval,hx]; rfl) h1,h2,by rw [h3,AJ.BZ],h4⟩
     | false =>
      rw [hr] at h; simp only [cond_false] at h
      cases hs:M0 o with
      | true =>
       rw [hs] at h; simp only [cond_true] at h
       cases hx:vj P o e1.ev W with
       | none=>rw [hx] at h; exact h.elim
       | some W1 =>
        rw [hx] at h; obtain ⟨a',e',u',W',h1,h2,h3,h4⟩:=EF h (DC.put o.dst undef); exact ⟨a',e',u',W',mo hw (by rw [mc hs,DC.eval,hx]; rfl) h1,h2,by rw [h3,AJ.BZ],h4⟩
      | false =>
       rw [hs] at h; simp only [cond_false] at h
       cases mv:v_ o with
       | false=>rw [mv] at h; exact h.elim
       | true =>
        rw [mv] at h; simp only [cond_true] at h; unfold v_ at mv
        split at mv
        ·rename_i t ho; have ADj:qp P o e1.ev W=F5 P t W:=by simp only [qp,ho]
         rw [ADj] at h
         have Hv:BP P o a.eval W=vwL (F5 P t W):=by
          simp only [BP,ho,F5,vwL]
          cases Gm P t with
          | none=>rfl
          | some z=>cases DM P t <;> rfl
         cases hx:F5 P t W with
         | none=>rw [hx] at h; exact h.elim
         | some y =>
          obtain ⟨v,W1⟩:=y; rw [hx] at h; obtain ⟨a',e',u',W',h1,h2,h3,h4⟩:=EF h (DC.put o.dst v); exact ⟨a',e',u',W',Q9 hw (by rw [Hv,hx]; rfl) h1,h2,by rw [h3,AJ.BZ],h4⟩
        ·cases mv
theorem mw {fn:FuncId} {nt:Nat}:∀ {c:Code} {e:Env} {u:FrameMode} {W:CW} {K:Exit→Env→FrameMode→CW→Prop} {a:AJ},wS P L fn nt c e u W K→AE a e []→a.nt=nt →
  ∃ n x a' e' u' W',Sq P (C2 P L n) fn c a u W=some [(x,a',u',W')]∧AE a' e' []∧a'.nt=nt∧K x e' u' W':=by
 intro c
 have base:∀ {c:Code} {e:Env} {u:FrameMode} {W:CW} {K:Exit→Env→FrameMode→CW→Prop} {a:AJ},(∀ n,Sq P (C2 P L n) fn c a u W=(CI ((C2 P L n).code none fn c a W) fun (e,a,W)=>some [(e,a,u,W)]))→AK P L none fn nt c e [] W (fun x e ds W=>ds=[]∧K x e u W)→AE a e []→a.nt=nt →
   ∃ n x a' e' u' W',Sq P (C2 P L n) fn c a u W=some [(x,a',u',W')]∧AE a' e' []∧a'.nt=nt∧K x e' u' W':=by
  intro c e u W K a he h ha hn; obtain ⟨n,⟨x,a1,W1⟩,h1,e1,h2,h3,h4,h5⟩:=E8 h a ha hn; refine ⟨n,x,a1,e1,u,W1,?_,by rw [h4] at h2; exact h2,h3,h5⟩; rw [he,h1]; exact BY _ _ rfl
 induction c with
 | region id ops d =>
  intro e u W K a h ha hn
  cases d with
  | true=>exact base (fun n=>rfl) h ha hn
  | false =>
   obtain ⟨a',e',u',W',h1,h2,h3,h4⟩:=EF (R:=C2 P L 0) h ha; exact ⟨0,.normal,a',e',u',W',h1,h2,by rw [h3,hn],h4⟩
 | seq x y Xk Xl =>
  intro e u W K a h ha hn; obtain ⟨n,x1,a1,e1,u1,W1,h1,h2,h3,h4⟩:=Xk h ha hn
  cases x1 with
  | normal =>
   obtain ⟨m,x2,a2,e2,u2,W2,h5,h6,h7,h8⟩:=Xl h4 h2 h3; refine ⟨max n m,x2,a2,e2,u2,W2,?_,h6,h7,h8⟩; have h1':Sq P (C2 P L (max n m)) fn x a u W=some [(.normal,a1,u1,W1)]:=UH (DY (Nat.le_max_left n m)) h1; have h5':Sq P (C2 P L (max n m)) fn y a1 u1 W1=some [(x2,a2,u2,W2)]:=UH (DY (Nat.le_max_right n m)) h5; simp only [Sq,h1']; exact BY _ _ h5'
  | _ =>
   refine ⟨n,_,a1,e1,u1,W1,?_,h2,h3,h4⟩; simp only [Sq,h1]; exact BY _ _ rfl
 | cond c x y Xk Xl =>
  intro e u W K a h ha hn; obtain ⟨b,hb,h⟩:=du h; have hc:a.eval c=.bool b:=by rw [ha.eval]; exact hb
  cases b with
  | true =>
   obtain ⟨n,x1,a1,e1,u1,W1,h1,h2⟩:=Xk h ha hn; exact ⟨n,x1,a1,e1,u1,W1,by simp only [Sq,hc]; exact h1,h2⟩
  | false =>
   obtain ⟨n,x1,a1,e1,u1,W1,h1,h2⟩:=Xl h ha hn; exact ⟨n,x1,a1,e1,u1,W1,by simp only [Sq,hc]; exact h1,h2⟩
 | _=>intro e u W K a h ha hn; exact base (fun n=>rfl) h ha hn
def MS (P:Program) (L:List FuncId) (f:FuncId) (args:List Value) (u:FrameMode) (W:CW) (Q:FrameMode→CW→Prop):Prop:=∃ n v u' W',(C2 P L n).GN f args u W=some [(.returned v,u',W')]∧Q u' W'
theorem Wp {f:FuncId} {fn:Func} {c:Code} {args:List Value} {u:FrameMode} {W:CW} {Q:FrameMode→CW→Prop} (hL:Bt L f=true) (hf:P.funcs[f]?=some fn) (hc:fn.body=some c) (hle:Nat.ble args.length fn.ntmps=true)
  (h:wS P L f fn.ntmps c (Env.args args) u W fun x e u W=>(x=.normal∨x=.ret)∧(∃ v,CB P fn.results.toList e W=some v)∧Q u W):MS P L f args u W Q:=by
 obtain ⟨n,x,a,e,u',W',h1,h2,h3,hx,⟨v,hv⟩,hq⟩:=mw h (UQ fn args) rfl; refine ⟨n+1,v,u',W',?_,hq⟩; rw [GU]; simp only [CD,hL,hf,hc,hle,Bool.not_true,cond_false,cond_true]; rw [h1]; refine BY _ _ ?_; have hd:a.defers=[]:=h2.2; have hr:=OE (e:=e) (ds:=[]) h2 hv; rcases hx with rfl | rfl <;> simp only [hd,List.isEmpty_nil,cond_true,hr]
def my (P:Program) (L:List FuncId) (fn:Func) (Q:Ending→CW→Prop) (e:Env):List Deferred→FrameMode→CW→Prop
 | [],u,W=>match u with
  | .returning=>wV (CB P fn.results.toList e W) fun v=>Q (.returned v) W
  | .panicking ch=>Q (.panicked ch) W
  | .run=>False
 | d::ds,u,W=>match d.target with
  | .fn (.func f) cap=>MS P L f (d.args.toList++cap.toList) u W fun u' W'=>my P L fn Q e ds (settle u') W'
  | _=>False
theorem M3 {fn:Func} {a:AJ} {e:Env} {Q:Ending→CW→Prop} (ha:AE a e a.defers):∀ (ds:List Deferred) (u:FrameMode) (W:CW),my P L fn Q e ds u W→∃ n o,leaves P (C2 P L n) fn a ds u W=some [o]∧Q o.1 o.2
 | [],u,W,h=>by
  cases u with
  | returning =>
   cases hv:CB P fn.results.toList e W with
   | none=>simp only [my,hv] at h; exact h.elim
   | some v =>
    simp only [my,hv] at h; exact ⟨0,(.returned v,W),by simp only [leaves,OE ha hv],h⟩
  | panicking ch=>exact ⟨0,(.panicked ch,W),rfl,h⟩
  | run=>exact h.elim
 | d::ds,u,W,h=>by
  obtain ⟨tg,vk⟩:=d
  cases tg with
  | fn f cap =>
   cases f with
   | func f =>
    obtain ⟨n,v,u',W',h1,h2⟩:=h; obtain ⟨m,o,h3,h4⟩:=M3 ha ds _ _ h2; refine ⟨max n m,o,?_,h4⟩; have h1':(C2 P L (max n m)).GN f (vk.toList++cap.toList) u W=some [(.returned v,u',W')]:=(DY (Nat.le_max_left n m)).GN h1; have h3':leaves P (C2 P L (max n m)) fn a ds (settle u') W'=some [o]:=Dn (DY (Nat.le_max_right n m)) h3; simp only [leaves]; rw [h1']; exact BY _ _ h3'
   | _=>exact h.elim
  | _=>exact h.elim
theorem mz {f:FuncId} {fn:Func} {c:Code} {args:List Value} {W:CW} {Q:Ending→CW→Prop} (hL:Bt L f=true) (qy:Bt L (f+1000000)=false) (mh:Bt L (f+2000000)=false) (hf:P.funcs[f]?=some fn) (hc:fn.body=some c)
  (hle:Nat.ble args.length fn.ntmps=true) (h:AK P L none f fn.ntmps c (Env.args args) [] W fun x e ds W=>match x with
   | .normal=>my P L fn Q e ds .returning W
   | .ret=>my P L fn Q e ds .returning W
   | .panic ch=>(∀ k n m,e 0≠.complex k n m)∧my P L fn Q e ds (.panicking ch) W
   | _=>False):AF P L f args W Q:=by
 obtain ⟨n,⟨x,a,W1⟩,h1,e,h2,h3,h4⟩:=E8 h (GO fn args) (UQ fn args) rfl; simp only at h2 h4
 have key:∀ {m:Nat} {o:Ending × CW},behind P (C2 P L (max n m)) fn x a W1=some [o]→(C2 P L (max n m+1)).call f args W=some [o]:=by
  intro m o ho; rw [GU]; simp only [CD,hL,qy,mh,hf,hc,hle,Bool.not_true,cond_false,cond_true,Bool.false_and]; rw [Fw (Nat.le_max_left n m) h1]; refine EO ?_; rw [←ho]
  cases x <;> rfl
 cases x with
 | normal =>
  obtain ⟨m,o,e1,e2⟩:=M3 h2 a.defers .returning W1 h4; exact ⟨_,o,key (m:=m) (Dn (DY (Nat.le_max_right n m)) e1),e2⟩
 | ret =>
  obtain ⟨m,o,e1,e2⟩:=M3 h2 a.defers .returning W1 h4; exact ⟨_,o,key (m:=m) (Dn (DY (Nat.le_max_right n m)) e1),e2⟩
 | panic ch =>
  obtain ⟨hb,h4⟩:=h4; obtain ⟨m,o,e1,e2⟩:=M3 h2 a.defers (.panicking ch) W1 h4; refine ⟨_,o,key (m:=m) ?_,e2⟩
  have FY:a.Lh=false:=by
   unfold AJ.Lh
   split
   ·rename_i n m hg
    exfalso
    refine hb .f64 n m ?_; rw [←h2.1 0]; unfold AJ.at
    rw [hg]; rfl
   ·rfl
  show cond a.Lh _ _=_; rw [FY]; exact Dn (DY (Nat.le_max_right n m)) e1
 | _=>exact h4.elim
end
end Go.Ce
namespace Go.Ce
open Go Go.Proofs Go.Proofs.Tryz
def gd (ro:Option Nat) (K:AG):AG:=Aw (fun e ds W=>wV (ld prog 24 (e 12) W) fun Ls=>wV (ld prog 24 (e 12) W) fun Gu=>wV (Aj prog 24 Gu W) fun F7=>Bw (blt prog .min [3,3] [F7,(.int .i64 1)] W) fun Ns Dd=>(((True)∧Aj prog 24 Gu W=some F7)∧(((True)∧ld prog 24 (e 12) W=some Gu)∧(((ld prog 24 (e 12) Dd=some Ls)∧ld prog 24 (e 12) W=some Ls)∧True)))∧True∧K .ret (Env.of e [(8,(.int .i64 0)),(7,Ns),(6,Ls),(55,Ns),(54,F7),(53,Gu),(52,Ls)]) ds Dd) K
theorem AAt (v0 v1 v2:Value) (K:AG) (W:CW):AK prog AV none 19 56 (AM prog 19) (Env.args [v0,v1,v2]) [] W K=(AF prog AV 47 [v0] W (AT (fun CP W0=>wV (ext CP 0) fun CH=>wV (ext CP 1) fun v20=>Bw (F5 prog 78 W0) fun v9 W2=>wV (CE prog 78 v9 CH W2) fun W3=>wV (KG v20) fun FX=>wI FX (K .ret (Env.of (Env.args [v0,v1,v2]) [(8,(.int .i64 210)),(7,(.int .i64 0)),(6,(.slice none 0 0)),(22,FX),(21,v20),(10,v20),(9,v9),(20,v20),(19,CH),(16,CP),(18,CP),(17,v0),(8,(.int .i64 0)),(7,(.int .i64 0)),(6,(.slice none 0 0))]) [] W3) (wV (ld prog 78 v9 W3) fun Eu=>AF prog AV 48 [Eu,v1] W3 (AT (fun Dx W4=>wV (ext Dx 0) fun D_=>wV (ext Dx 1) fun DG=>Bw (F5 prog 83 W4) fun v11 W6=>wV (CE prog 83 v11 D_ W6) fun W7=>wV (KG DG) fun v30=>wI v30 (K .ret (Env.of (Env.args [v0,v1,v2]) [(8,(.int .i64 212)),(7,(.int .i64 0)),(6,(.slice none 0 0)),(30,v30),(29,DG),(10,DG),(11,v11),(28,DG),(27,D_),(23,Dx),(26,Dx),(25,v1),(24,Eu),(22,FX),(21,v20),(10,v20),(9,v9),(20,v20),(19,CH),(16,CP),(18,CP),(17,v0),(8,(.int .i64 0)),(7,(.int .i64 0)),(6,(.slice none 0 0))]) [] W7) (Bw (F5 prog 24 W7) fun BR W8=>wV (some (.func (.func 73) #[] #[v9,v11,BR])) fun Ep=>AF prog AV 72 [v2,Ep] W8 (AT (fun EW W9=>wV (AU prog .neq 30 true EW (.int .i64 0)) fun FF=>wI FF (K .ret (Env.of (Env.args [v0,v1,v2]) [(8,EW),(7,(.int .i64 0)),(6,(.slice none 0 0)),(36,EW),(35,FF),(34,EW),(13,EW),(33,EW),(32,Ep),(31,v2),(12,BR),(30,v30),(29,DG),(10,DG),(11,v11),(28,DG),(27,D_),(23,Dx),(26,Dx),(25,v1),(24,Eu),(22,FX),(21,v20),(10,v20),(9,v9),(20,v20),(19,CH),(16,CP),(18,CP),(17,v0),(8,(.int .i64 0)),(7,(.int .i64 0)),(6,(.slice none 0 0))]) [] W9) (wV (ld prog 24 BR W9) fun Fh=>wV (Aj prog 24 Fh W9) fun IC=>C6 prog AV none 19 56 (.loop (Ae prog 19 0)) (Env.of (Env.args [v0,v1,v2]) [(39,(.int .i64 0)),(38,IC),(37,Fh),(35,FF),(34,EW),(13,EW),(33,EW),(32,Ep),(31,v2),(12,BR),(30,v30),(29,DG),(10,DG),(11,v11),(28,DG),(27,D_),(23,Dx),(26,Dx),(25,v1),(24,Eu),(22,FX),(21,v20),(10,v20),(9,v9),(20,v20),(19,CH),(16,CP),(18,CP),(17,v0),(8,(.int .i64 0)),(7,(.int .i64 0)),(6,(.slice none 0 0))]) [] W9 (Bm 0 (gd none K)))) (fun eH QG=>K (.panic eH) (Env.of (Env.args [v0,v1,v2]) [(32,Ep),(31,v2),(12,BR),(30,v30),(29,DG),(10,DG),(11,v11),(28,DG),(27,D_),(23,Dx),(26,Dx),(25,v1),(24,Eu),(22,FX),(21,v20),(10,v20),(9,v9),(20,v20),(19,CH),(16,CP),(18,CP),(17,v0),(8,(.int .i64 0)),(7,(.int .i64 0)),(6,(.slice none 0 0))]) [] QG)))) (fun ml W5=>K (.panic ml) (Env.of (Env.args [v0,v1,v2]) [(25,v1),(24,Eu),(22,FX),(21,v20),(10,v20),(9,v9),(20,v20),(19,CH),(16,CP),(18,CP),(17,v0),(8,(.int .i64 0)),(7,(.int .i64 0)),(6,(.slice none 0 0))]) [] W5)))) (fun L0 W1=>K (.panic L0) (Env.of (Env.args [v0,v1,v2]) [(17,v0),(8,(.int .i64 0)),(7,(.int .i64 0)),(6,(.slice none 0 0))]) [] W1))):=by kernel_rfl
def gf (ro:Option Nat) (K:AG):AG:=Aw (fun e ds W=>wV (AU prog .add 3 true (e 39) (.int .i64 1)) fun GH=>K .normal (Env.of e [(39,GH),(51,GH)]) ds W) K
theorem wA (ro:Option Nat) (e:Env) (ds:List Deferred) (K:AG) (W:CW):AK prog AV ro 19 56 (Ae prog 19 0) e ds W K=(wV (AU prog .lss 3 false (e 39) (e 38)) fun FZ=>wI FZ (wV (EV prog 24 (e 37) (e 39)) fun HL=>wV (ld prog 56 HL W) fun FE=>Bw (F5 prog 56 W) fun DE MR=>wV (CE prog 56 DE FE MR) fun Og=>wV (ld prog 24 (e 12) Og) fun KL=>wV (ld prog 83 (e 11) Og) fun Hx=>wV (ld prog 78 (e 9) Og) fun IU=>wV (ld prog 56 DE Og) fun IB=>AF prog AV 77 [Hx,IU,IB] Og (AT (fun Ix CQ=>wV (EV prog 24 KL (e 39)) fun Hr=>wV (CE prog 56 Hr Ix CQ) fun L5=>(((True)∧((True)∧ld prog 56 DE Og=some IB))∧(((True)∧((True)∧ld prog 78 (e 9) Og=some IU))∧(((True)∧((True)∧ld prog 83 (e 11) Og=some Hx))∧(((True)∧((ld prog 24 (e 12) CQ=some KL)∧ld prog 24 (e 12) Og=some KL))∧True))))∧True∧(gf ro K) .normal (Env.of e [(50,Hr),(49,Ix),(48,IB),(47,IU),(46,Hx),(45,(e 39)),(44,KL),(14,(e 39)),(15,DE),(43,FE),(42,HL),(41,(e 39)),(40,FZ)]) ds L5) (fun AAu NQ=>False))) (K (.exit 0) (Env.of e [(40,FZ)]) ds W)):=by kernel_rfl
theorem jM (Q:Ending→CW→Prop) (e:Env) (W:CW):AI prog Tryz.f19 Q .ret e [] W=Q (.returned (.tuple #[e 6,e 7,e 8])) W:=by kernel_rfl
theorem AAv {Q:Ending→CW→Prop} {v0 v1 v2:Value} {W:CW} (h:AK prog AV none 19 56 (AM prog 19) (Env.args [v0,v1,v2]) [] W (AI prog Tryz.f19 Q)):AF prog AV 19 [v0,v1,v2] W Q:=AX Tryz.func19 (by kernel_rfl) (by kernel_rfl) (by kernel_rfl) (by kernel_rfl) (by kernel_rfl) h
theorem AAw (v0 v1:Value) (K:AG) (W:CW):AK prog AV none 72 14 (AM prog 72) (Env.args [v0,v1]) [] W K=(Bw (F5 prog 30 W) fun v4 W0=>wV (Aj prog 29 v0 W0) fun v6=>wV (AU prog .gtr 3 true v6 (.int .i64 100000)) fun v7=>wI v7 (wV (CE prog 30 v4 (.int .i64 2) W0) fun W1=>K .ret (Env.of (Env.args [v0,v1]) [(7,v7),(6,v6),(5,v0),(4,v4)]) [] W1) (wV (QF prog 170 [(0,v0)]) fun v11=>Bw (QE prog 170 v11 W0) fun BR W2=>DZ prog AV v1 [BR] W2 (fun DQ W3=>wV (CE prog 30 v4 (.int .i64 0) W3) fun W5=>K .ret (Env.of (Env.args [v0,v1]) [(13,DQ),(12,BR),(11,v11),(10,v0),(9,v1),(8,(.func (.func 109) #[] #[v4])),(7,v7),(6,v6),(5,v0),(4,v4)]) (({ target:=.fn (.func 109) #[v4],args:=#[] }:Deferred)::[]) W5) (fun tX W4=>K (.panic tX) (Env.of (Env.args [v0,v1]) [(12,BR),(11,v11),(10,v0),(9,v1),(8,(.func (.func 109) #[] #[v4])),(7,v7),(6,v6),(5,v0),(4,v4)]) (({ target:=.fn (.func 109) #[v4],args:=#[] }:Deferred)::[]) W4))):=by kernel_rfl
theorem AAx (v0 v1 v2 v3:Value) (K:AG) (W:CW):AK prog AV none 73 9 (AM prog 73) (Env.args [v0,v1,v2,v3]) [] W K=(wV (ld prog 78 v1 W) fun v6=>wV (some (.func (.func 75) #[] #[v1,v2])) fun v7=>AF prog AV 74 [v0,v6,v7] W (AT (fun v8 W0=>wV (CE prog 24 v3 v8 W0) fun W2=>K .normal (Env.of (Env.args [v0,v1,v2,v3]) [(8,v8),(7,v7),(6,v6),(5,v0)]) [] W2) (fun L0 W1=>K (.panic L0) (Env.of (Env.args [v0,v1,v2,v3]) [(7,v7),(6,v6),(5,v0)]) [] W1))):=by kernel_rfl
theorem AAy {Q:Ending→CW→Prop} {v0 v1 v2 v3:Value} {W:CW} (h:AK prog AV none 73 9 (AM prog 73) (Env.args [v0,v1,v2,v3]) [] W (AI prog Tryz.f73 Q)):AF prog AV 73 [v0,v1,v2,v3] W Q:=AX Tryz.func73 (by kernel_rfl) (by kernel_rfl) (by kernel_rfl) (by kernel_rfl) (by kernel_rfl) h
def Hy (ro:Option Nat) (K:AG):AG:=Aw (fun e ds W=>K .ret (Env.of e [(6,(e 11)),(139,(e 11))]) ds W) K
def YO (ro:Option Nat) (K:AG):AG:=Aw (fun e ds W=>wV (ld prog 3 (e 10) W) fun Hz=>wV (ld prog 3 (e 8) W) fun GJ=>wV (AU prog .eql 3 false Hz GJ) fun KN=>wI KN (wV (Aj prog 51 (e 7) W) fun IV=>wV (AU prog .eql 3 false (e 9) IV) fun Iy=>wI Iy (wV (ld prog 124 (e 3) W) fun KI=>wV (IM KI) fun jN=>wV (A0 prog 170 jN 1) fun OJ=>wV (ld prog 3 OJ W) fun aA=>wV (ld prog 124 (e 3) W) fun NR=>wV (IM NR) fun m0=>wV (A0 prog 170 m0 0) fun aB=>wV (ld prog 29 aB W) fun Iv=>wV (Aj prog 29 Iv W) fun KJ=>wV (AU prog .eql 3 false aA KJ) fun Hw=>AF prog AV 76 [Hw,(.int .i64 4)] W (AT (fun Sw Dd=>(((True)∧Aj prog 29 Iv W=some KJ)∧(((True)∧ld prog 29 aB W=some Iv)∧(((True)∧ld prog 124 (e 3) W=some NR)∧(((True)∧ld prog 3 OJ W=some aA)∧(((True)∧ld prog 124 (e 3) W=some KI)∧(((True)∧Aj prog 51 (e 7) W=some IV)∧(((True)∧ld prog 3 (e 8) W=some GJ)∧(((True)∧ld prog 3 (e 10) W=some Hz)∧True))))))))∧True∧(Hy ro K) .normal (Env.of e [(138,Sw),(137,Hw),(136,Hw),(126,(.bool true)),(135,KJ),(126,(.bool true)),(134,Iv),(126,(.bool true)),(133,aB),(126,(.bool true)),(132,m0),(126,(.bool true)),(131,NR),(126,(.bool true)),(130,aA),(126,(.bool true)),(129,OJ),(126,(.bool true)),(128,jN),(126,(.bool true)),(127,KI),(126,(.bool true)),(126,Iy),(125,Iy),(124,Iy),(120,(.bool true)),(123,IV),(120,(.bool true)),(122,(e 7)),(120,(.bool true)),(121,(e 9)),(120,(.bool true)),(120,KN),(119,KN),(118,GJ),(117,Hz)]) ds Dd) (fun wB H0=>(Aj prog 29 Iv W=some KJ∧(ld prog 29 aB W=some Iv∧(ld prog 124 (e 3) W=some NR∧(ld prog 3 OJ W=some aA∧(ld prog 124 (e 3) W=some KI∧(Aj prog 51 (e 7) W=some IV∧(ld prog 3 (e 8) W=some GJ∧(ld prog 3 (e 10) W=some Hz∧True))))))))∧(Hy ro K) (.panic wB) Env.bad ds H0))) (AF prog AV 76 [(.bool false),(.int .i64 4)] W (AT (fun Sw Iw=>(((True)∧Aj prog 51 (e 7) W=some IV)∧(((True)∧ld prog 3 (e 8) W=some GJ)∧(((True)∧ld prog 3 (e 10) W=some Hz)∧True)))∧True∧(Hy ro K) .normal (Env.of e [(138,Sw),(137,(.bool false)),(136,undef),(126,(.bool false)),(135,undef),(126,(.bool false)),(134,undef),(126,(.bool false)),(133,undef),(126,(.bool false)),(132,undef),(126,(.bool false)),(131,undef),(126,(.bool false)),(130,undef),(126,(.bool false)),(129,undef),(126,(.bool false)),(128,undef),(126,(.bool false)),(127,undef),(126,(.bool false)),(126,Iy),(125,Iy),(124,Iy),(120,(.bool true)),(123,IV),(120,(.bool true)),(122,(e 7)),(120,(.bool true)),(121,(e 9)),(120,(.bool true)),(120,KN),(119,KN),(118,GJ),(117,Hz)]) ds Iw) (fun q5 MR=>(Aj prog 51 (e 7) W=some IV∧(ld prog 3 (e 8) W=some GJ∧(ld prog 3 (e 10) W=some Hz∧True)))∧(Hy ro K) (.panic q5) Env.bad ds MR)))) (AF prog AV 76 [(.bool false),(.int .i64 4)] W (AT (fun Sw Og=>(((True)∧ld prog 3 (e 8) W=some GJ)∧(((True)∧ld prog 3 (e 10) W=some Hz)∧True))∧True∧(Hy ro K) .normal (Env.of e [(138,Sw),(137,(.bool false)),(136,undef),(126,(.bool false)),(135,undef),(126,(.bool false)),(134,undef),(126,(.bool false)),(133,undef),(126,(.bool false)),(132,undef),(126,(.bool false)),(131,undef),(126,(.bool false)),(130,undef),(126,(.bool false)),(129,undef),(126,(.bool false)),(128,undef),(126,(.bool false)),(127,undef),(126,(.bool false)),(126,(.bool false)),(125,(.bool false)),(124,undef),(120,(.bool false)),(123,undef),(120,(.bool false)),(122,undef),(120,(.bool false)),(121,undef),(120,(.bool false)),(120,KN),(119,KN),(118,GJ),(117,Hz)]) ds Og) (fun wC CQ=>(ld prog 3 (e 8) W=some GJ∧(ld prog 3 (e 10) W=some Hz∧True))∧(Hy ro K) (.panic wC) Env.bad ds CQ)))) K
theorem AAz (v0 v1 v2:Value) (K:AG) (W:CW):AK prog AV none 74 140 (AM prog 74) (Env.args [v0,v1,v2]) [] W K=(Bw (QE prog 124 v0 W) fun v3 W0=>Bw (QE prog 78 v1 W0) fun v4 W1=>wV (ld prog 124 v3 W1) fun CH=>AF prog AV 92 [CH,v2] W1 (AT (fun DR W2=>wV (ld prog 124 v3 W2) fun FX=>AF prog AV 110 [FX,(.int .i64 1000)] W2 (AT (fun Da W4=>Bw (F5 prog 3 W4) fun v8 W6=>wV (CE prog 3 v8 Da W6) fun W7=>wV (ld prog 3 v8 (W7.new (.cells .nil 1 #[.int .i64 0] 3))) fun Eu=>Bw (blt prog .min [3,3] [Eu,(.int .i64 1)] (W7.new (.cells .nil 1 #[.int .i64 0] 3))) fun Dc W8=>true=true∧wV (CE prog 3 (.pointer (some ⟨W7.sz,0,none⟩)) Dc W8) fun W9=>(((True)∧((True)∧ld prog 3 v8 (W7.new (.cells .nil 1 #[.int .i64 0] 3))=some Eu))∧True)∧(((True)∧((G5 (.pointer (some ⟨W7.sz,0,none⟩)) ((W7.new (.cells .nil 1 #[.int .i64 0] 3)).obj W7.sz) W8=true)∧G5 (.pointer (some ⟨W7.sz,0,none⟩)) ((W7.new (.cells .nil 1 #[.int .i64 0] 3)).obj W7.sz) (W7.new (.cells .nil 1 #[.int .i64 0] 3))=true))∧True)∧wV (ld prog 3 v8 W9) fun Dx=>C6 prog AV none 74 140 (.loop (Ae prog 74 0)) (Env.of (Env.args [v0,v1,v2]) [(27,(.int .i64 0)),(26,Dx),(11,(.slice none 0 0)),(9,(.int .i64 0)),(10,(.pointer (some ⟨W7.sz,0,none⟩))),(25,Dc),(24,Eu),(8,v8),(23,Da),(22,FX),(7,DR),(21,DR),(20,v2),(19,CH),(6,(.slice none 0 0)),(4,v4),(3,v3)]) [] W9 (Bm 0 (YO none K))) (fun ml W5=>K (.panic ml) (Env.of (Env.args [v0,v1,v2]) [(22,FX),(7,DR),(21,DR),(20,v2),(19,CH),(6,(.slice none 0 0)),(4,v4),(3,v3)]) [] W5))) (fun Wo W3=>K (.panic Wo) (Env.of (Env.args [v0,v1,v2]) [(20,v2),(19,CH),(6,(.slice none 0 0)),(4,v4),(3,v3)]) [] W3))):=by kernel_rfl
def GV (ro:Option Nat) (K:AG):AG:=Aw (fun e ds W=>wV (AU prog .add 3 true (e 27) (.int .i64 1)) fun KM=>K .normal (Env.of e [(27,KM),(116,KM)]) ds W) K
def TI (ro:Option Nat) (K:AG):AG:=Aw (fun e ds W=>wV (ld prog 56 (e 14) W) fun Iz=>Bw (V3 prog 24 1 [(0,Iz)] W) fun NS W28=>Bw (app prog [24,24] (e 11) NS W28) fun MT gb=>(GV ro K) .normal (Env.of e [(11,MT),(115,MT),(114,NS),(113,Iz),(112,(e 11))]) ds gb) (Bm 1 (GV ro K))
def LK (ro:Option Nat) (K:AG):AG:=Aw (fun e ds W=>Bw (mks prog 40 (e 15) (e 15) W) fun J4 cn=>wV (A0 prog 56 (e 14) 1) fun J5=>wV (CE prog 40 J5 J4 cn) fun VX=>wV (ld prog 78 (e 4) VX) fun HP=>wV (ld prog 56 (e 14) VX) fun UY=>AF prog AV 62 [HP,UY] VX (AT (fun UZ Q6=>C6 prog AV ro 74 140 (.rangeFunc (.tmp 71) #[72,73] (AS prog 74 0) (AQ prog 74 0)) (Env.of e [(71,UZ),(70,UY),(69,HP),(68,J5),(67,J4),(66,(e 15))]) ds Q6 (Bm 2 (TI ro K))) (fun AA0 wD=>(TI ro K) (.panic AA0) (Env.of e [(70,UY),(69,HP),(68,J5),(67,J4),(66,(e 15))]) ds wD))) (Bm 1 (GV ro K))
def TK (ro:Option Nat) (K:AG):AG:=Aw (fun e ds W=>wV (EV prog 51 (e 7) (e 13)) fun IB=>wV (ld prog 9 IB W) fun Ix=>wV (QF prog 56 [(0,Ix)]) fun Hr=>Bw (F5 prog 56 W) fun Bk eF=>wV (CE prog 56 Bk Hr eF) fun VY=>wV (A0 prog 78 (e 4) 1) fun GH=>wV (ld prog 76 GH VY) fun Ls=>wV (A0 prog 56 Bk 0) fun Gu=>wV (ld prog 9 Gu VY) fun F7=>wV (GL prog 76 Ls F7 false VY) fun Ns=>wV (Aj prog 29 Ns VY) fun FU=>wV (A0 prog 78 (e 4) 0) fun SP=>wV (ld prog 75 SP VY) fun Hq=>wV (A0 prog 56 Bk 0) fun Fx=>wV (ld prog 9 Fx VY) fun E_=>wV (GL prog 75 Hq E_ false VY) fun FR=>wV (tU prog 48 FR 3) fun aC=>wV (AU prog .neq 5 true aC (.int .u8 0)) fun PC=>wI PC (wV (ld prog 124 (e 3) VY) fun K2=>AF prog AV 110 [K2,(.int .i64 200)] VY (AT (fun Ll eG=>(LK ro K) .normal (Env.of e [(15,Ll),(65,Ll),(64,K2),(63,PC),(62,aC),(61,FR),(60,E_),(59,Fx),(58,Hq),(57,SP),(15,FU),(56,FU),(55,Ns),(54,F7),(53,Gu),(52,Ls),(51,GH),(14,Bk),(50,Hr),(49,Ix),(48,IB),(47,(e 13)),(46,(e 7))]) ds eG) (fun wE Q_=>(LK ro K) (.panic wE) (Env.of e [(64,K2),(63,PC),(62,aC),(61,FR),(60,E_),(59,Fx),(58,Hq),(57,SP),(15,FU),(56,FU),(55,Ns),(54,F7),(53,Gu),(52,Ls),(51,GH),(14,Bk),(50,Hr),(49,Ix),(48,IB),(47,(e 13)),(46,(e 7))]) ds Q_))) ((LK ro K) .normal (Env.of e [(63,PC),(62,aC),(61,FR),(60,E_),(59,Fx),(58,Hq),(57,SP),(15,FU),(56,FU),(55,Ns),(54,F7),(53,Gu),(52,Ls),(51,GH),(14,Bk),(50,Hr),(49,Ix),(48,IB),(47,(e 13)),(46,(e 7))]) ds VY)) (Bm 1 (GV ro K))
theorem wF (ro:Option Nat) (e:Env) (ds:List Deferred) (K:AG) (W:CW):AK prog AV ro 74 140 (Ae prog 74 0) e ds W K=(wV (AU prog .lss 3 false (e 27) (e 26)) fun DG=>wI DG (wV (ld prog 3 (e 10) W) fun EA=>wV (AU prog .lss 3 false (e 27) EA) fun Ep=>AF prog AV 76 [Ep,(.int .i64 4)] W (AT (fun EW J6=>wV (ld prog 124 (e 3) J6) fun Fi=>wV (Aj prog 51 (e 7) J6) fun Fh=>wV (AU prog .sub 3 true Fh (.int .i64 1)) fun IC=>Bw (blt prog .min [3,3] [(e 9),IC] J6) fun JO k_=>AF prog AV 110 [Fi,JO] k_ (AT (fun FZ p8=>wV (AU prog .eql 3 false FZ (e 9)) fun FE=>wI FE (wV (AU prog .add 3 true (e 9) (.int .i64 1)) fun FT=>(TK ro K) .normal (Env.of e [(9,FT),(45,FT),(44,(e 9)),(43,FE),(42,(e 9)),(41,FZ),(13,FZ),(40,FZ),(39,JO),(38,IC),(37,Fh),(36,(e 7)),(35,(e 9)),(34,Fi),(33,EW),(32,Ep),(31,EA),(30,(e 27)),(12,(e 27)),(29,(e 27)),(28,DG)]) ds p8) ((TK ro K) .normal (Env.of e [(43,FE),(42,(e 9)),(41,FZ),(13,FZ),(40,FZ),(39,JO),(38,IC),(37,Fh),(36,(e 7)),(35,(e 9)),(34,Fi),(33,EW),(32,Ep),(31,EA),(30,(e 27)),(12,(e 27)),(29,(e 27)),(28,DG)]) ds p8)) (fun wG jK=>(GV ro K) (.panic wG) (Env.of e [(39,JO),(38,IC),(37,Fh),(36,(e 7)),(35,(e 9)),(34,Fi),(33,EW),(32,Ep),(31,EA),(30,(e 27)),(12,(e 27)),(29,(e 27)),(28,DG)]) ds jK))) (fun YP QH=>(GV ro K) (.panic YP) (Env.of e [(32,Ep),(31,EA),(30,(e 27)),(12,(e 27)),(29,(e 27)),(28,DG)]) ds QH))) (K (.exit 0) (Env.of e [(28,DG)]) ds W)):=by kernel_rfl
theorem wH (ro:Option Nat) (e:Env) (ds:List Deferred) (K:AG) (W:CW):AK prog AV ro 74 140 (AS prog 74 0) e ds W K=(K .normal (Env.of e [(17,(e 73)),(16,(e 72))]) ds W):=by kernel_rfl
theorem wJ (ro:Option Nat) (e:Env) (ds:List Deferred) (K:AG) (W:CW):AK prog AV ro 74 140 (AQ prog 74 0) e ds W K=(wV (AU prog .eql 5 true (e 17) (.int .u8 2)) fun HQ=>wI HQ (wV (A0 prog 56 (e 14) 1) fun OK=>wV (ld prog 40 OK W) fun Jm=>wV (ld prog 124 (e 3) W) fun Nt=>wV (ld prog 3 (e 10) W) fun JN=>wV (AU prog .add 3 true JN (.int .i64 1)) fun v81=>wV (ld prog 3 (e 8) W) fun Ws=>Bw (blt prog .min [3,3] [v81,Ws] W) fun eI jO=>AF prog AV 110 [Nt,eI] jO (AT (fun L4 W38=>wV (EV prog 40 Jm (e 16)) fun QI=>wV (CE prog 3 QI L4 W38) fun wK=>(((True)∧((True)∧((True)∧ld prog 3 (e 8) W=some Ws)))∧(((True)∧((True)∧((True)∧ld prog 3 (e 10) W=some JN)))∧(((True)∧((True)∧((ld prog 124 (e 3) jO=some Nt)∧ld prog 124 (e 3) W=some Nt)))∧(((True)∧((ld prog 40 OK W38=some Jm)∧((ld prog 40 OK jO=some Jm)∧ld prog 40 OK W=some Jm)))∧True))))∧True∧wV (ld prog 3 (e 10) wK) fun PD=>wV (A0 prog 56 (e 14) 1) fun VZ=>wV (ld prog 40 VZ wK) fun Q2=>wV (EV prog 40 Q2 (e 16)) fun OH=>wV (ld prog 3 OH wK) fun Nr=>Bw (blt prog .max [3,3] [PD,Nr] wK) fun V6 W41=>wV (CE prog 3 (e 10) V6 W41) fun W42=>(((True)∧((True)∧ld prog 3 OH wK=some Nr))∧(((True)∧((True)∧ld prog 40 VZ wK=some Q2))∧(((True)∧((True)∧ld prog 3 (e 10) wK=some PD))∧True)))∧True∧K .normal (Env.of e [(92,V6),(91,Nr),(90,OH),(89,(e 16)),(88,Q2),(87,VZ),(86,PD),(85,QI),(84,L4),(83,eI),(82,Ws),(81,v81),(80,JN),(79,Nt),(78,(e 16)),(77,Jm),(76,OK),(75,HQ),(74,(e 17))]) ds W42) (fun ADk W39=>(((True)∧ld prog 3 (e 8) W=some Ws)∧(((True)∧ld prog 3 (e 10) W=some JN)∧(((ld prog 124 (e 3) jO=some Nt)∧ld prog 124 (e 3) W=some Nt)∧(((ld prog 40 OK jO=some Jm)∧ld prog 40 OK W=some Jm)∧True))))∧K (.panic ADk) Env.bad ds W39))) (wV (ld prog 124 (e 3) W) fun Sx=>AF prog AV 110 [Sx,(.int .i64 2000000000)] W (AT (fun YQ W43=>wV (A0 prog 56 (e 14) 1) fun TG=>wV (ld prog 40 TG W43) fun TH=>wV (AU prog .quo 3 true YQ (.int .i64 2)) fun cq=>wV (EV prog 40 TH (e 16)) fun Lt=>wV (CE prog 3 Lt cq W43) fun W45=>wV (AU prog .rem 3 true YQ (.int .i64 2)) fun MU=>wV (AU prog .eql 3 true MU (.int .i64 1)) fun Gt=>wI Gt (wV (A0 prog 56 (e 14) 1) fun NO=>wV (ld prog 40 NO W45) fun OI=>wV (AU prog .add 3 true YQ (.int .i64 1)) fun LJ=>wV (neg LJ) fun m5=>wV (AU prog .quo 3 true m5 (.int .i64 2)) fun Sy=>wV (EV prog 40 OI (e 16)) fun Ua=>wV (CE prog 3 Ua Sy W45) fun W46=>K .normal (Env.of e [(111,Ua),(110,Sy),(109,m5),(108,LJ),(107,YQ),(106,(e 16)),(105,OI),(104,NO),(103,Gt),(102,MU),(101,YQ),(100,Lt),(99,cq),(98,YQ),(97,(e 16)),(96,TH),(95,TG),(18,YQ),(94,YQ),(93,Sx),(75,HQ),(74,(e 17))]) ds W46) (K .normal (Env.of e [(103,Gt),(102,MU),(101,YQ),(100,Lt),(99,cq),(98,YQ),(97,(e 16)),(96,TH),(95,TG),(18,YQ),(94,YQ),(93,Sx),(75,HQ),(74,(e 17))]) ds W45)) (fun ADl W44=>K (.panic ADl) (Env.of e [(93,Sx),(75,HQ),(74,(e 17))]) ds W44)))):=by kernel_rfl
theorem jP (Q:Ending→CW→Prop) (e:Env) (W:CW):AI prog Tryz.f74 Q .ret e [] W=Q (.returned (e 6)) W:=by kernel_rfl
theorem AA1 {Q:Ending→CW→Prop} {v0 v1 v2:Value} {W:CW} (h:AK prog AV none 74 140 (AM prog 74) (Env.args [v0,v1,v2]) [] W (AI prog Tryz.f74 Q)):AF prog AV 74 [v0,v1,v2] W Q:=AX Tryz.func74 (by kernel_rfl) (by kernel_rfl) (by kernel_rfl) (by kernel_rfl) (by kernel_rfl) h
theorem AA2 (v0 v1 v2:Value) (K:AG) (W:CW):AK prog AV none 75 27 (AM prog 75) (Env.args [v0,v1,v2]) [] W K=(wV (A0 prog 78 v1 0) fun v9=>wV (ld prog 75 v9 W) fun v10=>wV (GL prog 75 v10 v0 true W) fun BR=>wV (ext BR 0) fun DQ=>wV (ext BR 1) fun Bk=>Bw (F5 prog 48 W) fun v4 W0=>wV (CE prog 48 v4 DQ W0) fun W1=>AF prog AV 76 [Bk,(.int .i64 213)] W1 (AT (fun DS W2=>wV (A0 prog 83 v2 0) fun CP=>wV (ld prog 81 CP W2) fun CH=>wV (GL prog 81 CH v0 true W2) fun DR=>wV (ext DR 0) fun FX=>wV (ext DR 1) fun Da=>Bw (F5 prog 58 W2) fun v6 W4=>wV (CE prog 58 v6 FX W4) fun W5=>wV (KG Da) fun Dc=>AF prog AV 76 [Dc,(.int .i64 214)] W5 (AT (fun Dx W6=>K .normal (Env.of (Env.args [v0,v1,v2]) [(26,Dx),(25,Dc),(24,Da),(7,Da),(6,v6),(23,Da),(22,FX),(17,DR),(21,DR),(20,v0),(19,CH),(18,CP),(16,DS),(15,Bk),(5,Bk),(4,v4),(14,Bk),(13,DQ),(8,BR),(12,BR),(11,v0),(10,v10),(9,v9)]) [] W6) (fun q7 W7=>K (.panic q7) (Env.of (Env.args [v0,v1,v2]) [(25,Dc),(24,Da),(7,Da),(6,v6),(23,Da),(22,FX),(17,DR),(21,DR),(20,v0),(19,CH),(18,CP),(16,DS),(15,Bk),(5,Bk),(4,v4),(14,Bk),(13,DQ),(8,BR),(12,BR),(11,v0),(10,v10),(9,v9)]) [] W7))) (fun Wo W3=>K (.panic Wo) (Env.of (Env.args [v0,v1,v2]) [(15,Bk),(5,Bk),(4,v4),(14,Bk),(13,DQ),(8,BR),(12,BR),(11,v0),(10,v10),(9,v9)]) [] W3))):=by kernel_rfl
theorem AA3 {Q:Ending→CW→Prop} {v0 v1 v2:Value} {W:CW} (h:AK prog AV none 75 27 (AM prog 75) (Env.args [v0,v1,v2]) [] W (AI prog Tryz.f75 Q)):AF prog AV 75 [v0,v1,v2] W Q:=AX Tryz.func75 (by kernel_rfl) (by kernel_rfl) (by kernel_rfl) (by kernel_rfl) (by kernel_rfl) h
theorem AA4 (v0 v1:Value) (K:AG) (W:CW):AK prog AV none 76 9 (AM prog 76) (Env.args [v0,v1]) [] W K=(wV (KG v0) fun v5=>wI v5 (wV (QF prog 167 [(0,v1)]) fun v7=>wV (mki prog 167 v7) fun v8=>ADe v8 fun ch0=>K (.panic ch0) (Env.of (Env.args [v0,v1]) [(8,v8),(7,v7),(6,v1),(5,v5),(4,v0)]) [] W) (K .normal (Env.of (Env.args [v0,v1]) [(5,v5),(4,v0)]) [] W)):=by kernel_rfl
theorem AA5 {Q:Ending→CW→Prop} {v0 v1:Value} {W:CW} (h:AK prog AV none 76 9 (AM prog 76) (Env.args [v0,v1]) [] W (AI prog Tryz.f76 Q)):AF prog AV 76 [v0,v1] W Q:=AX Tryz.func76 (by kernel_rfl) (by kernel_rfl) (by kernel_rfl) (by kernel_rfl) (by kernel_rfl) h
def gg (ro:Option Nat) (K:AG):AG:=Aw (fun e ds W=>wV (ld prog 56 (e 9) W) fun GH=>wV (CE prog 56 (e 6) GH W) fun W9=>K .ret (Env.of e [(51,GH)]) ds W9) K
theorem AA6 (v0 v1 v2:Value) (K:AG) (W:CW):AK prog AV none 77 52 (AM prog 77) (Env.args [v0,v1,v2]) [] W K=(Bw (QE prog 83 v0 W) fun v3 W0=>Bw (QE prog 78 v1 W0) fun v4 W1=>Bw (QE prog 56 v2 W1) fun v5 W2=>Bw (F5 prog 56 W2) fun v6 W3=>wV (A0 prog 83 v3 1) fun DQ=>wV (ld prog 81 DQ W3) fun Bk=>wV (A0 prog 56 v5 0) fun DE=>wV (ld prog 9 DE W3) fun DS=>wV (GL prog 81 Bk DS true W3) fun B7=>wV (ext B7 0) fun CP=>wV (ext B7 1) fun CH=>Bw (F5 prog 58 W3) fun v7 W4=>wV (CE prog 58 v7 CP W4) fun W5=>wV (KG CH) fun DR=>wI DR (wV (ld prog 56 v5 W5) fun FX=>wV (CE prog 56 v6 FX W5) fun W6=>K .ret (Env.of (Env.args [v0,v1,v2]) [(22,FX),(21,DR),(20,CH),(8,CH),(7,v7),(19,CH),(18,CP),(12,B7),(17,B7),(16,DS),(15,DE),(14,Bk),(13,DQ),(6,v6),(5,v5),(4,v4),(3,v3)]) [] W6) (wV (A0 prog 58 v7 0) fun Da=>wV (ld prog 9 Da (W5.new (.cells .nil 2 #[.string ⟨#[]⟩,.slice none 0 0] 56))) fun Eu=>wV (A0 prog 78 v4 1) fun Dc=>wV (ld prog 76 Dc (W5.new (.cells .nil 2 #[.string ⟨#[]⟩,.slice none 0 0] 56))) fun Dx=>wV (A0 prog 58 v7 0) fun D_=>wV (ld prog 9 D_ (W5.new (.cells .nil 2 #[.string ⟨#[]⟩,.slice none 0 0] 56))) fun DG=>wV (GL prog 76 Dx DG false (W5.new (.cells .nil 2 #[.string ⟨#[]⟩,.slice none 0 0] 56))) fun D'=>wV (Aj prog 29 D' (W5.new (.cells .nil 2 #[.string ⟨#[]⟩,.slice none 0 0] 56))) fun v30=>Bw (mks prog 40 v30 v30 (W5.new (.cells .nil 2 #[.string ⟨#[]⟩,.slice none 0 0] 56))) fun EA W7=>wV (QF prog 56 [(0,Eu),(1,EA)]) fun Ep=>true=true∧wV (CE prog 56 (.pointer (some ⟨W5.sz,0,none⟩)) Ep W7) fun W8=>(((True)∧((True)∧Aj prog 29 D' (W5.new (.cells .nil 2 #[.string ⟨#[]⟩,.slice none 0 0] 56))=some v30))∧(((True)∧((True)∧GL prog 76 Dx DG false (W5.new (.cells .nil 2 #[.string ⟨#[]⟩,.slice none 0 0] 56))=some D'))∧(((True)∧((True)∧ld prog 9 D_ (W5.new (.cells .nil 2 #[.string ⟨#[]⟩,.slice none 0 0] 56))=some DG))∧(((True)∧((True)∧ld prog 76 Dc (W5.new (.cells .nil 2 #[.string ⟨#[]⟩,.slice none 0 0] 56))=some Dx))∧(((True)∧((ld prog 9 Da W7=some Eu)∧ld prog 9 Da (W5.new (.cells .nil 2 #[.string ⟨#[]⟩,.slice none 0 0] 56))=some Eu))∧True)))))∧(((True)∧((G5 (.pointer (some ⟨W5.sz,0,none⟩)) ((W5.new (.cells .nil 2 #[.string ⟨#[]⟩,.slice none 0 0] 56)).obj W5.sz) W7=true)∧G5 (.pointer (some ⟨W5.sz,0,none⟩)) ((W5.new (.cells .nil 2 #[.string ⟨#[]⟩,.slice none 0 0] 56)).obj W5.sz) (W5.new (.cells .nil 2 #[.string ⟨#[]⟩,.slice none 0 0] 56))=true))∧True)∧wV (A0 prog 58 v7 2) fun EW=>wV (ld prog 40 EW W8) fun Fi=>wV (Aj prog 40 Fi W8) fun FF=>C6 prog AV none 77 52 (.loop (Ae prog 77 0)) (Env.of (Env.args [v0,v1,v2]) [(36,(.int .i64 0)),(35,FF),(34,Fi),(33,EW),(9,(.pointer (some ⟨W5.sz,0,none⟩))),(32,Ep),(31,EA),(30,v30),(29,D'),(28,DG),(27,D_),(26,Dx),(25,Dc),(24,Eu),(23,Da),(21,DR),(20,CH),(8,CH),(7,v7),(19,CH),(18,CP),(12,B7),(17,B7),(16,DS),(15,DE),(14,Bk),(13,DQ),(6,v6),(5,v5),(4,v4),(3,v3)]) [] W8 (Bm 0 (gg none K)))):=by kernel_rfl
def gh (ro:Option Nat) (K:AG):AG:=Aw (fun e ds W=>wV (AU prog .add 3 true (e 36) (.int .i64 1)) fun Hr=>K .normal (Env.of e [(36,Hr),(50,Hr)]) ds W) K
theorem wL (ro:Option Nat) (e:Env) (ds:List Deferred) (K:AG) (W:CW):AK prog AV ro 77 52 (Ae prog 77 0) e ds W K=(wV (AU prog .lss 3 false (e 36) (e 35)) fun Fh=>wI Fh (wV (EV prog 40 (e 34) (e 36)) fun JO=>wV (ld prog 3 JO W) fun FZ=>wV (A0 prog 56 (e 9) 1) fun FL=>wV (ld prog 40 FL W) fun HL=>wV (A0 prog 56 (e 5) 1) fun KL=>wV (ld prog 40 KL W) fun FT=>wV (EV prog 40 FT (e 36)) fun IU=>wV (ld prog 3 IU W) fun IB=>wV (EV prog 40 HL FZ) fun Ix=>wV (CE prog 3 Ix IB W) fun H0=>(((True)∧ld prog 3 IU W=some IB)∧(((True)∧ld prog 40 KL W=some FT)∧(((True)∧ld prog 40 FL W=some HL)∧True)))∧True∧(gh ro K) .normal (Env.of e [(49,Ix),(48,IB),(47,IU),(46,(e 36)),(45,FT),(44,KL),(43,FZ),(42,HL),(41,FL),(11,FZ),(10,(e 36)),(40,FZ),(39,JO),(38,(e 36)),(37,Fh)]) ds H0) (K (.exit 0) (Env.of e [(37,Fh)]) ds W)):=by kernel_rfl
theorem AA7 {Q:Ending→CW→Prop} {v0 v1 v2:Value} {W:CW} (h:AK prog AV none 77 52 (AM prog 77) (Env.args [v0,v1,v2]) [] W (AI prog Tryz.f77 Q)):AF prog AV 77 [v0,v1,v2] W Q:=AX Tryz.func77 (by kernel_rfl) (by kernel_rfl) (by kernel_rfl) (by kernel_rfl) (by kernel_rfl) h
def LL (ro:Option Nat) (K:AG):AG:=Aw (fun e ds W=>K .ret (Env.of e [(4,(e 5)),(37,(e 5))]) ds W) K
theorem AA8 (v0 v1:Value) (K:AG) (W:CW):AK prog AV none 92 38 (AM prog 92) (Env.args [v0,v1]) [] W K=(AF prog AV 110 [v0,(.int .i64 128)] W (AT (fun v8 W0=>wV (AU prog .eql 3 true v8 (.int .i64 1)) fun v9=>AF prog AV 76 [v9,(.int .i64 4)] W0 (AT (fun v10 W2=>AF prog AV 110 [v0,(.int .i64 100)] W2 (AT (fun BR W5=>C6 prog AV none 92 38 (.loop (Ae prog 92 0)) (Env.of (Env.args [v0,v1]) [(13,(.int .i64 0)),(12,BR),(11,v0),(5,(.slice none 0 0)),(10,v10),(9,v9),(8,v8),(7,v0),(4,(.slice none 0 0))]) [] W5 (Bm 0 (LL none K))) (fun ch6 W6=>(LL none K) (.panic ch6) (Env.of (Env.args [v0,v1]) [(11,v0),(5,(.slice none 0 0)),(10,v10),(9,v9),(8,v8),(7,v0),(4,(.slice none 0 0))]) [] W6))) (fun Wo W3=>K (.panic Wo) (Env.of (Env.args [v0,v1]) [(9,v9),(8,v8),(7,v0),(4,(.slice none 0 0))]) [] W3))) (fun L0 W1=>K (.panic L0) (Env.of (Env.args [v0,v1]) [(7,v0),(4,(.slice none 0 0))]) [] W1))):=by kernel_rfl
def IW (ro:Option Nat) (K:AG):AG:=Aw (fun e ds W=>wV (AU prog .add 3 true (e 13) (.int .i64 1)) fun I0=>K .normal (Env.of e [(13,I0),(36,I0)]) ds W) K
def H2 (ro:Option Nat) (K:AG):AG:=Aw (fun e ds W=>DZ prog AV (e 1) [(e 6)] W (fun EA H0=>Bw (V3 prog 51 1 [(0,(e 6))] H0) fun Fi MR=>Bw (app prog [51,51] (e 5) Fi MR) fun FF Og=>(IW ro K) .normal (Env.of e [(5,FF),(35,FF),(34,Fi),(33,(e 6)),(32,(e 5)),(31,EA),(30,(e 6)),(29,(e 1))]) ds Og) (fun AA9 Iw=>(IW ro K) (.panic AA9) (Env.of e [(30,(e 6)),(29,(e 1))]) ds Iw)) (Bm 1 (IW ro K))
theorem wM (ro:Option Nat) (e:Env) (ds:List Deferred) (K:AG) (W:CW):AK prog AV ro 92 38 (Ae prog 92 0) e ds W K=(wV (AU prog .lss 3 false (e 13) (e 12)) fun Bk=>wI Bk (AF prog AV 110 [(e 0),(.int .i64 60)] W (AT (fun B7 W8=>AF prog AV 121 [(e 0),B7] W8 (AT (fun CP QG=>wV (qo prog 29 9 CP QG) fun CH=>AF prog AV 101 [CH] QG (AT (fun DR NQ=>wI DR (AF prog AV 54 [(e 5),CH] NQ (AT (fun Dc J6=>wV (KG Dc) fun Dx=>AF prog AV 76 [Dx,(.int .i64 4)] J6 (AT (fun DG k_=>(H2 ro K) .normal (Env.of e [(28,DG),(27,Dx),(26,Dx),(22,(.bool true)),(25,Dc),(22,(.bool true)),(24,CH),(22,(.bool true)),(23,(e 5)),(22,(.bool true)),(22,DR),(21,DR),(20,CH),(6,CH),(19,CH),(18,CP),(17,B7),(16,(e 0)),(15,(e 0)),(14,Bk)]) ds k_) (fun ADm p8=>(H2 ro K) (.panic ADm) (Env.of e [(27,Dx),(26,Dx),(22,(.bool true)),(25,Dc),(22,(.bool true)),(24,CH),(22,(.bool true)),(23,(e 5)),(22,(.bool true)),(22,DR),(21,DR),(20,CH),(6,CH),(19,CH),(18,CP),(17,B7),(16,(e 0)),(15,(e 0)),(14,Bk)]) ds p8))) (fun YP QH=>(H2 ro K) (.panic YP) (Env.of e [(22,(.bool true)),(24,CH),(22,(.bool true)),(23,(e 5)),(22,(.bool true)),(22,DR),(21,DR),(20,CH),(6,CH),(19,CH),(18,CP),(17,B7),(16,(e 0)),(15,(e 0)),(14,Bk)]) ds QH))) (AF prog AV 76 [(.bool false),(.int .i64 4)] NQ (AT (fun DG jK=>(H2 ro K) .normal (Env.of e [(28,DG),(27,(.bool false)),(26,undef),(22,(.bool false)),(25,undef),(22,(.bool false)),(24,undef),(22,(.bool false)),(23,undef),(22,(.bool false)),(22,DR),(21,DR),(20,CH),(6,CH),(19,CH),(18,CP),(17,B7),(16,(e 0)),(15,(e 0)),(14,Bk)]) ds jK) (fun vn eF=>(H2 ro K) (.panic vn) (Env.of e [(27,(.bool false)),(26,undef),(22,(.bool false)),(25,undef),(22,(.bool false)),(24,undef),(22,(.bool false)),(23,undef),(22,(.bool false)),(22,DR),(21,DR),(20,CH),(6,CH),(19,CH),(18,CP),(17,B7),(16,(e 0)),(15,(e 0)),(14,Bk)]) ds eF)))) (fun m6 L5=>(H2 ro K) (.panic m6) (Env.of e [(20,CH),(6,CH),(19,CH),(18,CP),(17,B7),(16,(e 0)),(15,(e 0)),(14,Bk)]) ds L5))) (fun jJ Dd=>(IW ro K) (.panic jJ) (Env.of e [(17,B7),(16,(e 0)),(15,(e 0)),(14,Bk)]) ds Dd))) (fun mj W9=>(IW ro K) (.panic mj) (Env.of e [(16,(e 0)),(15,(e 0)),(14,Bk)]) ds W9))) (K (.exit 0) (Env.of e [(14,Bk)]) ds W)):=by kernel_rfl
theorem jQ (Q:Ending→CW→Prop) (e:Env) (W:CW):AI prog Tryz.f92 Q .ret e [] W=Q (.returned (e 4)) W:=by kernel_rfl
theorem AA' {Q:Ending→CW→Prop} {v0 v1:Value} {W:CW} (h:AK prog AV none 92 38 (AM prog 92) (Env.args [v0,v1]) [] W (AI prog Tryz.f92 Q)):AF prog AV 92 [v0,v1] W Q:=AX Tryz.func92 (by kernel_rfl) (by kernel_rfl) (by kernel_rfl) (by kernel_rfl) (by kernel_rfl) h
theorem m8 (v0:Value) (u:FrameMode) (K:Exit→Env→FrameMode→CW→Prop) (W:CW):wS prog AV 109 17 (AM prog 109) (Env.args [v0]) u W K=(mn u fun v4 u0=>wV (AU prog .neq 20 true v4 (.nilIface)) fun v6=>wI v6 (wV (tas prog 167 v4 true) fun v9=>wV (ext v9 0) fun v10=>wV (ext v9 1) fun v11=>Bw (F5 prog 167 W) fun v2 W1=>wV (CE prog 167 v2 v10 W1) fun W2=>wV (KG v11) fun DQ=>wI DQ (False) ((([]:List Deferred)=[]∧wV (A0 prog 167 v2 0) fun DE=>wV (ld prog 30 DE W2) fun DS=>wV (CE prog 30 v0 DS W2) fun W3=>K .normal (Env.of (Env.args [v0]) [(16,DS),(15,DE),(13,DQ),(12,v11),(3,v11),(2,v2),(11,v11),(10,v10),(7,v9),(9,v9),(8,v4),(6,v6),(5,v4),(1,v4),(4,v4)]) u0 W3))) ((([]:List Deferred)=[]∧K .normal (Env.of (Env.args [v0]) [(6,v6),(5,v4),(1,v4),(4,v4)]) u0 W))):=by kernel_rfl
def LM (ro:Option Nat) (K:AG):AG:=Aw (fun e ds W=>wV (AU prog .leq 3 false (e 5) (e 1)) fun Fh=>AF prog AV 76 [Fh,(.int .i64 4)] W (AT (fun IC W0=>K .ret (Env.of e [(4,(e 5)),(39,(e 5)),(38,IC),(37,Fh),(36,(e 1)),(35,(e 5))]) ds W0) (fun L0 W1=>K (.panic L0) (Env.of e [(37,Fh),(36,(e 1)),(35,(e 5))]) ds W1))) K
theorem wN (v0 v1:Value) (K:AG) (W:CW):AK prog AV none 110 40 (AM prog 110) (Env.args [v0,v1]) [] W K=(C6 prog AV none 110 40 (.loop (Ae prog 110 0)) (Env.of (Env.args [v0,v1]) [(6,(.int .i64 0)),(5,(.int .i64 0)),(4,(.int .i64 0))]) [] W (Bm 0 (LM none K))):=by kernel_rfl
def LN (ro:Option Nat) (K:AG):AG:=Aw (fun e ds W=>K (.exit 0) e ds W) (Bm 2 (Bm 1 K))
theorem q_ (ro:Option Nat) (e:Env) (ds:List Deferred) (K:AG) (W:CW):AK prog AV ro 110 40 (Ae prog 110 0) e ds W K=(AF prog AV 121 [(e 0),(.int .i64 1)] W (AT (fun v9 W3=>wV (EV prog 29 v9 (.int .i64 0)) fun v10=>wV (ld prog 5 v10 W3) fun v11=>wV (tS prog 5 3 v11) fun BR=>wV (AU prog .rem 3 true BR (.int .i64 128)) fun DE=>wV (AU prog .shl 3 false DE (e 6)) fun B7=>wV (AU prog .or 3 false (e 5) B7) fun CP=>wV (AU prog .add 3 true (e 6) (.int .i64 7)) fun v20=>wV (AU prog .lss 3 true BR (.int .i64 128)) fun Da=>wI Da (wV (AU prog .gtr 3 true BR (.int .i64 0)) fun Dc=>wI Dc (AF prog AV 76 [(.bool true),(.int .i64 4)] W3 (AT (fun v30 W6=>(LN ro K) .normal (Env.of e [(30,v30),(29,(.bool true)),(28,undef),(26,(.bool true)),(27,undef),(26,(.bool true)),(26,Dc),(25,Dc),(24,BR),(21,Da),(23,Da),(22,BR),(6,v20),(20,v20),(19,(e 6)),(5,CP),(18,CP),(17,B7),(16,(e 6)),(15,DE),(14,BR),(13,(e 5)),(7,BR),(12,BR),(11,v11),(10,v10),(9,v9),(8,(e 0))]) ds W6) (fun q7 W7=>(LN ro K) (.panic q7) (Env.of e [(29,(.bool true)),(28,undef),(26,(.bool true)),(27,undef),(26,(.bool true)),(26,Dc),(25,Dc),(24,BR),(21,Da),(23,Da),(22,BR),(6,v20),(20,v20),(19,(e 6)),(5,CP),(18,CP),(17,B7),(16,(e 6)),(15,DE),(14,BR),(13,(e 5)),(7,BR),(12,BR),(11,v11),(10,v10),(9,v9),(8,(e 0))]) ds W7))) (wV (AU prog .eql 3 true v20 (.int .i64 7)) fun DG=>AF prog AV 76 [DG,(.int .i64 4)] W3 (AT (fun v30 W8=>(LN ro K) .normal (Env.of e [(30,v30),(29,DG),(28,DG),(26,(.bool false)),(27,v20),(26,(.bool false)),(26,Dc),(25,Dc),(24,BR),(21,Da),(23,Da),(22,BR),(6,v20),(20,v20),(19,(e 6)),(5,CP),(18,CP),(17,B7),(16,(e 6)),(15,DE),(14,BR),(13,(e 5)),(7,BR),(12,BR),(11,v11),(10,v10),(9,v9),(8,(e 0))]) ds W8) (fun mj W9=>(LN ro K) (.panic mj) (Env.of e [(29,DG),(28,DG),(26,(.bool false)),(27,v20),(26,(.bool false)),(26,Dc),(25,Dc),(24,BR),(21,Da),(23,Da),(22,BR),(6,v20),(20,v20),(19,(e 6)),(5,CP),(18,CP),(17,B7),(16,(e 6)),(15,DE),(14,BR),(13,(e 5)),(7,BR),(12,BR),(11,v11),(10,v10),(9,v9),(8,(e 0))]) ds W9)))) (wV (AU prog .gtr 3 true v20 (.int .i64 40)) fun EW=>wI EW (AF prog AV 76 [(.bool false),(.int .i64 4)] W3 (AT (fun Fi QG=>K .normal (Env.of e [(34,Fi),(31,EW),(33,EW),(32,v20),(21,Da),(23,Da),(22,BR),(6,v20),(20,v20),(19,(e 6)),(5,CP),(18,CP),(17,B7),(16,(e 6)),(15,DE),(14,BR),(13,(e 5)),(7,BR),(12,BR),(11,v11),(10,v10),(9,v9),(8,(e 0))]) ds QG) (fun jJ Dd=>K (.panic jJ) (Env.of e [(31,EW),(33,EW),(32,v20),(21,Da),(23,Da),(22,BR),(6,v20),(20,v20),(19,(e 6)),(5,CP),(18,CP),(17,B7),(16,(e 6)),(15,DE),(14,BR),(13,(e 5)),(7,BR),(12,BR),(11,v11),(10,v10),(9,v9),(8,(e 0))]) ds Dd))) (K .normal (Env.of e [(31,EW),(33,EW),(32,v20),(21,Da),(23,Da),(22,BR),(6,v20),(20,v20),(19,(e 6)),(5,CP),(18,CP),(17,B7),(16,(e 6)),(15,DE),(14,BR),(13,(e 5)),(7,BR),(12,BR),(11,v11),(10,v10),(9,v9),(8,(e 0))]) ds W3))) (fun tX W4=>K (.panic tX) (Env.of e [(8,(e 0))]) ds W4))):=by kernel_rfl
theorem eJ (Q:Ending→CW→Prop) (e:Env) (W:CW):AI prog Tryz.f110 Q .ret e [] W=Q (.returned (e 4)) W:=by kernel_rfl
theorem wO {Q:Ending→CW→Prop} {v0 v1:Value} {W:CW} (h:AK prog AV none 110 40 (AM prog 110) (Env.args [v0,v1]) [] W (AI prog Tryz.f110 Q)):AF prog AV 110 [v0,v1] W Q:=AX Tryz.func110 (by kernel_rfl) (by kernel_rfl) (by kernel_rfl) (by kernel_rfl) (by kernel_rfl) h
theorem wP (v0 v1:Value) (K:AG) (W:CW):AK prog AV none 121 45 (AM prog 121) (Env.args [v0,v1]) [] W K=(wV (IM v0) fun v6=>wV (A0 prog 170 v6 0) fun v7=>wV (ld prog 29 v7 W) fun v8=>wV (Aj prog 29 v8 W) fun v9=>wV (IM v0) fun v11=>wV (A0 prog 170 v11 1) fun BR=>wV (ld prog 3 BR W) fun DQ=>wV (AU prog .sub 3 false v9 DQ) fun Bk=>wV (AU prog .geq 3 false Bk v1) fun DS=>AF prog AV 76 [DS,(.int .i64 4)] W (AT (fun B7 W0=>(((True)∧ld prog 3 BR W=some DQ)∧(((True)∧Aj prog 29 v8 W=some v9)∧(((True)∧ld prog 29 v7 W=some v8)∧True)))∧True∧wV (IM v0) fun CH=>wV (A0 prog 170 CH 1) fun v20=>wV (ld prog 3 v20 W0) fun DR=>wV (AU prog .add 3 false DR v1) fun Da=>wV (IM v0) fun Eu=>wV (A0 prog 170 Eu 1) fun Dc=>wV (CE prog 3 Dc Da W0) fun W2=>wV (IM v0) fun D_=>wV (A0 prog 170 D_ 0) fun DG=>wV (ld prog 29 DG W2) fun D'=>wV (IM v0) fun EA=>wV (A0 prog 170 EA 1) fun Ep=>wV (ld prog 3 Ep W2) fun EW=>wV (AU prog .sub 3 false EW v1) fun FF=>wV (IM v0) fun Fh=>wV (A0 prog 170 Fh 1) fun IC=>wV (ld prog 3 IC W2) fun JO=>wV (IM v0) fun FL=>wV (A0 prog 170 FL 1) fun HL=>wV (ld prog 3 HL W2) fun FE=>wV (ma prog 29 D' (some FF) (some JO) (some FE) W2) fun KL=>(ma prog 29 D' (some FF) (some JO) (some FE) W2=some KL∧(ld prog 3 HL W2=some FE∧(ld prog 3 IC W2=some JO∧(ld prog 3 Ep W2=some EW∧(ld prog 29 DG W2=some D'∧True)))))∧True∧K .ret (Env.of (Env.args [v0,v1]) [(4,KL),(44,KL),(43,FE),(42,HL),(41,FL),(40,v0),(39,JO),(38,IC),(37,Fh),(36,v0),(35,FF),(34,v1),(33,EW),(32,Ep),(31,EA),(30,v0),(29,D'),(28,DG),(27,D_),(26,v0),(25,Dc),(24,Eu),(23,Da),(22,v1),(21,DR),(20,v20),(19,CH),(18,v0),(17,B7),(16,DS),(15,v1),(14,Bk),(13,DQ),(12,BR),(11,v11),(10,v0),(9,v9),(8,v8),(7,v7),(6,v6),(5,v0),(4,(.slice none 0 0))]) [] W2) (fun L0 W1=>(ld prog 3 BR W=some DQ∧(Aj prog 29 v8 W=some v9∧(ld prog 29 v7 W=some v8∧True)))∧K (.panic L0) Env.bad [] W1))):=by kernel_rfl
theorem eK (Q:Ending→CW→Prop) (e:Env) (W:CW):AI prog Tryz.f121 Q .ret e [] W=Q (.returned (e 4)) W:=by kernel_rfl
theorem wQ {Q:Ending→CW→Prop} {v0 v1:Value} {W:CW} (h:AK prog AV none 121 45 (AM prog 121) (Env.args [v0,v1]) [] W (AI prog Tryz.f121 Q)):AF prog AV 121 [v0,v1] W Q:=AX Tryz.func121 (by kernel_rfl) (by kernel_rfl) (by kernel_rfl) (by kernel_rfl) (by kernel_rfl) h
end Go.Ce
namespace Go.Ce
open Go Go.Proofs Go.Proofs.Tryz
end Go.Ce
namespace Go.Ce
open Go Go.Proofs Go.Proofs.Tryz
def YR (ro:Option Nat) (K:AG):AG:=Aw (fun e ds W=>K .ret e ds W) K
theorem wR (v0 v1 v2:Value) (K:AG) (W:CW):AK prog AV none 103 15 (AM prog 103) (Env.args [v0,v1,v2]) [] W K=(wV (AU prog .geq 3 false v0 v1) fun v9=>wI v9 (wV (AU prog .leq 3 false v0 v2) fun DQ=>(YR none K) .normal (Env.of (Env.args [v0,v1,v2]) [(6,DQ),(14,DQ),(13,DQ),(10,(.bool true)),(12,v2),(10,(.bool true)),(11,v0),(10,(.bool true)),(10,v9),(9,v9),(8,v1),(7,v0),(6,(.bool false))]) [] W) ((YR none K) .normal (Env.of (Env.args [v0,v1,v2]) [(6,(.bool false)),(14,(.bool false)),(13,undef),(10,(.bool false)),(12,undef),(10,(.bool false)),(11,undef),(10,(.bool false)),(10,v9),(9,v9),(8,v1),(7,v0),(6,(.bool false))]) [] W)):=by kernel_rfl
theorem eL (Q:Ending→CW→Prop) (e:Env) (W:CW):AI prog Tryz.f103 Q .ret e [] W=Q (.returned (e 6)) W:=by kernel_rfl
theorem wT {Q:Ending→CW→Prop} {v0 v1 v2:Value} {W:CW} (h:AK prog AV none 103 15 (AM prog 103) (Env.args [v0,v1,v2]) [] W (AI prog Tryz.f103 Q)):AF prog AV 103 [v0,v1,v2] W Q:=AX Tryz.func103 (by kernel_rfl) (by kernel_rfl) (by kernel_rfl) (by kernel_rfl) (by kernel_rfl) h
def YS (ro:Option Nat) (K:AG):AG:=Aw (fun e ds W=>K .ret e ds W) K
theorem wU (v0:Value) (K:AG) (W:CW):AK prog AV none 100 9 (AM prog 100) (Env.args [v0]) [] W K=(wV (AU prog .eql 5 true v0 (.int .u8 1)) fun v4=>wI v4 ((YS none K) .normal (Env.of (Env.args [v0]) [(2,(.bool true)),(8,(.bool true)),(7,undef),(5,(.bool true)),(6,undef),(5,(.bool true)),(5,v4),(4,v4),(3,v0),(2,(.bool false))]) [] W) (wV (AU prog .eql 5 true v0 (.int .u8 2)) fun v7=>(YS none K) .normal (Env.of (Env.args [v0]) [(2,v7),(8,v7),(7,v7),(5,(.bool false)),(6,v0),(5,(.bool false)),(5,v4),(4,v4),(3,v0),(2,(.bool false))]) [] W)):=by kernel_rfl
theorem eM (Q:Ending→CW→Prop) (e:Env) (W:CW):AI prog Tryz.f100 Q .ret e [] W=Q (.returned (e 2)) W:=by kernel_rfl
theorem wX {Q:Ending→CW→Prop} {v0:Value} {W:CW} (h:AK prog AV none 100 9 (AM prog 100) (Env.args [v0]) [] W (AI prog Tryz.f100 Q)):AF prog AV 100 [v0] W Q:=AX Tryz.func100 (by kernel_rfl) (by kernel_rfl) (by kernel_rfl) (by kernel_rfl) (by kernel_rfl) h
def M4 (ro:Option Nat) (K:AG):AG:=Aw (fun e ds W=>K .ret e ds W) K
theorem wY (v0:Value) (K:AG) (W:CW):AK prog AV none 101 12 (AM prog 101) (Env.args [v0]) [] W K=(wV (Aj prog 9 v0 W) fun v4=>AF prog AV 103 [v4,(.int .i64 1),(.int .i64 60)] W (AT (fun v5 W1=>wI v5 (Bw (vi prog 9 29 v0 W1) fun v8 W3=>AF prog AV 123 [v8,(.func (.func 124) #[] #[])] W3 (AT (fun v9 W4=>wV (KG v9) fun v10=>(M4 none K) .normal (Env.of (Env.args [v0]) [(2,v10),(11,v10),(10,v10),(6,(.bool true)),(9,v9),(6,(.bool true)),(8,v8),(6,(.bool true)),(7,v0),(6,(.bool true)),(6,v5),(5,v5),(4,v4),(3,v0),(2,(.bool false))]) [] W4) (fun ml W5=>(M4 none K) (.panic ml) (Env.of (Env.args [v0]) [(6,(.bool true)),(8,v8),(6,(.bool true)),(7,v0),(6,(.bool true)),(6,v5),(5,v5),(4,v4),(3,v0),(2,(.bool false))]) [] W5))) ((M4 none K) .normal (Env.of (Env.args [v0]) [(2,(.bool false)),(11,(.bool false)),(10,undef),(6,(.bool false)),(9,undef),(6,(.bool false)),(8,undef),(6,(.bool false)),(7,undef),(6,(.bool false)),(6,v5),(5,v5),(4,v4),(3,v0),(2,(.bool false))]) [] W1)) (fun m9 W2=>(M4 none K) (.panic m9) (Env.of (Env.args [v0]) [(4,v4),(3,v0),(2,(.bool false))]) [] W2))):=by kernel_rfl
theorem Ub (Q:Ending→CW→Prop) (e:Env) (W:CW):AI prog Tryz.f101 Q .ret e [] W=Q (.returned (e 2)) W:=by kernel_rfl
theorem wZ {Q:Ending→CW→Prop} {v0:Value} {W:CW} (h:AK prog AV none 101 12 (AM prog 101) (Env.args [v0]) [] W (AI prog Tryz.f101 Q)):AF prog AV 101 [v0] W Q:=AX Tryz.func101 (by kernel_rfl) (by kernel_rfl) (by kernel_rfl) (by kernel_rfl) (by kernel_rfl) h
theorem wa (v0 v1:Value) (K:AG) (W:CW):AK prog AV none 123 9 (AM prog 123) (Env.args [v0,v1]) [] W K=(AF prog AV 140 [v0,v1] W (AT (fun v7 W0=>wV (AU prog .geq 3 true v7 (.int .i64 0)) fun v8=>K .ret (Env.of (Env.args [v0,v1]) [(4,v8),(8,v8),(7,v7),(6,v1),(5,v0),(4,(.bool false))]) [] W0) (fun L0 W1=>K (.panic L0) (Env.of (Env.args [v0,v1]) [(6,v1),(5,v0),(4,(.bool false))]) [] W1))):=by kernel_rfl
theorem eN (Q:Ending→CW→Prop) (e:Env) (W:CW):AI prog Tryz.f123 Q .ret e [] W=Q (.returned (e 4)) W:=by kernel_rfl
theorem wc {Q:Ending→CW→Prop} {v0 v1:Value} {W:CW} (h:AK prog AV none 123 9 (AM prog 123) (Env.args [v0,v1]) [] W (AI prog Tryz.f123 Q)):AF prog AV 123 [v0,v1] W Q:=AX Tryz.func123 (by kernel_rfl) (by kernel_rfl) (by kernel_rfl) (by kernel_rfl) (by kernel_rfl) h
def YT (ro:Option Nat) (K:AG):AG:=Aw (fun e ds W=>K .ret (Env.of e [(4,(.int .i64 (-1)))]) ds W) K
theorem we (v0 v1:Value) (K:AG) (W:CW):AK prog AV none 140 19 (AM prog 140) (Env.args [v0,v1]) [] W K=(wV (Aj prog 29 v0 W) fun v7=>C6 prog AV none 140 19 (.loop (Ae prog 140 0)) (Env.of (Env.args [v0,v1]) [(8,(.int .i64 0)),(7,v7),(6,v0),(4,(.int .i64 0))]) [] W (Bm 0 (YT none K))):=by kernel_rfl
def PE (ro:Option Nat) (K:AG):AG:=Aw (fun e ds W=>wV (AU prog .add 3 true (e 8) (.int .i64 1)) fun CP=>K .normal (Env.of e [(8,CP),(18,CP)]) ds W) K
theorem rA (ro:Option Nat) (e:Env) (ds:List Deferred) (K:AG) (W:CW):AK prog AV ro 140 19 (Ae prog 140 0) e ds W K=(wV (AU prog .lss 3 false (e 8) (e 7)) fun v9=>wI v9 (wV (EV prog 29 (e 0) (e 8)) fun Bk=>wV (ld prog 5 Bk W) fun DE=>DZ prog AV (e 1) [DE] W (fun DS W2=>wI DS ((PE ro K) .ret (Env.of e [(4,(e 8)),(17,(e 8)),(16,DS),(15,DE),(14,Bk),(13,(e 8)),(12,(e 0)),(11,(e 1)),(5,(e 8)),(10,(e 8)),(9,v9)]) ds W2) ((PE ro K) .normal (Env.of e [(16,DS),(15,DE),(14,Bk),(13,(e 8)),(12,(e 0)),(11,(e 1)),(5,(e 8)),(10,(e 8)),(9,v9)]) ds W2)) (fun Wo W3=>(PE ro K) (.panic Wo) (Env.of e [(15,DE),(14,Bk),(13,(e 8)),(12,(e 0)),(11,(e 1)),(5,(e 8)),(10,(e 8)),(9,v9)]) ds W3)) (K (.exit 0) (Env.of e [(9,v9)]) ds W)):=by kernel_rfl
theorem Uc (Q:Ending→CW→Prop) (e:Env) (W:CW):AI prog Tryz.f140 Q .ret e [] W=Q (.returned (e 4)) W:=by kernel_rfl
theorem wg {Q:Ending→CW→Prop} {v0 v1:Value} {W:CW} (h:AK prog AV none 140 19 (AM prog 140) (Env.args [v0,v1]) [] W (AI prog Tryz.f140 Q)):AF prog AV 140 [v0,v1] W Q:=AX Tryz.func140 (by kernel_rfl) (by kernel_rfl) (by kernel_rfl) (by kernel_rfl) (by kernel_rfl) h
def YU (ro:Option Nat) (K:AG):AG:=Aw (fun e ds W=>K .ret e ds W) K
theorem wh (v0:Value) (K:AG) (W:CW):AK prog AV none 124 9 (AM prog 124) (Env.args [v0]) [] W K=(wV (AU prog .lss 5 true v0 (.int .u8 33)) fun v4=>wI v4 ((YU none K) .normal (Env.of (Env.args [v0]) [(2,(.bool true)),(8,(.bool true)),(7,undef),(5,(.bool true)),(6,undef),(5,(.bool true)),(5,v4),(4,v4),(3,v0),(2,(.bool false))]) [] W) (wV (AU prog .gtr 5 true v0 (.int .u8 126)) fun v7=>(YU none K) .normal (Env.of (Env.args [v0]) [(2,v7),(8,v7),(7,v7),(5,(.bool false)),(6,v0),(5,(.bool false)),(5,v4),(4,v4),(3,v0),(2,(.bool false))]) [] W)):=by kernel_rfl
theorem eO (Q:Ending→CW→Prop) (e:Env) (W:CW):AI prog Tryz.f124 Q .ret e [] W=Q (.returned (e 2)) W:=by kernel_rfl
theorem wi {Q:Ending→CW→Prop} {v0:Value} {W:CW} (h:AK prog AV none 124 9 (AM prog 124) (Env.args [v0]) [] W (AI prog Tryz.f124 Q)):AF prog AV 124 [v0] W Q:=AX Tryz.func124 (by kernel_rfl) (by kernel_rfl) (by kernel_rfl) (by kernel_rfl) (by kernel_rfl) h
theorem wj (v0 v1:Value) (K:AG) (W:CW):AK prog AV none 102 17 (AM prog 102) (Env.args [v0,v1]) [] W K=(Bw (QE prog 78 v0 W) fun v2 W0=>Bw (tV W0) fun v9 W1=>Bw (F5 prog 181 W1) fun v6 W2=>wV (CE prog 181 v6 v9 W2) fun W3=>Bw (tV W3) fun v10 W4=>Bw (F5 prog 181 W4) fun v7 W5=>wV (CE prog 181 v7 v10 W5) fun W6=>Bw (F5 prog 161 W6) fun v8 W7=>wV (some (.func (.func 125) #[] #[v2,v6,v8,v7])) fun v11=>wV (CE prog 161 v8 v11 W7) fun W8=>wV (ld prog 161 v8 W8) fun BR=>DZ prog AV BR [v1] W8 (fun Bk W9=>wV (ext Bk 0) fun DE=>wV (ext Bk 1) fun DS=>K .ret (Env.of (Env.args [v0,v1]) [(5,DS),(4,DE),(16,DS),(15,DE),(14,Bk),(13,v1),(12,BR),(11,v11),(8,v8),(7,v7),(10,v10),(6,v6),(9,v9),(5,(.bool false)),(4,(.slice none 0 0)),(2,v2)]) [] W9) (fun eH QG=>K (.panic eH) (Env.of (Env.args [v0,v1]) [(13,v1),(12,BR),(11,v11),(8,v8),(7,v7),(10,v10),(6,v6),(9,v9),(5,(.bool false)),(4,(.slice none 0 0)),(2,v2)]) [] QG)):=by kernel_rfl
theorem Ud (Q:Ending→CW→Prop) (e:Env) (W:CW):AI prog Tryz.f102 Q .ret e [] W=Q (.returned (.tuple #[e 4,e 5])) W:=by kernel_rfl
theorem wo {Q:Ending→CW→Prop} {v0 v1:Value} {W:CW} (h:AK prog AV none 102 17 (AM prog 102) (Env.args [v0,v1]) [] W (AI prog Tryz.f102 Q)):AF prog AV 102 [v0,v1] W Q:=AX Tryz.func102 (by kernel_rfl) (by kernel_rfl) (by kernel_rfl) (by kernel_rfl) (by kernel_rfl) h
def JP (ro:Option Nat) (K:AG):AG:=Aw (fun e ds W=>wV (Aj prog 29 (e 10) W) fun Ws=>wV (AU prog .leq 3 true Ws (.int .i64 60)) fun eI=>K .ret (Env.of e [(7,eI),(6,(e 10)),(83,eI),(82,Ws),(81,(e 10)),(80,(e 10))]) ds W) K
def Fy (ro:Option Nat) (K:AG):AG:=Aw (fun e ds W=>wV (A0 prog 48 (e 8) 2) fun IB=>wV (ld prog 45 IB W) fun Ix=>wV (Aj prog 45 Ix W) fun Hr=>C6 prog AV ro 125 84 (.loop (Ae prog 125 0)) (Env.of e [(51,(.int .i64 0)),(50,Hr),(49,Ix),(48,IB)]) ds W (Bm 0 (JP ro K))) K
def M5 (ro:Option Nat) (K:AG):AG:=Aw (fun e ds W=>wV (ld prog 181 (e 2) W) fun D_=>wV (cj prog 181 D_ (e 0) (.bool true) W) fun W2=>wV (A0 prog 48 (e 8) 1) fun D'=>wV (ld prog 9 D' W2) fun v30=>wV (AU prog .neq 9 true v30 (.string ⟨#[]⟩)) fun EA=>wI EA (wV (A0 prog 78 (e 1) 0) fun Ep=>wV (ld prog 75 Ep W2) fun EW=>wV (A0 prog 48 (e 8) 1) fun Fi=>wV (ld prog 9 Fi W2) fun FF=>wV (GL prog 75 EW FF false W2) fun I0=>wV (tU prog 48 I0 3) fun Fh=>wV (AU prog .neq 5 true Fh (.int .u8 0)) fun IC=>wI IC ((Fy ro K) .ret (Env.of e [(7,(.bool false)),(6,(.slice none 0 0)),(38,IC),(37,Fh),(36,I0),(35,FF),(34,Fi),(33,EW),(32,Ep),(31,EA),(30,v30),(29,D'),(10,(.slice none 0 0)),(28,(e 0)),(27,D_)]) ds W2) (wV (ld prog 161 (e 3) W2) fun FZ=>wV (A0 prog 48 (e 8) 1) fun FL=>wV (ld prog 9 FL W2) fun HL=>DZ prog AV FZ [HL] W2 (fun FE W5=>wV (ext FE 0) fun KL=>wV (ext FE 1) fun FT=>wV (KG FT) fun IU=>wI IU ((Fy ro K) .ret (Env.of e [(7,(.bool false)),(6,(.slice none 0 0)),(47,IU),(46,FT),(9,FT),(10,KL),(45,FT),(44,KL),(39,FE),(43,FE),(42,HL),(41,FL),(40,FZ),(38,IC),(37,Fh),(36,I0),(35,FF),(34,Fi),(33,EW),(32,Ep),(31,EA),(30,v30),(29,D'),(10,(.slice none 0 0)),(28,(e 0)),(27,D_)]) ds W5) ((Fy ro K) .normal (Env.of e [(47,IU),(46,FT),(9,FT),(10,KL),(45,FT),(44,KL),(39,FE),(43,FE),(42,HL),(41,FL),(40,FZ),(38,IC),(37,Fh),(36,I0),(35,FF),(34,Fi),(33,EW),(32,Ep),(31,EA),(30,v30),(29,D'),(10,(.slice none 0 0)),(28,(e 0)),(27,D_)]) ds W5)) (fun ch6 W6=>(Fy ro K) (.panic ch6) (Env.of e [(42,HL),(41,FL),(40,FZ),(38,IC),(37,Fh),(36,I0),(35,FF),(34,Fi),(33,EW),(32,Ep),(31,EA),(30,v30),(29,D'),(10,(.slice none 0 0)),(28,(e 0)),(27,D_)]) ds W6))) ((Fy ro K) .normal (Env.of e [(31,EA),(30,v30),(29,D'),(10,(.slice none 0 0)),(28,(e 0)),(27,D_)]) ds W2)) K
def TL (ro:Option Nat) (K:AG):AG:=Aw (fun e ds W=>wI (e 26) ((M5 ro K) .ret (Env.of e [(7,(.bool false)),(6,(.slice none 0 0))]) ds W) ((M5 ro K) .normal e ds W)) (M5 ro K)
theorem wq (v0 v1 v2 v3 v4:Value) (K:AG) (W:CW):AK prog AV none 125 84 (AM prog 125) (Env.args [v0,v1,v2,v3,v4]) [] W K=(wV (A0 prog 78 v1 0) fun Bk=>wV (ld prog 75 Bk W) fun DE=>wV (GL prog 75 DE v0 true W) fun B7=>wV (ext B7 0) fun CP=>wV (ext B7 1) fun CH=>Bw (F5 prog 48 W) fun v8 W0=>wV (CE prog 48 v8 CP W0) fun W1=>wV (KG CH) fun DR=>wI DR ((TL none K) .normal (Env.of (Env.args [v0,v1,v2,v3,v4]) [(26,(.bool true)),(25,undef),(22,(.bool true)),(24,undef),(22,(.bool true)),(23,undef),(22,(.bool true)),(22,DR),(21,DR),(20,CH),(9,CH),(8,v8),(19,CH),(18,CP),(13,B7),(17,B7),(16,v0),(15,DE),(14,Bk),(7,(.bool false)),(6,(.slice none 0 0))]) [] W1) (wV (ld prog 181 v2 W1) fun Da=>wV (GL prog 181 Da v0 false W1) fun Dc=>(TL none K) .normal (Env.of (Env.args [v0,v1,v2,v3,v4]) [(26,Dc),(25,Dc),(22,(.bool false)),(24,v0),(22,(.bool false)),(23,Da),(22,(.bool false)),(22,DR),(21,DR),(20,CH),(9,CH),(8,v8),(19,CH),(18,CP),(13,B7),(17,B7),(16,v0),(15,DE),(14,Bk),(7,(.bool false)),(6,(.slice none 0 0))]) [] W1)):=by kernel_rfl
def TM (ro:Option Nat) (K:AG):AG:=Aw (fun e ds W=>wV (AU prog .add 3 true (e 51) (.int .i64 1)) fun Nt=>K .normal (Env.of e [(51,Nt),(79,Nt)]) ds W) K
def MV (ro:Option Nat) (K:AG):AG:=Aw (fun e ds W=>wV (ld prog 181 (e 4) W) fun UZ=>wV (A0 prog 72 (e 12) 0) fun RA=>wV (ld prog 9 RA W) fun V4=>wV (cj prog 181 UZ V4 (.bool true) W) fun H0=>wV (A0 prog 72 (e 12) 1) fun HQ=>wV (ld prog 5 HQ H0) fun OK=>Bw (V3 prog 29 1 [(0,OK)] H0) fun Jm Iw=>Bw (app prog [29,29] (e 10) Jm Iw) fun eP MR=>(TM ro K) .normal (Env.of e [(10,eP),(78,eP),(77,Jm),(76,OK),(75,HQ),(74,(e 10)),(73,V4),(72,RA),(71,UZ)]) ds MR) (Bm 1 (TM ro K))
def IX (ro:Option Nat) (K:AG):AG:=Aw (fun e ds W=>wI (e 70) ((MV ro K) .ret (Env.of e [(7,(.bool false)),(6,(.slice none 0 0))]) ds W) ((MV ro K) .normal e ds W)) (MV ro K)
theorem rB (ro:Option Nat) (e:Env) (ds:List Deferred) (K:AG) (W:CW):AK prog AV ro 125 84 (Ae prog 125 0) e ds W K=(wV (AU prog .lss 3 false (e 51) (e 50)) fun Ls=>wI Ls (wV (EV prog 45 (e 49) (e 51)) fun Gu=>wV (ld prog 72 Gu W) fun F7=>Bw (F5 prog 72 W) fun BR QG=>wV (CE prog 72 BR F7 QG) fun Dd=>wV (A0 prog 72 BR 0) fun Ns=>wV (ld prog 9 Ns Dd) fun FU=>AF prog AV 101 [FU] Dd (AT (fun SP NQ=>wV (KG SP) fun Hq=>wI Hq ((IX ro K) .normal (Env.of e [(70,(.bool true)),(69,undef),(65,(.bool true)),(68,undef),(65,(.bool true)),(67,undef),(65,(.bool true)),(66,undef),(65,(.bool true)),(65,(.bool true)),(64,(.bool true)),(63,undef),(59,(.bool true)),(62,undef),(59,(.bool true)),(61,undef),(59,(.bool true)),(60,undef),(59,(.bool true)),(59,Hq),(58,Hq),(57,SP),(56,FU),(55,Ns),(12,BR),(54,F7),(53,Gu),(52,Ls)]) ds NQ) (wV (A0 prog 72 BR 1) fun E_=>wV (ld prog 5 E_ NQ) fun FR=>AF prog AV 100 [FR] NQ (AT (fun aC J6=>wV (KG aC) fun PC=>wI PC ((IX ro K) .normal (Env.of e [(70,(.bool true)),(69,undef),(65,(.bool true)),(68,undef),(65,(.bool true)),(67,undef),(65,(.bool true)),(66,undef),(65,(.bool true)),(65,PC),(64,PC),(63,PC),(59,(.bool false)),(62,aC),(59,(.bool false)),(61,FR),(59,(.bool false)),(60,E_),(59,(.bool false)),(59,Hq),(58,Hq),(57,SP),(56,FU),(55,Ns),(12,BR),(54,F7),(53,Gu),(52,Ls)]) ds J6) (wV (ld prog 181 (e 4) J6) fun LO=>wV (A0 prog 72 BR 0) fun J4=>wV (ld prog 9 J4 J6) fun J5=>wV (GL prog 181 LO J5 false J6) fun HP=>(IX ro K) .normal (Env.of e [(70,HP),(69,HP),(65,(.bool false)),(68,J5),(65,(.bool false)),(67,J4),(65,(.bool false)),(66,LO),(65,(.bool false)),(65,PC),(64,PC),(63,PC),(59,(.bool false)),(62,aC),(59,(.bool false)),(61,FR),(59,(.bool false)),(60,E_),(59,(.bool false)),(59,Hq),(58,Hq),(57,SP),(56,FU),(55,Ns),(12,BR),(54,F7),(53,Gu),(52,Ls)]) ds J6)) (fun YP QH=>(IX ro K) (.panic YP) (Env.of e [(59,(.bool false)),(61,FR),(59,(.bool false)),(60,E_),(59,(.bool false)),(59,Hq),(58,Hq),(57,SP),(56,FU),(55,Ns),(12,BR),(54,F7),(53,Gu),(52,Ls)]) ds QH)))) (fun m6 L5=>(IX ro K) (.panic m6) (Env.of e [(56,FU),(55,Ns),(12,BR),(54,F7),(53,Gu),(52,Ls)]) ds L5))) (K (.exit 0) (Env.of e [(52,Ls)]) ds W)):=by kernel_rfl
theorem Ue (Q:Ending→CW→Prop) (e:Env) (W:CW):AI prog Tryz.f125 Q .ret e [] W=Q (.returned (.tuple #[e 6,e 7])) W:=by kernel_rfl
theorem wu {Q:Ending→CW→Prop} {v0 v1 v2 v3 v4:Value} {W:CW} (h:AK prog AV none 125 84 (AM prog 125) (Env.args [v0,v1,v2,v3,v4]) [] W (AI prog Tryz.f125 Q)):AF prog AV 125 [v0,v1,v2,v3,v4] W Q:=AX Tryz.func125 (by kernel_rfl) (by kernel_rfl) (by kernel_rfl) (by kernel_rfl) (by kernel_rfl) h
end Go.Ce
namespace Go.Ce
theorem BK (W:CW) (o:Av) (b:Nat):(W.new o).obj b=if b=W.sz then some o else W.obj b:=by
 unfold CW.new CW.obj; simp only [Tr.Bi]
theorem Fz (W:CW) (i:Nat) (o:Av) (b:Nat):(W.A5 i o).obj b=if b=i then some o else W.obj b:=by
 unfold CW.A5 CW.obj; simp only [Tr.Bi]
theorem F8 (W:CW) (o:Av):(W.new o).sz=W.sz+1:=rfl
theorem m_ (W:CW) (i:Nat) (o:Av):(W.A5 i o).sz=W.sz:=rfl
def CW.cell (W:CW) (b k:Nat):Option Value:=match W.obj b with
 | some (.cells c n z _)=>if k<n then some (cellAt c z k) else none
 | some (.fixed f n _)=>if k<n then some (f k) else none
 | _=>none
def Al (W:CW):Prop:=∀ i o,W.obj i=some o→i<W.sz
structure Kp (W W':CW):Prop where
 sz:W.sz≤W'.sz
 obj:∀ b,b<W.sz→W'.obj b=W.obj b
structure DO (b:Nat) (W W':CW):Prop where
 sz:W'.sz=W.sz
 obj:∀ i,i≠b→W'.obj i=W.obj i
theorem Kp.refl (W:CW):Kp W W:=⟨Nat.le_refl _,fun _ _=>rfl⟩
theorem Kp.trans {A B C:CW} (h:Kp A B) (k:Kp B C):Kp A C:=⟨Nat.le_trans h.sz k.sz,fun b hb=>(k.obj b (Nat.lt_of_lt_of_le hb h.sz)).trans (h.obj b hb)⟩
theorem Kp.new {W:CW} (o:Av):Kp W (W.new o):=⟨Nat.le_succ _,fun b hb=>by rw [BK,if_neg (Nat.ne_of_lt hb)]⟩
theorem Kp.A5 {A B C:CW} {b:Nat} (h:Kp A B) (hb:A.sz≤b) (k:DO b B C):Kp A C:=⟨by rw [k.sz]; exact h.sz,fun i hi=>(k.obj i (by omega)).trans (h.obj i hi)⟩
theorem Al.new {W:CW} (h:Al W) (o:Av):Al (W.new o):=by
 intro i u hu; rw [BK] at hu; rw [F8]
 split at hu
 ·omega
 ·have:=h i u hu; omega
theorem Al.A5 {W W':CW} {b:Nat} (h:Al W) (hb:b<W.sz) (k:DO b W W'):Al W':=by
 intro i u hu; rw [k.sz]
 by_cases e:i=b
 ·omega
 ·rw [k.obj i e] at hu; exact h i u hu
theorem DO.of (W:CW) (b:Nat) (o:Av):DO b W (W.A5 b o):=⟨rfl,fun i hi=>by rw [Fz,if_neg hi]⟩
theorem YV {W:CW} (h:Al W) {b k:Nat} {v:Value} (hc:W.cell b k=some v):b<W.sz:=by
 unfold CW.cell at hc
 cases ho:W.obj b with
 | none=>rw [ho] at hc; cases hc
 | some o=>exact h b o ho
theorem LP {W W':CW} {b:Nat} (h:W'.obj b=W.obj b) (k:Nat):W'.cell b k=W.cell b k:=by unfold CW.cell; rw [h]
theorem Kp.cell {W W':CW} (h:Kp W W') (ht:Al W) {b k:Nat} {v:Value} (hc:W.cell b k=some v):W'.cell b k=some v:=by
 rw [LP (h.obj b (YV ht hc))]; exact hc
theorem DO.cell {W W':CW} {i:Nat} (h:DO i W W') {b:Nat} (hb:b≠i) (k:Nat):W'.cell b k=W.cell b k:=LP (h.obj b hb) k
def As (W:CW) (b:Nat) (e:TypeId) (vs:List Value):Prop:=∃ c n z,W.obj b=some (.cells c n z e)∧vs.length=n∧∀ k v,vs[k]?=some v→cellAt c z k=v
theorem As.cell {W:CW} {b:Nat} {e:TypeId} {vs:List Value} (h:As W b e vs) {k:Nat} {v:Value} (hk:vs[k]?=some v):W.cell b k=some v:=by
 obtain ⟨c,n,z,ho,hn,hv⟩:=h; unfold CW.cell; rw [ho]; have:k<n:=by rw [←hn]; exact (List.getElem?_eq_some_iff.1 hk).1
 simp only [if_pos this,hv k v hk]
theorem As.congr {W W':CW} {b:Nat} {e:TypeId} {vs:List Value} (h:As W b e vs) (ho:W'.obj b=W.obj b):As W' b e vs:=by
 obtain ⟨c,n,z,h1,h2⟩:=h; exact ⟨c,n,z,ho.trans h1,h2⟩
theorem As.lt {W:CW} (ht:Al W) {b:Nat} {e:TypeId} {vs:List Value} (h:As W b e vs):b<W.sz:=by
 obtain ⟨c,n,z,h1,h2⟩:=h; exact ht _ _ h1
theorem As.ext {W W':CW} {b:Nat} {e:TypeId} {vs:List Value} (h:As W b e vs) (ht:Al W) (k:Kp W W'):As W' b e vs:=h.congr (k.obj b (h.lt ht))
section
variable {P:Program}
theorem AB {t:TypeId} (h:agg? P t=some false) {a:Addr} {W:CW} {v:Value} (hc:W.cell a.block a.off=some v):ld P t (.pointer (some a)) W=some v:=by
 unfold CW.cell at hc; unfold ld JB; simp only
 split at hc
 ·rename_i c n z e ho; rw [ho]; simp only [h,cond_eq_ite]
  split at hc
  ·rename_i Au; rw [if_pos (show Nat.blt a.off n=true from Nat.ble_eq_true_of_le Au)]; exact hc
  ·cases hc
 ·rename_i f n e ho; rw [ho]; simp only [h,cond_eq_ite]
  split at hc
  ·rename_i Au; rw [if_pos (show Nat.blt a.off n=true from Nat.ble_eq_true_of_le Au)]; exact hc
  ·cases hc
 ·cases hc
theorem GW {c:Tr Value} {z:Array Value}:∀ {vs:List Value} {k:Nat},(∀ j v,vs[j]?=some v→cellAt c z (k+j)=v)→BX c z vs.length k=vs
 | [],_,_=>rfl
 | v::vs,k,h=>by
  simp only [List.length_cons,BX]; have e:=h 0 v rfl; rw [Nat.add_zero] at e; rw [e,GW fun j w hj=>?_]; have:=h (j+1) w (by simpa using hj); rw [show k+1+j=k+(j+1) by omega]; exact this
theorem OL {f:Nat→Value}:∀ {vs:List Value} {k:Nat},(∀ j v,vs[j]?=some v→f (k+j)=v)→EH f vs.length k=vs
 | [],_,_=>rfl
 | v::vs,k,h=>by
  simp only [List.length_cons,EH]; have e:=h 0 v rfl; rw [Nat.add_zero] at e; rw [e,OL fun j w hj=>?_]; have:=h (j+1) w (by simpa using hj); rw [show k+1+j=k+(j+1) by omega]; exact this
def Cells (W:CW) (b k:Nat) (vs:List Value):Prop:=∀ j v,vs[j]?=some v→W.cell b (k+j)=some v
theorem Cells.ext {W W':CW} {b k:Nat} {vs:List Value} (h:Cells W b k vs) (ht:Al W) (hx:Kp W W'):Cells W' b k vs:=fun j v hj=>hx.cell ht (h j v hj)
theorem As.cells {W:CW} {b:Nat} {e:TypeId} {vs:List Value} (h:As W b e vs):Cells W b 0 vs:=fun j v hj=>by rw [Nat.zero_add]; exact h.cell hj
theorem BO {t:TypeId} {m:Nat} (h:agg? P t=some true) (hs:DM P t=some m) {a:Addr} {W:CW} {vs:List Value} (hl:vs.length=m) (hm:0<m) (hc:Cells W a.block a.off vs):ld P t (.pointer (some a)) W=some (.agg vs.toArray):=by
 obtain ⟨l,Vm⟩:∃ l,l+1=m:=⟨m-1,by omega⟩
 have SG:∃ v,vs[l]?=some v:=⟨vs[l]'(by omega),List.getElem?_eq_getElem _⟩
 obtain ⟨v,hv⟩:=SG; have Lj:=hc l v hv; unfold CW.cell at Lj; unfold ld JB; simp only
 split at Lj
 ·rename_i c n z e ho
  split at Lj
  ·rename_i Au; rw [ho]; simp only [h,hs,cond_eq_ite]; rw [if_pos (Nat.ble_eq_true_of_le (by omega)),←hl,GW fun j w hj=>?_]; have:=hc j w hj; unfold CW.cell at this; rw [ho] at this; simp only at this
   split at this
   ·exact Option.some.inj this
   ·cases this
  ·cases Lj
 ·rename_i f n e ho
  split at Lj
  ·rename_i Au; rw [ho]; simp only [h,hs,cond_eq_ite]; rw [if_pos (Nat.ble_eq_true_of_le (by omega)),←hl,OL fun j w hj=>?_]; have:=hc j w hj; unfold CW.cell at this; rw [ho] at this; simp only at this
   split at this
   ·exact Option.some.inj this
   ·cases this
  ·cases Lj
 ·cases Lj
theorem Ay {α:Type} {x:Option α} {v:α} {K:α→Prop} (h:x=some v) (hk:K v):wV x K:=by rw [h]; exact hk
theorem GX {x:Option (Value × CW)} {v:Value} {W:CW} {K:Value→CW→Prop} (h:x=some (v,W)) (hk:K v W):Bw x K:=by rw [h]; exact hk
theorem Gx {t:TypeId} {n:Nat} {z:Value} (hz:Gm P t=some z) (hs:DM P t=some n) {W:CW} {K:Value→CW→Prop} (ht:Al W)
  (hk:∀ W1,Kp W W1→Al W1→W1.sz=W.sz+1→As W1 W.sz t z.cells.toList→K (.pointer (some ⟨W.sz,0,none⟩)) W1):Bw (F5 P t W) K:=by
 refine GX (by unfold F5; rw [hz,hs]) (hk _ (.new _) (ht.new _) rfl ⟨.nil,_,_,by rw [BK,if_pos rfl],by simp,fun k v hv=>?_⟩); have Au:=(List.getElem?_eq_some_iff.1 hv).1; simp only [Array.length_toList] at Au; unfold cellAt; simp only [Tr.get_nil]; rw [Nat.mod_eq_of_lt Au]; rw [Array.getElem?_toList] at hv; simp only [Array.getD_eq_getD_getElem?,hv,Option.getD_some]
theorem Er {t:TypeId} {n:Nat} (hs:DM P t=some n) {v:Value} {W:CW} {K:Value→CW→Prop} (ht:Al W)
  (hk:∀ W1,Kp W W1→Al W1→W1.sz=W.sz+1→As W1 W.sz t v.cells.toList→K (.pointer (some ⟨W.sz,0,none⟩)) W1):Bw (QE P t v W) K:=by
 refine GX (by unfold QE; rw [hs]; rfl) (hk _ (.new _) (ht.new _) rfl ⟨_,_,_,by rw [BK,if_pos rfl],by simp,fun k w hv=>?_⟩); have Au:=(List.getElem?_eq_some_iff.1 hv).1; rw [DA _ _ _ Au,List.getD_eq_getElem?_getD,hv]; rfl
def putAt (vs:List Value) (k:Nat) (ws:List Value):List Value:=vs.take k++ws++vs.drop (k+ws.length)
theorem YW {vs ws:List Value} {k:Nat} (h:k+ws.length≤vs.length):(putAt vs k ws).length=vs.length:=by
 simp only [putAt,List.length_append,List.length_take,List.length_drop]; omega
theorem KO {vs ws:List Value} {k:Nat} (h:k+ws.length≤vs.length) (j:Nat):(putAt vs k ws)[j]?=if k≤j∧j<k+ws.length then ws[j-k]? else vs[j]?:=by
 have h1:(vs.take k).length=k:=by rw [List.length_take]; omega
 simp only [putAt,List.append_assoc]
 by_cases h2:j<k
 ·rw [List.getElem?_append_left (by omega),if_neg (by omega),List.getElem?_take,if_pos h2]
 ·rw [List.getElem?_append_right (by omega),h1]
  by_cases h3:j<k+ws.length
  ·rw [List.getElem?_append_left (by omega),if_pos ⟨by omega,h3⟩]
  ·rw [List.getElem?_append_right (by omega),if_neg (by omega),List.getElem?_drop]; congr 1; omega
theorem As.put {W:CW} {b:Nat} {e:TypeId} {vs ws:List Value} {k:Nat} (h:As W b e vs) (hk:k+ws.length≤vs.length):∃ c n z,W.obj b=some (.cells c n z e)∧vs.length=n∧As (W.A5 b (.cells (c.Ag k ws) n z e)) b e (putAt vs k ws):=by
 obtain ⟨c,n,z,ho,hn,hv⟩:=h; refine ⟨c,n,z,ho,hn,_,_,_,by rw [Fz,if_pos rfl],by rw [YW hk,hn],fun j v hj=>?_⟩; rw [KO hk] at hj; unfold cellAt; rw [Tr.JE]
 split at hj
 ·rename_i h1; rw [if_pos h1,hj]
 ·rename_i h1; rw [if_neg h1]; exact hv j v hj
theorem Af {t:TypeId} (hs:DM P t=some 1) {a:Addr} {v:Value} (h1:BN v=true) {W:CW} {e:TypeId} {vs:List Value} (hb:As W a.block e vs) (ha:a.off<vs.length) {K:CW→Prop}
  (hk:∀ W1,DO a.block W W1→As W1 a.block e (putAt vs a.off [v])→K W1):wV (CE P t (.pointer (some a)) v W) K:=by
 obtain ⟨c,n,z,ho,hn,cX⟩:=hb.put (k:=a.off) (ws:=[v]) (by simp only [List.length_singleton]; omega); refine Ay ?_ (hk _ (DO.of _ _ _) cX); have:CE P t (.pointer (some a)) v W=Jc P t a v W:=rfl; rw [this]; unfold Jc; rw [ho]; have Au:Nat.blt a.off n=true:=Nat.ble_eq_true_of_le (by omega)
 cases v <;> first | (cases h1; done) | (simp only [hs,Au,Nat.beq_refl,Bool.and_self,cond_true,Tr.Ag])
theorem DF {t:TypeId} {m:Nat} (hs:DM P t=some m) {a:Addr} {ws:List Value} (h1:ws.all BN=true) (hm:ws.length=m) {W:CW} {e:TypeId} {vs:List Value} (hb:As W a.block e vs) (ha:a.off+m≤vs.length) {K:CW→Prop}
  (hk:∀ W1,DO a.block W W1→As W1 a.block e (putAt vs a.off ws)→K W1):wV (CE P t (.pointer (some a)) (.agg ws.toArray) W) K:=by
 obtain ⟨c,n,z,ho,hn,cX⟩:=hb.put (k:=a.off) (ws:=ws) (by omega); refine Ay ?_ (hk _ (DO.of _ _ _) cX); have:CE P t (.pointer (some a)) (.agg ws.toArray) W=Jc P t a (.agg ws.toArray) W:=rfl; rw [this]; unfold Jc; rw [ho]; have Au:Nat.ble (a.off+m) n=true:=Nat.ble_eq_true_of_le (by omega); simp only [hs,Au,hm,List.size_toArray,Nat.beq_refl,Bool.and_self,cond_true,h1]
end
end Go.Ce
namespace Go.Ce
theorem AA {α:Type} (v:α) (K:α→Prop):wV (some v) K=K v:=rfl
theorem nA (v:Value) (W:CW) (K:Value→CW→Prop):Bw (some (v,W)) K=K v W:=rfl
theorem Bh (X Y:Prop):wI (.bool true) X Y=X:=rfl
theorem Ar (X Y:Prop):wI (.bool false) X Y=Y:=rfl
theorem Ai (b:Bool):KG (.bool b)=some (.bool (!b)):=rfl
theorem B_ (Y:Env→List Deferred→CW→Prop) (K:AG) (e:Env) (ds:List Deferred) (W:CW):Aw Y K .normal e ds W=Y e ds W:=rfl
theorem Lm (Y:Env→List Deferred→CW→Prop) (K:AG) (e:Env) (ds:List Deferred) (W:CW):Aw Y K .ret e ds W=K .ret e ds W:=rfl
theorem Va (Y:Env→List Deferred→CW→Prop) (K:AG) (i:Nat) (e:Env) (ds:List Deferred) (W:CW):Aw Y K (.exit i) e ds W=K (.exit i) e ds W:=rfl
theorem Wt (Y:Env→List Deferred→CW→Prop) (K:AG) (ch:List PanicEntry) (e:Env) (ds:List Deferred) (W:CW):Aw Y K (.panic ch) e ds W=K (.panic ch) e ds W:=rfl
theorem wx (i:Nat) (K:AG) (e:Env) (ds:List Deferred) (W:CW):Bm i K .normal e ds W=K .normal e ds W:=rfl
theorem Sz (i:Nat) (K:AG) (e:Env) (ds:List Deferred) (W:CW):Bm i K .ret e ds W=K .ret e ds W:=rfl
theorem lB (i:Nat) (K:AG) (ch:List PanicEntry) (e:Env) (ds:List Deferred) (W:CW):Bm i K (.panic ch) e ds W=K (.panic ch) e ds W:=rfl
theorem M6 (i j:Nat) (K:AG) (e:Env) (ds:List Deferred) (W:CW):Bm i K (.exit j) e ds W=if j=i then K .normal e ds W else K (.exit j) e ds W:=by
 simp only [Bm,cond_eq_ite,Nat.beq_eq]
theorem eKa (vs:List Value) (t:Nat):Env.args vs t=(vs[t]?).getD undef:=by
 unfold Env.args
 cases vs[t]? <;> rfl
def Wu (I:Nat→Env→List Deferred→CW→Prop) (k:Nat) (K:AG):AG:=fun x e ds W=>match x with
 | .normal=>∃ k',k'<k∧I k' e ds W
 | x=>K x e ds W
theorem tKn (I:Nat→Env→List Deferred→CW→Prop) (k:Nat) (K:AG) (e:Env) (ds:List Deferred) (W:CW):Wu I k K .normal e ds W=∃ k',k'<k∧I k' e ds W:=rfl
theorem tKr (I:Nat→Env→List Deferred→CW→Prop) (k:Nat) (K:AG) (e:Env) (ds:List Deferred) (W:CW):Wu I k K .ret e ds W=K .ret e ds W:=rfl
theorem tKx (I:Nat→Env→List Deferred→CW→Prop) (k:Nat) (K:AG) (i:Nat) (e:Env) (ds:List Deferred) (W:CW):Wu I k K (.exit i) e ds W=K (.exit i) e ds W:=rfl
theorem tKp (I:Nat→Env→List Deferred→CW→Prop) (k:Nat) (K:AG) (ch:List PanicEntry) (e:Env) (ds:List Deferred) (W:CW):Wu I k K (.panic ch) e ds W=K (.panic ch) e ds W:=rfl
theorem eQ {P:Program} {L:List FuncId} {ro:Option Nat} {fn:FuncId} {nt:Nat} {b:Code} {K:AG} (I:Nat→Env→List Deferred→CW→Prop) (k:Nat) {e:Env} {ds:List Deferred} {W:CW} (h0:I k e ds W)
  (Lk:∀ k e ds W,I k e ds W→AK P L ro fn nt b e ds W (Wu I k K)):C6 P L ro fn nt (.loop b) e ds W K :=
 AAn I (fun k e ds W hi=>Lk k e ds W hi) k e ds W h0
def Nu (v:Value) (W:CW):Ending→CW→Prop:=fun e W'=>e=.returned v∧W'=W
theorem D0 {P:Program} {L:List FuncId} {f:FuncId} {args:List Value} {W:CW} {K:Value→CW→Prop} {KP:List PanicEntry→CW→Prop} {v:Value} (h:AF P L f args W (Nu v W)) (hk:K v W):AF P L f args W (AT K KP) :=
 h.mono fun e W' ⟨he,hw⟩=>by subst he; subst hw; exact hk
theorem GY {P:Program} {L:List FuncId} {f:FuncId} {first cap:Array Value} {args:List Value} {W:CW} {K:Value→CW→Prop} {KP:List PanicEntry→CW→Prop} {fn:Func} (hf:P.funcs[f]?=some fn) (hb:fn.body.isNone=false)
  (h:AF P L f (first.toList++args++cap.toList) W (AT K KP)):DZ P L (.func (.func f) first cap) args W K KP:=by
 unfold DZ Hm; simp only; have:JD P f (first.toList++args++cap.toList) W=none:=by unfold JD; rw [hf]; simp only [hb,cond_false]
 rw [this]; exact h
def Ax {α:Type} (n:Nat) (R:Nat→Nat→α→Prop) (v:Value) (l:List α):Prop:=∃ a cap,v=.slice a l.length cap∧∀ i x,l[i]?=some x→∃ p,a=some p∧R p.block (p.off+i*n) x
section
variable {P:Program} {t:TypeId} {k:Bool}
theorem Bp (kk:IntKind) (a b:Int):AU P .eql t k (.int kk a) (.int kk b)=some (.bool (a == b)):=by simp [AU,Oi]
theorem DI (kk:IntKind) (a b:Int):AU P .neq t k (.int kk a) (.int kk b)=some (.bool (a != b)):=by simp [AU,Oi]
theorem A7 (kk:IntKind) (a b:Int):AU P .lss t k (.int kk a) (.int kk b)=some (.bool (decide (a<b))):=by simp [AU,Oi]
theorem IY (kk:IntKind) (a b:Int):AU P .leq t k (.int kk a) (.int kk b)=some (.bool (decide (a≤b))):=by simp [AU,Oi]
theorem CY (kk:IntKind) (a b:Int):AU P .gtr t k (.int kk a) (.int kk b)=some (.bool (decide (a>b))):=by simp [AU,Oi]
theorem HM (kk:IntKind) (a b:Int):AU P .geq t k (.int kk a) (.int kk b)=some (.bool (decide (a≥b))):=by simp [AU,Oi]
theorem Az (kk:IntKind) (a b:Int):AU P .add t k (.int kk a) (.int kk b)=some (.int kk (kk.wrap (a+b))):=by simp [AU,Oi]
theorem D7 (kk:IntKind) (a b:Int):AU P .sub t k (.int kk a) (.int kk b)=some (.int kk (kk.wrap (a-b))):=by simp [AU,Oi]
theorem aD (kk:IntKind) (a b:Int):AU P .mul t k (.int kk a) (.int kk b)=some (.int kk (kk.wrap (a*b))):=by simp [AU,Oi]
theorem aE (kk:IntKind) (a b:Int) (h:b≠0):AU P .quo t k (.int kk a) (.int kk b)=some (.int kk (kk.wrap (a.tdiv b))):=by simp [AU,Oi,beq_false_of_ne h]
theorem Uf (kk:IntKind) (a b:Int) (h:b≠0):AU P .rem t k (.int kk a) (.int kk b)=some (.int kk (a.tmod b)):=by simp [AU,Oi,beq_false_of_ne h]
theorem Wv (a b:ByteArray):AU P .eql t k (.string a) (.string b)=some (.bool (Vh (sb a) (sb b))):=rfl
theorem RB (a b:ByteArray):AU P .neq t k (.string a) (.string b)=some (.bool (!Vh (sb a) (sb b))):=rfl
theorem Ww (a b:ByteArray):AU P .geq t k (.string a) (.string b)=some (.bool (!S7 (sb a) (sb b))):=rfl
theorem Ug:∀ l:List UInt8,Vh l l=true
 | []=>rfl
 | a::l=>by simp only [Vh,Nat.beq_refl,Ug l,Bool.and_self]
theorem rC {a b:ByteArray}:Vh (sb a) (sb b)=true↔a=b:=⟨MC,fun h=>by rw [h]; exact Ug _⟩
theorem PF (a b:ByteArray):Vh (sb a) (sb b)=decide (a=b):=by
 cases h:Vh (sb a) (sb b) with
 | true=>exact (decide_eq_true (MC h)).symm
 | false=>exact (decide_eq_false fun e=>by rw [rC.2 e] at h; cases h).symm
theorem Ah {el:TypeId} (u:P.underlying t=some (.slice el)) (a:Option Addr) (n c:Nat) (W:CW):Aj P t (.slice a n c) W=some (.int .i64 n):=by unfold Aj; rw [u]
theorem KQ (u:P.underlying t=some .string) (s:ByteArray) (W:CW):Aj P t (.string s) W=some (.int .i64 s.size):=by unfold Aj; rw [u]
theorem A8 {el:TypeId} {n:Nat} (u:P.underlying t=some (.slice el)) (hs:DM P el=some n) {a:Addr} {len cap:Nat} {kk:IntKind} {i:Nat} (hi:i<len):EV P t (.slice (some a) len cap) (.int kk i)=some (.pointer (some ⟨a.block,a.off+i*n,none⟩)):=by
 unfold EV; simp only [u,CV,hs]; simp only [cond_eq_ite]; rw [if_pos (by simp only [Bool.and_eq_true,decide_eq_true_eq]; omega)]; simp
theorem wrap64 {x:Int} (h1:-9223372036854775808≤x) (h2:x≤9223372036854775807):IntKind.i64.wrap x=x:=by
 unfold IntKind.wrap; simp [IntKind.bits,IntKind.signed]; omega
end
theorem gKz {α:Type} (a:α) (l:List α):(a::l)[0]?=some a:=rfl
theorem gKs {α:Type} (a:α) (l:List α) (i:Nat):(a::l)[i+1]?=l[i]?:=rfl
theorem rD {α:Type} (a b:α):(some a).getD b=a:=rfl
end Go.Ce
namespace Go.Ce
open Go Go.Proofs Go.Proofs.Tryz
structure Uh where
 name:ByteArray
 kind:Int
structure Ad where
 name:ByteArray
 By:ByteArray
 fields:List Uh
 elem:Int
structure Bc where
 type:ByteArray
 to:ByteArray
 map:List Int
structure BM where
 type:ByteArray
 AH:List Int
def De (W:CW) (b o:Nat) (x:Int):Prop:=W.cell b o=some (.int .i64 x)∧-9223372036854775808≤x∧x≤9223372036854775807
structure RC (W:CW) (b o:Nat) (x:Uh):Prop where
 name:W.cell b o=some (.string x.name)
 kind:W.cell b (o+1)=some (.int .u8 x.kind)
 lo:0≤x.kind
 hi:x.kind<256
structure Lu (W:CW) (b o:Nat) (x:Ad):Prop where
 name:W.cell b o=some (.string x.name)
 By:W.cell b (o+1)=some (.string x.By)
 fields:∃ v,W.cell b (o+2)=some v∧Ax 2 (RC W) v x.fields
 elem:W.cell b (o+3)=some (.int .u8 x.elem)
 binds:∃ a l k,W.cell b (o+4)=some (.slice a l k)
 lo:0≤x.elem
 hi:x.elem<256
def NT (W:CW) (el:TypeId) (v:Value):Prop:=∀ a l c,v=.slice a l c→Tp W a el=true∧l≤c
theorem NT.of {W W':CW} {el:TypeId} {v:Value} (h:NT W el v) (ho:∀ b o,W.obj b=some o→(∃ c n z e,o=.cells c n z e)∨(∃ f n e,o=.fixed f n e)→W'.obj b=some o):NT W' el v:=by
 intro a l c hv; obtain ⟨h1,h2⟩:=h a l c hv; refine ⟨?_,h2⟩
 cases a with
 | none=>rfl
 | some a =>
  unfold Tp at h1 ⊢; simp only [Bool.or_eq_true] at h1 ⊢
  rcases h1 with h1 | h1
  ·exact .inl h1
  ·right
   cases hb:W.obj a.block with
   | none=>rw [hb] at h1; cases h1
   | some o =>
    rw [hb] at h1
    cases o with
    | cells c n z e=>rw [ho _ _ hb (.inl ⟨_,_,_,_,rfl⟩)]; exact h1
    | fixed f n e=>rw [ho _ _ hb (.inr ⟨_,_,_,rfl⟩)]; exact h1
    | _=>cases h1
theorem NT.kp {W W':CW} {el:TypeId} {v:Value} (h:NT W el v) (ht:Al W) (k:Kp W W'):NT W' el v:=h.of fun b o hb _=>by rw [k.obj b (ht _ _ hb)]; exact hb
structure OM (W:CW) (b o:Nat) (x:Bc):Prop where
 type:W.cell b o=some (.string x.type)
 to:W.cell b (o+1)=some (.string x.to)
 map:∃ v,W.cell b (o+2)=some v∧Ax 1 (De W) v x.map∧NT W 3 v
structure IZ (W:CW) (b o:Nat) (x:BM):Prop where
 type:W.cell b o=some (.string x.type)
 AH:∃ v,W.cell b (o+1)=some v∧Ax 1 (De W) v x.AH
theorem u9:prog.underlying 9=some .string:=by kernel_rfl
theorem kY:prog.underlying 22=some (.slice 48):=by kernel_rfl
theorem iR:prog.underlying 23=some (.slice 58):=by kernel_rfl
theorem Vg:prog.underlying 24=some (.slice 56):=by kernel_rfl
theorem RD:prog.underlying 29=some (.slice 5):=by kernel_rfl
theorem H3:prog.underlying 40=some (.slice 3):=by kernel_rfl
theorem tY:prog.underlying 45=some (.slice 72):=by kernel_rfl
theorem p9:prog.underlying 51=some (.slice 9):=by kernel_rfl
theorem s3:DM prog 3=some 1:=by kernel_rfl
theorem s5:DM prog 5=some 1:=by kernel_rfl
theorem s9:DM prog 9=some 1:=by kernel_rfl
theorem gi:DM prog 48=some 5:=by kernel_rfl
theorem Ia:DM prog 56=some 2:=by kernel_rfl
theorem ZB:DM prog 58=some 3:=by kernel_rfl
theorem s72:DM prog 72=some 2:=by kernel_rfl
theorem a3:agg? prog 3=some false:=by kernel_rfl
theorem a5:agg? prog 5=some false:=by kernel_rfl
theorem a9:agg? prog 9=some false:=by kernel_rfl
theorem a29:agg? prog 29=some false:=by kernel_rfl
theorem M7:agg? prog 40=some false:=by kernel_rfl
theorem a45:agg? prog 45=some false:=by kernel_rfl
theorem a48:agg? prog 48=some true:=by kernel_rfl
theorem YX:agg? prog 56=some true:=by kernel_rfl
theorem a58:agg? prog 58=some true:=by kernel_rfl
theorem a72:agg? prog 72=some true:=by kernel_rfl
theorem PG (a:Addr):A0 prog 48 (.pointer (some a)) 0=some (.pointer (some ⟨a.block,a.off,none⟩)):=by kernel_rfl
theorem YY (a:Addr):A0 prog 48 (.pointer (some a)) 1=some (.pointer (some ⟨a.block,a.off+1,none⟩)):=by kernel_rfl
theorem PH (a:Addr):A0 prog 48 (.pointer (some a)) 2=some (.pointer (some ⟨a.block,a.off+2,none⟩)):=by kernel_rfl
theorem YZ (a:Addr):A0 prog 48 (.pointer (some a)) 3=some (.pointer (some ⟨a.block,a.off+3,none⟩)):=by kernel_rfl
theorem Ya (a:Addr):A0 prog 72 (.pointer (some a)) 0=some (.pointer (some ⟨a.block,a.off,none⟩)):=by kernel_rfl
theorem gj (a:Addr):A0 prog 72 (.pointer (some a)) 1=some (.pointer (some ⟨a.block,a.off+1,none⟩)):=by kernel_rfl
theorem F1 (a:Addr):A0 prog 56 (.pointer (some a)) 0=some (.pointer (some ⟨a.block,a.off,none⟩)):=by kernel_rfl
theorem D1 (a:Addr):A0 prog 56 (.pointer (some a)) 1=some (.pointer (some ⟨a.block,a.off+1,none⟩)):=by kernel_rfl
theorem LQ (a:Addr):A0 prog 58 (.pointer (some a)) 0=some (.pointer (some ⟨a.block,a.off,none⟩)):=by kernel_rfl
theorem LR (a:Addr):A0 prog 58 (.pointer (some a)) 1=some (.pointer (some ⟨a.block,a.off+1,none⟩)):=by kernel_rfl
theorem LS (a:Addr):A0 prog 58 (.pointer (some a)) 2=some (.pointer (some ⟨a.block,a.off+2,none⟩)):=by kernel_rfl
end Go.Ce
namespace Go.Ce
open Go Go.Proofs Go.Proofs.Tryz
theorem aF (n a b:Int) (W:CW):AF prog AV 103 [.int .i64 n,.int .i64 a,.int .i64 b] W (Nu (.bool (decide (a≤n) && decide (n≤b))) W):=by
 refine wT ?_; rw [wR]; simp only [HM,IY,AA]; refine AP (fun h=>?_) (fun h=>?_) <;> simp only [YR,B_,eL,Ao] <;> refine ⟨?_,rfl⟩ <;> simp at h <;> simp [h]
 omega
theorem Wx (n:Int) (W:CW):AF prog AV 100 [.int .u8 n] W (Nu (.bool (n == 1 || n == 2)) W):=by
 refine wX ?_; rw [wU]; simp only [Bp,AA]; refine AP (fun h=>?_) (fun h=>?_) <;> simp only [YS,B_,eM,Ao] <;> refine ⟨?_,rfl⟩ <;> simp [h]
theorem Yb (n:Int) (W:CW):AF prog AV 124 [.int .u8 n] W (Nu (.bool (decide (n<33) || decide (n>126))) W):=by
 refine wi ?_; rw [wh]; simp only [A7,CY,AA]; refine AP (fun h=>?_) (fun h=>?_) <;> simp only [YU,B_,eO,Ao] <;> refine ⟨?_,rfl⟩ <;> simp [h]
end Go.Ce
namespace Go.Ce
def jR (T:Tr Value) (t:Nat):Value:=match T.get t with | some v=>v | none=>undef
theorem Yc (a:AJ) (t:Nat):a.at t=jR a.t t:=by
 unfold AJ.at jR
 cases a.t.get t <;> rfl
def Df (W:CW) (l:Nat) (st:LoopState) (DX:Option Code) (fn:FuncId) (e:Env) (nt:Nat) (ps:Array Tmp) (A B:Code) (d:Nat):Prop :=
 ∃ T:Tr Value,W.obj l=some (.loop st DX fn T nt ps A B d)∧∀ t,jR T t=e t
theorem Df.congr {W W':CW} {l:Nat} {st:LoopState} {DX:Option Code} {fn:FuncId} {e:Env} {nt:Nat} {ps:Array Tmp} {A B:Code} {d:Nat} (h:Df W l st DX fn e nt ps A B d) (ho:W'.obj l=W.obj l):Df W' l st DX fn e nt ps A B d:=by
 obtain ⟨T,h1,h2⟩:=h; exact ⟨T,ho.trans h1,h2⟩
def Env.Hi (e:Env):List (Tmp × Value)→Env
 | []=>e
 | p::ps=>Env.Hi (fun t=>if t=p.1 then p.2 else e t) ps
theorem gk:∀ (ps:List (Tmp × Value)) (T:Tr Value) (e:Env),(∀ t,jR T t=e t) →
  ∀ t,jR (ps.foldl (fun t (p:Tmp × Value)=>t.set p.1 p.2) T) t=e.Hi ps t
 | [],T,e,h=>h
 | p::ps,T,e,h=>by
  intro t; refine gk ps (T.set p.1 p.2) _ (fun t=>?_) t; unfold jR; rw [Tr.Bi]
  by_cases ht:t=p.1
  ·rw [if_pos ht,if_pos ht]
  ·rw [if_neg ht,if_neg ht]; exact h t
def ADn (l:Nat) (Q:Ending→CW→Prop):AG:=fun x _ ds W=>∃ st DX fn e nt ps A B d,Df W l st DX fn e nt ps A B d∧match x with
 | .normal=>∀ W',DO l W W'→Df W' l .ready none fn e nt ps A B d→Q (.returned (.bool true)) W'
 | .ret=>∀ W',DO l W W'→Df W' l .done (some .ret) fn e nt ps A B d→Q (.returned (.bool false)) W'
 | .exit id=>∀ W',DO l W W'→Df W' l .done (some (.exit id)) fn e nt ps A B d→Q (.returned (.bool false)) W'
 | .panic ch=>ds=[]∧Q (.panicked ch) W
 | _=>False
section
variable {P:Program} {L:List FuncId}
theorem gl {l:Nat} {args:List Value} {W:CW} {Q:Ending→CW→Prop} {DX:Option Code} {fn:FuncId} {e:Env} {nt:Nat} {ps:Array Tmp} {A B:Code} {d:Nat} (hl:Df W l .ready DX fn e nt ps A B d) (hn:args.length=ps.size)
  (h:AK P L (some l) fn nt A (e.Hi (ps.toList.zip args)) [] W fun x e1 ds W1=>x=.normal∧∃ aG e2 zy vX A1 B1 d1,Df W1 l .ready aG fn e2 zy vX A1 B1 d1∧∀ W2,DO l W1 W2→Df W2 l .busy aG fn e2 zy vX A1 B1 d1→AK P L (some l) fn nt B e1 ds W2 (ADn l Q)):IP P L l args W Q:=by
 obtain ⟨T,ho,hT⟩:=hl
 let a0:AJ:=⟨(ps.toList.zip args).foldl (fun t (p:Tmp × Value)=>t.set p.1 p.2) T,nt,[]⟩
 have hae:AE a0 (e.Hi (ps.toList.zip args)) []:=⟨fun t=>by rw [Yc]; exact gk _ T e hT t,rfl⟩
 obtain ⟨n,⟨x1,a1,W1⟩,h1,e1,h2,h3,h4⟩:=E8 h a0 hae rfl; simp only at h2 h3 h4; obtain ⟨rfl,aG,e2,zy,vX,A1,B1,d1,Wd,h4⟩:=h4; obtain ⟨T1,wy,hT1⟩:=Wd; obtain ⟨m,⟨x2,a2,W2⟩,h5,e3,h6,h7,h8⟩:=E8 (h4 _ (DO.of W1 l (.loop .busy aG fn T1 zy vX A1 B1 d1)) ⟨T1,by rw [Fz,if_pos rfl],hT1⟩) a1 h2 h3; simp only at h8; obtain ⟨st,AFw,fn2,e4,nt2,ps2,A2,B2,d2,Mz,h8⟩:=h8; obtain ⟨T2,cY,hT2⟩:=Mz; have up1:(C2 P L (max n m)).code (some l) fn A a0 W=some [(.normal,a1,W1)]:=Fw (Nat.le_max_left n m) h1; have up2:(C2 P L (max n m)).code (some l) fn B a1 (W1.A5 l (.loop .busy aG fn T1 zy vX A1 B1 d1))=some [(x2,a2,W2)]:=Fw (Nat.le_max_right n m) h5
 have key:∀ {o:Ending × CW},(match x2 with
   | .normal=>Tv l none W2
   | .ret=>Tv l (some .ret) W2
   | .exit id=>Tv l (some (.exit id)) W2
   | .panic ch=>cond a2.defers.isEmpty (some [(.panicked ch,W2)]) none
   | _=>none)=some [o]→(C2 P L (max n m+1)).round l args W=some [o]:=by
  intro o hx; rw [GU]; simp only [CD,ho]; have hq:Nat.beq args.length ps.size=true:=by rw [hn]; exact Nat.beq_refl _
  rw [hq]; simp only [cond_true]; rw [show (C2 P L (max n m)).code (some l) fn A ⟨(ps.toList.zip args).foldl (fun t (p:Tmp × Value)=>t.set p.1 p.2) T,nt,[]⟩ W=some [(.normal,a1,W1)] from up1]; refine BY _ _ ?_; simp only [wy]; rw [up2]; refine BY _ _ ?_; rw [←hx]
  cases x2 <;> rfl
 cases x2 with
 | normal=>exact ⟨_,(.returned (.bool true),W2.A5 l (.loop .ready none fn2 T2 nt2 ps2 A2 B2 d2)),key (by simp only [Tv,cY]; rfl),h8 _ (DO.of _ _ _) ⟨T2,by rw [Fz,if_pos rfl],hT2⟩⟩
 | ret=>exact ⟨_,(.returned (.bool false),W2.A5 l (.loop .done (some .ret) fn2 T2 nt2 ps2 A2 B2 d2)),key (by simp only [Tv,cY]; rfl),h8 _ (DO.of _ _ _) ⟨T2,by rw [Fz,if_pos rfl],hT2⟩⟩
 | exit id=>exact ⟨_,(.returned (.bool false),W2.A5 l (.loop .done (some (.exit id)) fn2 T2 nt2 ps2 A2 B2 d2)),key (by simp only [Tv,cY]; rfl),h8 _ (DO.of _ _ _) ⟨T2,by rw [Fz,if_pos rfl],hT2⟩⟩
 | panic ch =>
  obtain ⟨hd,hq⟩:=h8; exact ⟨_,(.panicked ch,W2),key (by simp only [hd]; rfl),hq⟩
 | goto id=>exact h8.elim
 | outgrown=>exact h8.elim
def eR (l:Nat) (e:Env) (ds:List Deferred) (K:AG):Ending→CW→Prop:=fun en W=>(∃ v,en=.returned v)∧∃ st DX fn e0 nt ps A B d,Df W l st DX fn e0 nt ps A B d∧st≠.busy∧∀ W',DO l W W'→match DX with
 | none=>K .normal e ds W'
 | some .ret=>K .ret e ds W'
 | some (.exit id)=>K (.exit id) e ds W'
 | _=>False
def mark (r:Nat):Deferred:={ target:=.collected r,args:=#[] }
def TN (DX:Option Code) (a:AJ) (W:CW):K4:=match DX with
 | none=>some [(.normal,a,W)]
 | some .ret=>some [(.ret,a,W)]
 | some (.exit id)=>some [(.exit id,a,W)]
 | _=>none
theorem eS {ro:Option Nat} {fn:FuncId} {nt:Nat} {f:Operand} {ps:Array Tmp} {A B:Code} {e:Env} {ds:List Deferred} {W W1:CW} {K:AG} {dl:Nat} {mk:List Deferred} {g:FuncId} {args:List Value} (har:Tu ro W=some (dl,mk,W1))
  (hf:Hm (e.ev f) [.func (.yield W1.sz) #[] #[]]=some (.enter g args))
  (h:∀ W2,DO W1.sz (W1.new .deferred) W2→Df W2 W1.sz .ready none fn e nt ps A B dl→AF P L g args W2 (eR W1.sz e (mk++ds) K)):C6 P L ro fn nt (.rangeFunc f ps A B) e ds W K:=by
 intro a ha hn; have h0:W1.new (.loop .ready none fn a.t a.nt ps A B dl)=(W1.new .deferred).A5 W1.sz (.loop .ready none fn a.t a.nt ps A B dl)∨True:=.inr trivial; have hu:DO W1.sz (W1.new .deferred) (W1.new (.loop .ready none fn a.t a.nt ps A B dl)):=⟨rfl,fun i hi=>by rw [BK,BK,if_neg hi,if_neg hi]⟩
 have hl:Df (W1.new (.loop .ready none fn a.t a.nt ps A B dl)) W1.sz .ready none fn e nt ps A B dl:=⟨a.t,by rw [BK,if_pos rfl,hn],fun t=>(Yc a t).symm.trans (ha.1 t)⟩
 obtain ⟨n,⟨en,W3⟩,h1,⟨v,hv⟩,st,DX,TD,e0,aH,aI,A',B',d',⟨T,ho,hT⟩,EL,hk⟩:=h _ hu hl; simp only at hv; subst hv; have AF6:AE ({ a with defers:=mk++a.defers }:AJ) e (mk++ds):=⟨ha.1,by rw [ha.2]⟩
 have key:∀ {o:Exit × AJ × CW},TN DX { a with defers:=mk++a.defers } (W3.A5 W1.sz (.loop .exhausted DX TD T aH aI A' B' d'))=some [o]→(C2 P L (n+1)).code ro fn (.rangeFunc f ps A B) a W=some [o]:=by
  intro o hx; rw [GU]; show Bo P (C2 P L n) ro fn (.rangeFunc f ps A B) a W=some [o]; unfold Bo; simp only [har,ha.eval,hf]; rw [h1]; refine BY _ _ ?_; simp only [ho]; rw [←hx]
  cases st <;> first | exact (EL rfl).elim | (cases DX with | none=>rfl | some c=>cases c <;> rfl)
 have hk:=hk _ (DO.of W3 W1.sz (.loop .exhausted DX TD T aH aI A' B' d'))
 have fin:∀ x:Exit,TN DX { a with defers:=mk++a.defers } (W3.A5 W1.sz (.loop .exhausted DX TD T aH aI A' B' d'))=some [(x,({ a with defers:=mk++a.defers }:AJ),W3.A5 W1.sz (.loop .exhausted DX TD T aH aI A' B' d'))]→K x e (mk++ds) (W3.A5 W1.sz (.loop .exhausted DX TD T aH aI A' B' d'))→mb P L ro fn (.rangeFunc f ps A B) a W fun x a' W'=>∃ e',AE a' e' a'.defers∧a'.nt=nt∧K x e' a'.defers W':=by
  intro x hx hK
  refine ⟨n+1,_,key hx,e,?_,hn,?_⟩
  ·exact ⟨ha.1,rfl⟩
  ·show K x e (mk++a.defers) _; rw [ha.2]; exact hK
 cases DX with
 | none=>exact fin .normal rfl hk
 | some c =>
  cases c <;> first | exact hk.elim | exact fin _ rfl hk
def gm (l:Nat) (e:Env) (ds:List Deferred) (K:AG):Ending→CW→Prop
 | .panicked ch,W=>K (.panic ch) e ds W
 | en,W=>eR l e ds K en W
theorem aJ {ro:Option Nat} {fn:FuncId} {nt:Nat} {f:Operand} {ps:Array Tmp} {A B:Code} {e:Env} {ds:List Deferred} {W W1:CW} {K:AG} {dl:Nat} {mk:List Deferred} {g:FuncId} {args:List Value} (har:Tu ro W=some (dl,mk,W1))
  (hf:Hm (e.ev f) [.func (.yield W1.sz) #[] #[]]=some (.enter g args))
  (h:∀ W2,DO W1.sz (W1.new .deferred) W2→Df W2 W1.sz .ready none fn e nt ps A B dl→AF P L g args W2 (gm W1.sz e (mk++ds) K)):C6 P L ro fn nt (.rangeFunc f ps A B) e ds W K:=by
 ·intro a ha hn; have hu:DO W1.sz (W1.new .deferred) (W1.new (.loop .ready none fn a.t a.nt ps A B dl)):=⟨rfl,fun i hi=>by rw [BK,BK,if_neg hi,if_neg hi]⟩
  have hl:Df (W1.new (.loop .ready none fn a.t a.nt ps A B dl)) W1.sz .ready none fn e nt ps A B dl:=⟨a.t,by rw [BK,if_pos rfl,hn],fun t=>(Yc a t).symm.trans (ha.1 t)⟩
  obtain ⟨n,⟨en,W3⟩,h1,nB⟩:=h _ hu hl
  cases en with
  | panicked ch =>
   refine ⟨n+1,(.panic ch,{ a with defers:=mk++a.defers },W3),?_,e,⟨ha.1,rfl⟩,hn,?_⟩
   ·rw [GU]; show Bo P (C2 P L n) ro fn (.rangeFunc f ps A B) a W=_; unfold Bo; simp only [har,ha.eval,hf]; rw [h1]; exact BY _ _ rfl
   ·show K (.panic ch) e (mk++a.defers) W3; rw [ha.2]; exact nB
  | returned v =>
   obtain ⟨_,st,DX,TD,e0,aH,aI,A',B',d',⟨T,ho,hT⟩,EL,hk⟩:=nB; have hk:=hk _ (DO.of W3 W1.sz (.loop .exhausted DX TD T aH aI A' B' d'))
   have key:∀ {o:Exit × AJ × CW},TN DX { a with defers:=mk++a.defers } (W3.A5 W1.sz (.loop .exhausted DX TD T aH aI A' B' d'))=some [o]→(C2 P L (n+1)).code ro fn (.rangeFunc f ps A B) a W=some [o]:=by
    intro o hx; rw [GU]; show Bo P (C2 P L n) ro fn (.rangeFunc f ps A B) a W=some [o]; unfold Bo; simp only [har,ha.eval,hf]; rw [h1]; refine BY _ _ ?_; simp only [ho]; rw [←hx]
    cases st <;> first | exact (EL rfl).elim | (cases DX with | none=>rfl | some c=>cases c <;> rfl)
   have fin:∀ x:Exit,TN DX { a with defers:=mk++a.defers } (W3.A5 W1.sz (.loop .exhausted DX TD T aH aI A' B' d'))=some [(x,({ a with defers:=mk++a.defers }:AJ),W3.A5 W1.sz (.loop .exhausted DX TD T aH aI A' B' d'))]→K x e (mk++ds) (W3.A5 W1.sz (.loop .exhausted DX TD T aH aI A' B' d'))→mb P L ro fn (.rangeFunc f ps A B) a W fun x a' W'=>∃ e',AE a' e' a'.defers∧a'.nt=nt∧K x e' a'.defers W':=by
    intro x hx hK; refine ⟨n+1,_,key hx,e,⟨ha.1,rfl⟩,hn,?_⟩; show K x e (mk++a.defers) _; rw [ha.2]; exact hK
   cases DX with
   | none=>exact fin .normal rfl hk
   | some c=>cases c <;> first | exact hk.elim | exact fin _ rfl hk
  | outgrown=>obtain ⟨⟨v,hv⟩,_⟩:=nB; cases hv
theorem nC {fn:FuncId} {nt:Nat} {f:Operand} {ps:Array Tmp} {A B:Code} {e:Env} {ds:List Deferred} {W:CW} {K:AG} {g:FuncId} {args:List Value} (ht:Al W)
  (hf:Hm (e.ev f) [.func (.yield (W.sz+1)) #[] #[]]=some (.enter g args))
  (h:∀ W2,Kp W W2→Al W2→W2.sz=W.sz+2→W2.obj W.sz=some .deferred→Df W2 (W.sz+1) .ready none fn e nt ps A B W.sz→AF P L g args W2 (gm (W.sz+1) e (mark W.sz::ds) K)):C6 P L none fn nt (.rangeFunc f ps A B) e ds W K:=by
 refine aJ (dl:=W.sz) (mk:=[mark W.sz]) (W1:=W.new .deferred) rfl hf fun W2 hu hl=>?_; have k1:Kp W (W.new .deferred):=.new _; have k2:Kp W ((W.new .deferred).new .deferred):=k1.trans (.new _); have t2:Al ((W.new .deferred).new .deferred):=(ht.new _).new _; refine h W2 (k2.A5 (by rw [F8]; omega) hu) (t2.A5 (by simp only [F8]; omega) hu) (by rw [hu.sz]; rfl) ?_ hl; rw [hu.obj _ (by rw [F8]; omega),BK,if_neg (by rw [F8]; omega),BK,if_pos rfl]
theorem rE {fn:FuncId} {nt:Nat} {f:Operand} {ps:Array Tmp} {A B:Code} {e:Env} {ds:List Deferred} {W:CW} {K:AG} {g:FuncId} {args:List Value} (ht:Al W)
  (hf:Hm (e.ev f) [.func (.yield (W.sz+1)) #[] #[]]=some (.enter g args))
  (h:∀ W2,Kp W W2→Al W2→W2.sz=W.sz+2→W2.obj W.sz=some .deferred→Df W2 (W.sz+1) .ready none fn e nt ps A B W.sz→AF P L g args W2 (eR (W.sz+1) e (mark W.sz::ds) K)):C6 P L none fn nt (.rangeFunc f ps A B) e ds W K:=by
 refine eS (dl:=W.sz) (mk:=[mark W.sz]) (W1:=W.new .deferred) rfl hf fun W2 hu hl=>?_; have k1:Kp W (W.new .deferred):=.new _; have k2:Kp W ((W.new .deferred).new .deferred):=k1.trans (.new _); have t2:Al ((W.new .deferred).new .deferred):=(ht.new _).new _; refine h W2 (k2.A5 (by rw [F8]; omega) hu) (t2.A5 (by simp only [F8]; omega) hu) (by rw [hu.sz]; rfl) ?_ hl; rw [hu.obj _ (by rw [F8]; omega),BK,if_neg (by rw [F8]; omega),BK,if_pos rfl]
end
end Go.Ce
namespace Go.Ce
section
variable {κ:Type} [DecidableEq κ]
def look (m:List (κ × Value)) (s:κ) (i:Nat):Option (Nat × Value):=match m with
 | []=>none
 | p::m=>if s=p.1 then some (i,p.2) else look m s (i+1)
def LU (m:List (κ × Value)) (s:κ):Option Value:=match m with
 | []=>none
 | p::m=>if s=p.1 then some p.2 else LU m s
def Yd (m:List (κ × Value)) (s:κ) (x:Value):List (κ × Value):=match m with
 | []=>[(s,x)]
 | p::m=>if s=p.1 then (s,x)::m else p::Yd m s x
theorem ID:∀ (m:List (κ × Value)) (s:κ) (x:Value) (u:κ),LU (Yd m s x) u=if u=s then some x else LU m u
 | [],s,x,u=>by simp [Yd,LU]
 | p::m,s,x,u=>by
  simp only [Yd]
  by_cases h:s=p.1
  ·rw [if_pos h]; simp only [LU]
   by_cases hu:u=s
   ·rw [if_pos hu,if_pos hu]
   ·rw [if_neg hu,if_neg hu,if_neg (by rw [←h]; exact hu)]
  ·rw [if_neg h]; simp only [LU]
   by_cases hu:u=p.1
   ·rw [if_pos hu,if_pos hu,if_neg (fun e=>h (by rw [←e]; exact hu))]
   ·rw [if_neg hu,if_neg hu,ID m s x u]
theorem aK:∀ (m:List (κ × Value)) (s:κ) (i:Nat),(look m s i).map (·.2)=LU m s
 | [],s,i=>rfl
 | p::m,s,i=>by
  simp only [look,LU]
  by_cases h:s=p.1
  ·rw [if_pos h,if_pos h]; rfl
  ·rw [if_neg h,if_neg h]; exact aK m s (i+1)
def FV (enc:κ→Value) (W:CW) (r:Nat) (m:List (κ × Value)):Prop:=∃ es EC,W.obj r=some (.map es EC)∧es.map (fun e=>(e.key,e.val))=m.map fun p=>(enc p.1,p.2)
theorem FV.congr {enc:κ→Value} {W W':CW} {r:Nat} {m:List (κ × Value)} (h:FV enc W r m) (ho:W'.obj r=W.obj r):FV enc W' r m:=by
 obtain ⟨es,EC,h1,h2⟩:=h; exact ⟨es,EC,ho.trans h1,h2⟩
theorem FV.lt {enc:κ→Value} {W:CW} (ht:Al W) {r:Nat} {m:List (κ × Value)} (h:FV enc W r m):r<W.sz:=by
 obtain ⟨es,EC,h1,h2⟩:=h; exact ht _ _ h1
theorem FV.kp {enc:κ→Value} {W W':CW} {r:Nat} {m:List (κ × Value)} (h:FV enc W r m) (ht:Al W) (k:Kp W W'):FV enc W' r m:=h.congr (k.obj r (h.lt ht))
variable {enc:κ→Value} {d:TypeDesc}
theorem Ui (hk:∀ a b,NY d (enc a) (enc b)=some (decide (a=b))) (s:κ):∀ (es:List MapEntry) (m:List (κ × Value)) (i:Nat),es.map (fun e=>(e.key,e.val))=m.map (fun p=>(enc p.1,p.2))→J8 d (enc s) es i=some (look m s i)
 | [],[],i,_=>rfl
 | e::es,p::m,i,h=>by
  simp only [List.map_cons,List.cons.injEq,Prod.mk.injEq] at h; obtain ⟨⟨h1,h2⟩,h3⟩:=h; simp only [J8,look]; rw [h1,hk]
  by_cases hs:s=p.1
  ·rw [if_pos hs,decide_eq_true hs]; simp only [h2]
  ·rw [if_neg hs,decide_eq_false hs]; exact Ui hk s es m (i+1) h3
 | [],_::_,_,h=>by cases h
 | _::_,[],_,h=>by cases h
theorem gn (hk:∀ a b,NY d (enc a) (enc b)=some (decide (a=b))) (s:κ) (x:Value):∀ (es:List MapEntry) (m:List (κ × Value)) (i j:Nat) (y:Value),es.map (fun e=>(e.key,e.val))=m.map (fun p=>(enc p.1,p.2))→look m s i=some (j,y) →
  (JC x (enc s) (j-i) es).map (fun e=>(e.key,e.val))=(Yd m s x).map (fun p=>(enc p.1,p.2))∧i≤j
 | [],[],i,j,y,_,hl=>by cases hl
 | e::es,p::m,i,j,y,h,hl=>by
  simp only [List.map_cons,List.cons.injEq,Prod.mk.injEq] at h; obtain ⟨⟨h1,h2⟩,h3⟩:=h; simp only [look] at hl; simp only [Yd]
  by_cases hs:s=p.1
  ·rw [if_pos hs] at hl; rw [if_pos hs]
   cases hl
   refine ⟨?_,Nat.le_refl _⟩; rw [Nat.sub_self]; simp only [JC,List.map_cons,h3]
  ·rw [if_neg hs] at hl; rw [if_neg hs]; obtain ⟨h4,h5⟩:=gn hk s x es m (i+1) j y h3 hl; refine ⟨?_,by omega⟩; rw [show j-i=(j-(i+1))+1 by omega]; simp only [JC,List.map_cons,h4,h1,h2]
 | [],_::_,_,_,_,h,_=>by cases h
 | _::_,[],_,_,_,h,_=>by cases h
theorem Nv (s:κ) (x:Value):∀ (m:List (κ × Value)) (i:Nat),look m s i=none→Yd m s x=m++[(s,x)]
 | [],i,_=>rfl
 | p::m,i,h=>by
  simp only [look] at h; simp only [Yd]
  by_cases hs:s=p.1
  ·rw [if_pos hs] at h; cases h
  ·rw [if_neg hs] at h ⊢; rw [Nv s x m _ h]; rfl
variable {P:Program} {t kt el:TypeId} {z:Value}
theorem LV (u:P.underlying t=some (.map kt el)) (uk:P.underlying kt=some d) (hd:H_ d=true) (hz:Gm P el=some z) (hk:∀ a b,NY d (enc a) (enc b)=some (decide (a=b))) {W:CW} {r:Nat} {m:List (κ × Value)} (h:FV enc W r m) (s:κ) (ok:Bool) :
  GL P t (.map (some r)) (enc s) ok W=some (match LU m s with
   | some x=>cond ok (.tuple #[x,.bool true]) x
   | none=>cond ok (.tuple #[z,.bool false]) z):=by
 obtain ⟨es,EC,h1,h2⟩:=h; unfold GL NZ; simp only [u,uk,hd,hz,h1,CV,cond_true]; rw [Ui hk s es m 0 h2]; simp only; have:=aK m s 0
 cases hl:look m s 0 with
 | none=>rw [hl] at this; rw [←this]; rfl
 | some p=>rw [hl] at this; obtain ⟨i,x⟩:=p; rw [←this]; rfl
theorem aL (u:P.underlying t=some (.map kt el)) (uk:P.underlying kt=some d) (hd:H_ d=true) (hk:∀ a b,NY d (enc a) (enc b)=some (decide (a=b))) {W:CW} {r:Nat} {m:List (κ × Value)} (h:FV enc W r m) {s:κ} {x:Value} {K:CW→Prop}
  (hK:∀ W1,DO r W W1→FV enc W1 r (Yd m s x)→K W1):wV (cj P t (.map (some r)) (enc s) x W) K:=by
 obtain ⟨es,EC,h1,h2⟩:=h; have hf:=Ui hk s es m 0 h2
 cases hl:look m s 0 with
 | none =>
  rw [hl] at hf
  refine Ay (v:=W.A5 r (.map (es++[{ key:=enc s,val:=x,born:=EC }]) (EC+1))) ?_ (hK _ (DO.of _ _ _) ⟨_,_,by rw [Fz,if_pos rfl],?_⟩)
  ·unfold cj NZ; simp only [u,uk,hd,h1,CV,cond_true,hf]
  ·rw [Nv s x m 0 hl,List.map_append,List.map_append,h2]; rfl
 | some p =>
  obtain ⟨j,y⟩:=p; rw [hl] at hf; obtain ⟨h3,_⟩:=gn hk s x es m 0 j y h2 hl; rw [Nat.sub_zero] at h3; refine Ay (v:=W.A5 r (.map (JC x (enc s) j es) EC)) ?_ (hK _ (DO.of _ _ _) ⟨_,_,by rw [Fz,if_pos rfl],h3⟩); unfold cj NZ; simp only [u,uk,hd,h1,CV,cond_true,hf]
theorem Uj {W:CW} {K:Value→CW→Prop} (ht:Al W) (hk:∀ W1,Kp W W1→Al W1→W1.sz=W.sz+1→FV enc W1 W.sz []→K (.map (some W.sz)) W1):Bw (tV W) K :=
 hk _ (.new _) (ht.new _) rfl ⟨[],0,by rw [BK,if_pos rfl],rfl⟩
end
theorem F2 (a b:ByteArray):NY .string (.string a) (.string b)=some (decide (a=b)):=by
 simp only [NY,PF]
section
variable {P:Program}
theorem M8 {W:CW} {a:Addr} {cs:List Value} (h:Cells W a.block a.off cs):EI (some a) cs.length W=some cs:=by
 unfold EI; simp only [cond_eq_ite]
 cases cs with
 | nil=>rfl
 | cons c cs =>
  rw [if_neg (by simp)]; have SG:∃ v,(c::cs)[cs.length]?=some v:=⟨(c::cs)[cs.length]'(by simp),List.getElem?_eq_getElem _⟩
  obtain ⟨v,hv⟩:=SG; have Lj:=h _ v hv; unfold CW.cell at Lj
  split at Lj
  ·rename_i t n z e ho
   split at Lj
   ·rename_i Au; rw [ho]; simp only [List.length_cons]; rw [if_pos (Nat.ble_eq_true_of_le (by omega))]
    have:=GW (c:=t) (z:=z) (vs:=c::cs) (k:=a.off) fun j w hj=>by
     have:=h j w hj; unfold CW.cell at this; rw [ho] at this; simp only at this
     split at this
     ·exact Option.some.inj this
     ·cases this
    rw [←this]; simp
   ·cases Lj
  ·rename_i f n e ho
   split at Lj
   ·rename_i Au; rw [ho]; simp only [List.length_cons]; rw [if_pos (Nat.ble_eq_true_of_le (by omega))]
    have:=OL (f:=f) (vs:=c::cs) (k:=a.off) fun j w hj=>by
     have:=h j w hj; unfold CW.cell at this; rw [ho] at this; simp only at this
     split at this
     ·exact Option.some.inj this
     ·cases this
    rw [←this]; simp
   ·cases Lj
  ·cases Lj
inductive DU (W:CW) (el:TypeId) (n:Nat):Value→List Value→Prop where
 | nil:DU W el n (.slice none 0 0) []
 | some {b len:Nat} {cs:List Value} (h:As W b el cs) (hl:cs.length=len*n):DU W el n (.slice (some ⟨b,0,none⟩) len len) cs
structure ADo (v:Value) (W W':CW):Prop where
 sz:W'.sz=W.sz+1
 top:Al W→Al W'
 obj:∀ i,i<W.sz→(∀ b l c,v=.slice (some b) l c→i≠b.block)→W'.obj i=W.obj i
theorem gp {t u el:TypeId} {ts:List TypeId} {n bytes:Nat} {z:Value} (ut:P.underlying t=some (.slice el)) (hu:HF P u=true) (hs:DM P el=some n) (hz:Gm P el=some z) (p_:z.cells.size=n) (hn:0<n) (qA:(P.info? el).map (·.bytes)=some bytes) (hb:bytes≤1024)
  {W:CW} (ht:Al W) {v x:Value} {cs news:List Value} {m:Nat} (hv:DU W el n v cs) (hx:dD x=some m) (hm:0<m) (jS:HE x m n W=some news) (h1:news.all BN=true) (Jz:news.length=m*n) (V7:cs.length+m≤1000000) {K:Value→CW→Prop}
  (hk:∀ W1 len,ADo v W W1→(cs++news).length=len*n→As W1 W.sz el (cs++news)→K (.slice (some ⟨W.sz,0,none⟩) len len) W1):Bw (app P (t::u::ts) v x W) K:=by
 have eT:Nat.ble ((P.info? el).map (·.bytes) |>.getD 2000) 1024=true:=by rw [qA]; exact Nat.ble_eq_true_of_le hb
 unfold app; simp only [hu,cond_true]
 cases hv with
 | nil =>
  have hc:GM P t (.slice none 0 0) x W=some (.slice (some ⟨W.sz,0,none⟩) (0+m) (0+m),W.new (.cells (Tr.nil.Ag 0 news) ((0+m)*n) #[] el)):=by
   unfold GM; simp only [ut,hx,CV,hs,hz,jS,h1,Jz,Nat.beq_refl,p_,eT,Bool.true_and,Bool.and_true]; rw [show Nat.blt 0 n=true from Nat.ble_eq_true_of_le hn,show Nat.ble (0+m) 1000000=true from Nat.ble_eq_true_of_le (by simp only [List.length_nil] at V7; omega)]; simp only [Bool.and_self,cond_true]; rw [show Nat.ble (0+m) 0=false from by cases h:Nat.ble (0+m) 0 with | false=>rfl | true=>have:=Nat.le_of_ble_eq_true h; omega]; simp only [cond_false]
  refine GX hc (hk _ _ ⟨rfl,fun ht=>ht.new _,fun i hi _=>by rw [BK,if_neg (by omega)]⟩ (by rw [List.nil_append,Jz]; congr 1; omega) ⟨_,_,_,by rw [BK,if_pos rfl],by rw [List.nil_append,Jz]; congr 1; omega,fun k w hw=>?_⟩); rw [List.nil_append] at hw; rw [DA _ _ _ (List.getElem?_eq_some_iff.1 hw).1,List.getD_eq_getElem?_getD,hw]; rfl
 | @some b len cs hB hl =>
  obtain ⟨c,k,zz,ho,Lz,BI⟩:=hB; have hlen:len≤cs.length:=by rw [hl]; exact Nat.le_mul_of_pos_right _ hn
  have Jy:BX c zz (len*n) 0=cs:=by
   rw [←hl]; exact GW fun j w hj=>by rw [Nat.zero_add]; exact BI j w hj
  have hc:GM P t (.slice (some ⟨b,0,none⟩) len len) x W=some (.slice (some ⟨W.sz,0,none⟩) (len+m) (len+m),(W.A5 b .dead).new (.cells (Tr.nil.Ag 0 (cs++news)) ((len+m)*n) #[] el)):=by
   unfold GM; simp only [ut,hx,CV,hs,hz,jS,h1,Jz,Nat.beq_refl,p_,eT,Bool.true_and,Bool.and_true]; rw [show Nat.blt 0 n=true from Nat.ble_eq_true_of_le hn,show Nat.ble (len+m) 1000000=true from Nat.ble_eq_true_of_le (by omega)]; simp only [Bool.and_self,cond_true]; rw [show Nat.ble (len+m) len=false from by cases h:Nat.ble (len+m) len with | false=>rfl | true=>have:=Nat.le_of_ble_eq_true h; omega]; simp only [cond_false,Option.isSome_none,ho,Nat.beq_refl,Bool.and_true,Nat.zero_add,Jy]; rw [show Nat.ble (len*n) k=true from Nat.ble_eq_true_of_le (by omega)]; simp only [cond_true]
  refine GX hc (hk _ _ ⟨rfl,fun ht=>Al.new (ht.A5 (ht _ _ ho) (DO.of _ _ _)) _,fun i hi Dm=>by
    have:=Dm ⟨b,0,none⟩ len len rfl
    rw [BK,if_neg (by rw [m_]; omega),Fz,if_neg this]⟩ (by rw [List.length_append,hl,Jz,←Nat.add_mul]) ⟨_,_,_,by rw [BK,if_pos (by rw [m_])],by rw [List.length_append,hl,Jz,←Nat.add_mul],fun k w hw=>?_⟩)
  rw [DA _ _ _ (List.getElem?_eq_some_iff.1 hw).1,List.getD_eq_getElem?_getD,hw]; rfl
end
end Go.Ce
namespace Go.Ce
open Go Go.Proofs Go.Proofs.Tryz
def rF (v:Value) (W:CW):Ending→CW→Prop:=fun e W'=>e=.returned v∧Kp W W'∧Al W'
theorem Uk {P:Program} {L:List FuncId} {f:FuncId} {args:List Value} {W:CW} {K:Value→CW→Prop} {KP:List PanicEntry→CW→Prop} {v:Value} (h:AF P L f args W (rF v W)) (hk:∀ W1,Kp W W1→Al W1→K v W1):AF P L f args W (AT K KP) :=
 h.mono fun e W' ⟨he,h1,h2⟩=>by subst he; exact hk W' h1 h2
def KR (W:CW) (b o:Nat) (x:UInt8):Prop:=W.cell b o=some (.int .u8 x.toNat)
def M9 (x:UInt8):Bool:=decide ((x.toNat:Int)<33) || decide ((x.toNat:Int)>126)
def Ib {α:Type} (l:List α) (p:α→Bool):Int:=match l.findIdx? p with
 | some i=>i
 | none=>-1
theorem KT {α:Type} {l:List α} {p:α→Bool} {i:Nat} (h:i<l.length) (hp:p l[i]=true) (Bj:∀ j x,j<i→l[j]?=some x→p x=false):Ib l p=i:=by
 have:l.findIdx? p=some i:=by
  rw [List.findIdx?_eq_some_iff_getElem]; exact ⟨h,hp,fun j hj=>by rw [Bj j l[j] hj (List.getElem?_eq_getElem _)]; simp⟩
 simp [Ib,this]
theorem KU {α:Type} {l:List α} {p:α→Bool} (Bj:∀ (j:Nat) x,j<l.length→l[j]?=some x→p x=false):Ib l p=-1:=by
 have:l.findIdx? p=none:=by
  rw [List.findIdx?_eq_none_iff]; intro x hx; obtain ⟨j,hj,rfl⟩:=List.mem_iff_getElem.1 hx; exact Bj j l[j] hj (List.getElem?_eq_getElem _)
 simp [Ib,this]
theorem aM {v:Value} {l:List UInt8} {W:CW} (hl:Ax 1 (KR W) v l) (hlen:l.length<1000000):AF prog AV 140 [v,.func (.func 124) #[] #[]] W (Nu (.int .i64 (Ib l M9)) W):=by
 refine wg ?_; rw [we]; obtain ⟨a,cap,rfl,BI⟩:=hl; rw [Ah RD]; simp only [AA]; refine eQ (fun k e ds W'=>W'=W∧ds=[]∧∃ i:Nat,e 0=.slice a l.length cap∧e 1=.func (.func 124) #[] #[]∧e 7=.int .i64 l.length∧e 8=.int .i64 i∧i≤l.length∧k=l.length-i∧∀ j x,j<i→l[j]?=some x→M9 x=false) l.length ⟨rfl,rfl,0,rfl,rfl,rfl,rfl,by omega,by omega,by omega⟩ ?_; rintro k e ds W' ⟨rfl,rfl,i,h0,h1,h7,h8,hi,rfl,Bj⟩; rw [rA,h0,h1,h7,h8]; simp only [AA,A7]
 refine AP (fun h=>?_) (fun h=>?_)
 ·have Au:i<l.length:=by simpa using h
  have hx:=List.getElem?_eq_getElem Au; obtain ⟨p,rfl,hp⟩:=BI i _ hx; rw [A8 RD s5 Au]; simp only [AA,AB a5 (a:=⟨p.block,p.off+i*1,none⟩) hp]; refine GY Tryz.func124 (by kernel_rfl) (D0 (Yb _ _) ?_)
  refine AP (fun hq=>?_) (fun hq=>?_)
  ·simp only [PE,Lm,tKr,Sz,YT,Uc,Ao,↓reduceIte]; refine ⟨?_,rfl⟩; rw [KT Au hq Bj]
  ·simp only [PE,B_,Ao,BC,Nat.reduceEqDiff,↓reduceIte,h0,h1,h7,h8,Az,AA,tKn]
   refine ⟨l.length-(i+1),by omega,trivial,trivial,i+1,trivial,trivial,trivial,?_,Au,rfl,fun j x hj KW=>?_⟩
   ·rw [wrap64 (by omega) (by omega)]; rfl
   ·rcases Nat.lt_succ_iff_lt_or_eq.1 hj with h2 | rfl
    ·exact Bj j x h2 KW
    ·rw [hx] at KW; cases KW; exact hq
 ·have Of:i=l.length:=by have:¬i<l.length:=(by simpa using h); omega
  simp only [tKx,M6,YT,B_,Uc,Ao,↓reduceIte]; refine ⟨?_,rfl⟩; rw [KU fun j x hj hx=>Bj j x (by omega) hx]
theorem Ul {v:Value} {l:List UInt8} {W:CW} (hl:Ax 1 (KR W) v l) (hlen:l.length<1000000):AF prog AV 123 [v,.func (.func 124) #[] #[]] W (Nu (.bool (l.any M9)) W):=by
 refine wc ?_; rw [wa]; refine D0 (aM hl hlen) ?_; simp only [HM,AA,eN,Ao,↓reduceIte]; refine ⟨?_,rfl⟩; congr 2
 cases h:l.any M9 with
 | true =>
  obtain ⟨x,hx,hb⟩:=List.any_eq_true.1 h; unfold Ib
  cases h2:l.findIdx? M9 with
  | none=>rw [List.findIdx?_eq_none_iff] at h2; rw [h2 x hx] at hb; cases hb
  | some i=>simp
 | false =>
  rw [KU fun j x hj hx=>by
   have:=List.any_eq_false.1 h x (List.mem_of_getElem? hx)
   simpa using this]
  rfl
def Fp (s:ByteArray):Bool:=(decide ((1:Int)≤s.size) && decide ((s.size:Int)≤60)) && !(sb s).any M9
theorem AA_ {s:ByteArray} {W:CW} (ht:Al W) {K:Value→CW→Prop} (hk:∀ v W1,Kp W W1→Al W1→Ax 1 (KR W1) v (sb s)→K v W1):Bw (vi prog 9 29 (.string s) W) K:=by
 have hc:vi prog 9 29 (.string s) W=some (.slice (some ⟨W.sz,0,none⟩) s.size s.size,W.new (.cells (Tr.nil.Ag 0 (C0 (sb s))) s.size #[] 5)):=by kernel_rfl
 have Gp:(sb s).length=s.size:=by cases s; exact Array.length_toList
 refine GX hc (hk _ _ (.new _) (ht.new _) ⟨some ⟨W.sz,0,none⟩,s.size,by rw [Gp],fun i x hx=>⟨_,rfl,?_⟩⟩); have Au:=(List.getElem?_eq_some_iff.1 hx).1; unfold KR CW.cell; rw [BK,if_pos rfl]; simp only [Nat.zero_add,Nat.mul_one]; rw [if_pos (by omega),DA _ _ _ (by simp [C0]; exact Au)]; simp [C0,List.getD_eq_getElem?_getD,hx]
theorem MW {s:ByteArray} {W:CW} (ht:Al W) (hlen:s.size<1000000):AF prog AV 101 [.string s] W (rF (.bool (Fp s)) W):=by
 have Gp:(sb s).length=s.size:=by cases s; exact Array.length_toList
 refine wZ ?_; rw [wY,KQ u9]; simp only [AA]; refine D0 (aF _ _ _ _) ?_
 refine AP (fun h=>?_) (fun h=>?_)
 ·refine AA_ ht fun v W1 k1 t1 hv=>?_; refine D0 (Ul hv (by omega)) ?_; simp only [Ai,AA,M4,B_,Ub,Ao,↓reduceIte]; refine ⟨?_,k1,t1⟩; simp only [Fp,h,Bool.true_and]
 ·simp only [M4,B_,Ub,Ao,↓reduceIte]; refine ⟨?_,.refl _,ht⟩; simp only [Fp,h,Bool.false_and]
end Go.Ce
namespace Go.Ce
open Go Go.Proofs Go.Proofs.Tryz
theorem M' (s:ByteArray):(sb s).length=s.size:=by cases s; exact Array.length_toList
end Go.Ce
namespace Go.Ce
section
variable {P:Program}
def CC (A:Nat) (v:Value):Prop:=∀ b l c,v=.slice (some b) l c→A≤b.block
theorem CC.nil (A l c:Nat):CC A (.slice none l c):=fun b l c h=>by cases h
structure LW (v:Value) (W W':CW):Prop where
 sz:W.sz≤W'.sz
 obj:∀ i,i<W.sz→(∀ b l c,v=.slice (some b) l c→i≠b.block)→W'.obj i=W.obj i
theorem LW.kp {v:Value} {A W W':CW} (h:LW v W W') (k:Kp A W) (hv:CC A.sz v):Kp A W' :=
 ⟨by have:=h.sz; have:=k.sz; omega,fun i hi=>by
  rw [h.obj i (by have:=k.sz; omega) (fun b l c e=>by have:=hv b l c e; omega)]
  exact k.obj i hi⟩
theorem nD {t el:TypeId} {ts:List TypeId} {n bytes:Nat} {z x:Value} {xs:List Value} (ut:P.underlying t=some (.slice el)) (hs:DM P el=some n) (hz:Gm P el=some z) (p_:z.cells.size=n) (hn:0<n) (qA:(P.info? el).map (·.bytes)=some bytes) (hb:bytes≤1024)
  (wz:∀ W,V3 P t 1 [(0,x)] W=some (.slice (some ⟨W.sz,0,none⟩) 1 1,W.new (.cells (Tr.nil.Ag 0 xs) xs.length #[] el))) (gS:xs.length=n) (Y':xs.all BN=true)
  {W:CW} (ht:Al W) {v:Value} {cs:List Value} (hv:DU W el n v cs) (V7:cs.length<900000) {K:Value→Value→CW→Prop}
  (hk:∀ u v1 W1,LW v W W1→Al W1→DU W1 el n v1 (cs++xs)→(∀ A,A≤W.sz→CC A v1)→K u v1 W1):Bw (V3 P t 1 [(0,x)] W) fun u W1=>Bw (app P (t::t::ts) v u W1) fun v1 W2=>K u v1 W2:=by
 refine GX (wz W) ?_; have hkp:Kp W (W.new (.cells (Tr.nil.Ag 0 xs) xs.length #[] el)):=.new _
 have hB:As (W.new (.cells (Tr.nil.Ag 0 xs) xs.length #[] el)) W.sz el xs:=⟨_,_,_,by rw [BK,if_pos rfl],rfl,fun k w hw=>by
  rw [DA _ _ _ (List.getElem?_eq_some_iff.1 hw).1,List.getD_eq_getElem?_getD,hw]; rfl⟩
 have Gw:DU (W.new (.cells (Tr.nil.Ag 0 xs) xs.length #[] el)) el n v cs:=by
  cases hv with
  | nil=>exact .nil
  | some h hl=>exact .some (h.ext ht hkp) hl
 have ct:∀ b l c,v=.slice (some b) l c→b.block<W.sz:=by
  intro b l c e
  cases hv with
  | nil=>cases e
  | some h hl=>cases e; exact h.lt ht
 have hu:HF P t=true:=by unfold HF; rw [ut]
 refine gp (x:=.slice (some ⟨W.sz,0,none⟩) 1 1) (m:=1) (news:=xs) ut hu hs hz p_ hn qA hb (ht.new _) Gw rfl (by omega) ?_ Y' (by omega) (by omega) fun W1 len hg hl eU=>?_
 ·show EI (some ⟨W.sz,0,none⟩) (1*n) _=some xs; rw [Nat.one_mul,←gS]; exact M8 hB.cells
 ·refine hk _ _ W1 ⟨by rw [hg.sz,F8]; omega,fun i hi Dm=>?_⟩ (hg.top (ht.new _)) (.some eU hl) (fun A hA b l c e=>by cases e; rw [F8]; show A≤W.sz+1; omega); rw [hg.obj i (by rw [F8]; omega) Dm,BK,if_neg (by omega)]
end
end Go.Ce
namespace Go.Ce
open Go Go.Proofs Go.Proofs.Tryz
theorem Ax.imp {α:Type} {n:Nat} {R S:Nat→Nat→α→Prop} {v:Value} {l:List α} (h:Ax n R v l) (hi:∀ b o x,R b o x→S b o x):Ax n S v l:=by
 obtain ⟨a,cap,h1,h2⟩:=h; exact ⟨a,cap,h1,fun i x hx=>by obtain ⟨p,hp,hr⟩:=h2 i x hx; exact ⟨p,hp,hi _ _ _ hr⟩⟩
theorem RC.kp {W W':CW} {b o:Nat} {x:Uh} (h:RC W b o x) (ht:Al W) (k:Kp W W'):RC W' b o x:=⟨k.cell ht h.name,k.cell ht h.kind,h.lo,h.hi⟩
theorem Lu.kp {W W':CW} {b o:Nat} {x:Ad} (h:Lu W b o x) (ht:Al W) (k:Kp W W'):Lu W' b o x :=
 ⟨k.cell ht h.name,k.cell ht h.By,by obtain ⟨v,h1,h2⟩:=h.fields; exact ⟨v,k.cell ht h1,h2.imp fun _ _ _ hr=>hr.kp ht k⟩,k.cell ht h.elem,by obtain ⟨a,l,n,h1⟩:=h.binds; exact ⟨a,l,n,k.cell ht h1⟩,h.lo,h.hi⟩
def EP:ByteArray:=⟨#[]⟩
def V8 (c:List Ad) (i:Nat):Option Nat:=match c[i]? with
 | some x=>match c.findIdx? (fun y=>decide (y.name=x.By)) with
  | some j=>match c[j]? with
   | some y=>if y.elem=0 then some j else none
   | none=>none
  | none=>none
 | none=>none
def Bu (c:List Ad):Nat→Nat→Option (List Nat)
 | f,i=>match c[i]? with
  | none=>none
  | some x=>if x.By=EP then some [i] else match f with
   | 0=>none
   | f+1=>match V8 c i with
    | some j=>(Bu c f j).map (i::·)
    | none=>none
termination_by f=>f
theorem z3:Gm prog 3=some (.int .i64 0):=by kernel_rfl
theorem by3:(prog.info? 3).map (·.bytes)=some 8:=by kernel_rfl
theorem nE (n:Int) (W:CW):V3 prog 40 1 [(0,.int .i64 n)] W=some (.slice (some ⟨W.sz,0,none⟩) 1 1,W.new (.cells (Tr.nil.Ag 0 [.int .i64 n]) [Value.int .i64 n].length #[] 3)):=by kernel_rfl
theorem PI {P:Program} {t el el':TypeId} (u:P.underlying t=some (.slice el')) {W W':CW} {v:Value} {cs:List Value} (h:DU W el 1 v cs):Aj P t v W'=some (.int .i64 cs.length):=by
 cases h with
 | nil=>rw [Ah u]; rfl
 | some hB hl=>rw [Ah u,hl,Nat.mul_one]
theorem M_ {c:List Ad} {f i:Nat} {x:Ad} (hx:c[i]?=some x) (hs:x.By=EP):Bu c f i=some [i]:=by
 unfold Bu; rw [hx]; simp only [hs,if_true]
theorem eV {c:List Ad} {i:Nat} {x:Ad} (hx:c[i]?=some x) (hs:x.By≠EP):Bu c 0 i=none:=by
 unfold Bu; rw [hx]; simp only [hs,if_false]
theorem ON {c:List Ad} {f i:Nat} {x:Ad} (hx:c[i]?=some x) (hs:x.By≠EP):Bu c (f+1) i=match V8 c i with
  | some j=>(Bu c f j).map (i::·)
  | none=>none:=by
 rw [Bu,hx]; simp only [hs,if_false]
end Go.Ce
namespace Go.Ce
section
variable {α:Type} {W:CW} {b n:Nat} {enc:α→List Value}
theorem Um (hn:∀ x,(enc x).length=n):∀ (l:List α) (o:Nat),Cells W b o (l.flatMap enc)→∀ i x,l[i]?=some x→Cells W b (o+i*n) (enc x)
 | [],o,_=>fun i x h=>by cases h
 | y::l,o,h=>by
  intro i x hx; rw [List.flatMap_cons] at h
  cases i with
  | zero =>
   cases hx
   intro j v hj; rw [Nat.zero_mul,Nat.add_zero]; exact h j v (by rw [List.getElem?_append_left (List.getElem?_eq_some_iff.1 hj).1]; exact hj)
  | succ i =>
   have:=Um hn l (o+n) (fun j v hj=>by
    have:=h (n+j) v (by rw [List.getElem?_append_right (by rw [hn]; omega),hn,Nat.add_sub_cancel_left]; exact hj)
    rwa [show o+(n+j)=o+n+j by omega] at this) i x (by simpa using hx)
   rwa [show o+n+i*n=o+(i+1)*n by rw [Nat.succ_mul]; omega] at this
end
section
variable {P:Program}
end
end Go.Ce
namespace Go.Ce
open Go Go.Proofs Go.Proofs.Tryz
theorem DU.kp {W W':CW} {el:TypeId} {n:Nat} {v:Value} {cs:List Value} (h:DU W el n v cs) (ht:Al W) (k:Kp W W'):DU W' el n v cs:=by
 cases h with
 | nil=>exact DU.nil
 | some hB hl=>exact DU.some (hB.ext ht k) hl
theorem LX (c:List Ad):∀ (f i:Nat) (l:List Nat),Bu c f i=some l→l.length≤f+1∧∀ j,j ∈ l→j<c.length
 | f,i,l,h=>by
  unfold Bu at h
  cases hx:c[i]? with
  | none=>rw [hx] at h; cases h
  | some x =>
   rw [hx] at h; have hi:i<c.length:=(List.getElem?_eq_some_iff.1 hx).1; simp only at h
   split at h
   ·cases h
    exact ⟨by simp,fun j hj=>by rw [List.mem_singleton.1 hj]; exact hi⟩
   ·cases f with
    | zero=>cases h
    | succ f =>
     simp only at h
     split at h
     ·rename_i j hj
      cases hl:Bu c f j with
      | none=>rw [hl] at h; cases h
      | some m =>
       rw [hl] at h
       cases h
       obtain ⟨h1,h2⟩:=LX c f j m hl
       exact ⟨by simp only [List.length_cons]; omega,fun j hj=>by
        rcases List.mem_cons.1 hj with rfl | hj
        ·exact hi
        ·exact h2 j hj⟩
     ·cases h
termination_by f=>f
def KX (c:List Ad) (j:Nat):List Uh:=match c[j]? with
 | some x=>x.fields
 | none=>[]
def FM (c:List Ad) (i:Nat):List Uh:=match Bu c c.length i with
 | some l=>l.reverse.flatMap (KX c)
 | none=>[]
def jT (f:Uh):List Value:=[.string f.name,.int .u8 f.kind]
theorem aN (f:Uh):(jT f).length=2:=rfl
theorem z72:Gm prog 72=some (.agg #[.string ⟨#[]⟩,.int .u8 0]):=by kernel_rfl
theorem RC.cells {W:CW} {b o:Nat} {x:Uh} (h:RC W b o x):Cells W b o (jT x):=by
 intro j v hj
 match j,hj with
 | 0,hj=>cases hj; exact h.name
 | 1,hj=>cases hj; exact h.kind
theorem nF {c:List Ad} {m:Nat} (hf:∀ x,x ∈ c→x.fields.length≤m) (j:Nat):(KX c j).length≤m:=by
 unfold KX
 cases hx:c[j]? with
 | none=>simp
 | some x=>exact hf x (List.mem_of_getElem? hx)
theorem aO {c:List Ad} {m:Nat} (hf:∀ x,x ∈ c→x.fields.length≤m):∀ l:List Nat,((l.flatMap (KX c)).flatMap jT).length≤l.length*(2*m)
 | []=>by simp
 | j::l=>by
  rw [List.flatMap_cons,List.flatMap_append,List.length_append,List.length_cons,Nat.succ_mul]; have h1:=aO hf l
  have h2:((KX c j).flatMap jT).length≤2*m:=by
   have h3:=nF hf j
   have:∀ fs:List Uh,(fs.flatMap jT).length=2*fs.length:=by
    intro fs
    induction fs with
    | nil=>rfl
    | cons f fs ih=>rw [List.flatMap_cons,List.length_append,ih,List.length_cons,aN]; omega
   rw [this]; omega
  omega
end Go.Ce
namespace Go.Ce
open Go Go.Proofs Go.Proofs.Tryz
def Ak (c:List Ad) (i:Nat):List Int:=(FM c i).map (·.kind)
def BB (l:List Int):List Value:=l.map fun k=>Value.int .u8 k
theorem z5:Gm prog 5=some (.int .u8 0):=by kernel_rfl
theorem by5:(prog.info? 5).map (·.bytes)=some 1:=by kernel_rfl
theorem tZ (n:Int) (W:CW):V3 prog 29 1 [(0,.int .u8 n)] W=some (.slice (some ⟨W.sz,0,none⟩) 1 1,W.new (.cells (Tr.nil.Ag 0 [.int .u8 n]) [Value.int .u8 n].length #[] 5)):=by kernel_rfl
theorem V9 (fs:List Uh):(fs.flatMap jT).length=2*fs.length:=by
 induction fs with
 | nil=>rfl
 | cons f fs ih=>rw [List.flatMap_cons,List.length_append,ih,List.length_cons,aN]; omega
theorem MX {c:List Ad} (hlen:c.length<200) (hf:∀ x,x ∈ c→x.fields.length≤100) (i:Nat):(FM c i).length≤20100:=by
 unfold FM
 cases hl:Bu c c.length i with
 | none=>simp
 | some l =>
  have h1:=(LX c _ _ _ hl).1; have h2:=aO hf l.reverse; rw [V9] at h2; have:l.reverse.length*(2*100)≤200*200:=Nat.mul_le_mul (by simp; omega) (by omega); show (l.reverse.flatMap (KX c)).length≤20100; omega
end Go.Ce
namespace Go.Ce
open Go Go.Proofs Go.Proofs.Tryz
def A6 (c:List Ad) (i k:Nat):Int:=match c[i]? with
 | some x=>if x.elem≠0 then x.elem else ((Ak c i)[k]?).getD 0
 | none=>0
def ABA (W:CW) (b o:Nat) (x:ByteArray):Prop:=W.cell b o=some (.string x)
end Go.Ce
namespace Go.Ce
open Go Go.Proofs Go.Proofs.Tryz
def B0 (n:Nat):List Int:=if n<128 then [(n:Int)] else ((n % 128+128:Nat):Int)::B0 (n / 128)
termination_by n
decreasing_by omega
theorem rG:HF prog 29=true:=by kernel_rfl
theorem tc (n:Int):tS prog 3 5 (.int .i64 n)=some (.int .u8 (IntKind.u8.wrap n)):=by kernel_rfl
theorem td {x:Int} (h1:0≤x) (h2:x<256):IntKind.u8.wrap x=x:=by
 unfold IntKind.wrap; simp [IntKind.bits,IntKind.signed]; omega
end Go.Ce
namespace Go.Ce
open Go Go.Proofs Go.Proofs.Tryz
def Hj (s:ByteArray):List Int:=(sb s).map fun b=>(b.toNat:Int)
def GZ (s:ByteArray):List Int:=B0 s.size++Hj s
end Go.Ce
namespace Go.Ce
open Go Go.Proofs Go.Proofs.Tryz
end Go.Ce
namespace Go.Ce
section
variable {α:Type} {W:CW} {el n:Nat} {v:Value}
theorem Un {enc:α→List Value} (hn:∀ x,(enc x).length=n) (l:List α):(l.flatMap enc).length=l.length*n:=by
 induction l with
 | nil=>simp
 | cons x l ih=>rw [List.flatMap_cons,List.length_append,ih,hn,List.length_cons,Nat.succ_mul,Nat.add_comm]
theorem ABB {enc:α→List Value} (hn:∀ x,(enc x).length=n) (h0:0<n) {l:List α} (h:DU W el n v (l.flatMap enc)):Ax n (fun b o x=>Cells W b o (enc x)) v l:=by
 generalize hc:l.flatMap enc=cs at h; have hl:=Un hn l; rw [hc] at hl
 cases h with
 | nil =>
  have:l.length=0:=by
   rcases Nat.eq_zero_or_pos l.length with h | h
   ·exact h
   ·have:=Nat.mul_pos h h0; rw [←hl] at this; simp at this
  exact ⟨none,0,by rw [this],fun i x hx=>by have:=(List.getElem?_eq_some_iff.1 hx).1; omega⟩
 | @some b len _ hB jU =>
  have:len=l.length:=Nat.eq_of_mul_eq_mul_right h0 (by rw [←jU,hl]); refine ⟨some ⟨b,0,none⟩,len,by rw [this],fun i x hx=>⟨_,rfl,?_⟩⟩; have h1:=hB.cells; rw [←hc] at h1; exact Um hn l 0 h1 i x hx
theorem nG (f:α→Value) (l:List α):l.map f=l.flatMap fun x=>[f x]:=by
 induction l with
 | nil=>rfl
 | cons x l ih=>rw [List.map_cons,List.flatMap_cons,ih]; rfl
theorem Hk {f:α→Value} {l:List α} (h:DU W el 1 v (l.map f)):Ax 1 (fun b o x=>W.cell b o=some (f x)) v l:=by
 rw [nG] at h; obtain ⟨a,cap,h1,h2⟩:=ABB (n:=1) (fun _=>rfl) (by omega) h; refine ⟨a,cap,h1,fun i x hx=>?_⟩; obtain ⟨p,hp,hr⟩:=h2 i x hx; exact ⟨p,hp,by have:=hr 0 (f x) rfl; rwa [Nat.add_zero] at this⟩
end
theorem Hl {P:Program} {t el':TypeId} (u:P.underlying t=some (.slice el')) {W W':CW} {el n:Nat} {v:Value} {cs:List Value} (h:DU W el n v cs) (hn:0<n) {m:Nat} (hm:cs.length=m*n):Aj P t v W'=some (.int .i64 m):=by
 cases h with
 | nil =>
  have:m=0:=by
   rcases Nat.eq_zero_or_pos m with h | h
   ·exact h
   ·have:=Nat.mul_pos h hn; rw [←hm] at this; simp at this
  rw [Ah u,this]
 | @some b len _ hB hl =>
  have:len=m:=Nat.eq_of_mul_eq_mul_right hn (by rw [←hl,hm]); rw [Ah u,this]
def DJ (ts:List Nat) (e e':Env):Prop:=∀ t,t ∈ ts→e' t=e t
theorem DJ.refl (ts:List Nat) (e:Env):DJ ts e e:=fun _ _=>rfl
theorem DJ.trans {ts:List Nat} {a b c:Env} (h:DJ ts a b) (k:DJ ts b c):DJ ts a c:=fun t ht=>(k t ht).trans (h t ht)
theorem DJ.put {ts:List Nat} {e:Env} {l:List (Nat × Value)} (h:(ts.all fun t=>l.all fun p=>!Nat.beq t p.1)=true):DJ ts e (Env.of e l):=by
 intro t ht; have h1:=List.all_eq_true.1 h t ht; clear h ht
 induction l with
 | nil=>rfl
 | cons p l ih =>
  simp only [List.all_cons,Bool.and_eq_true,Bool.not_eq_true'] at h1; simp only [Env.of,h1.1,cond_false]; exact ih h1.2
def KY (J:Nat→Env→List Deferred→CW→Prop) (i n:Nat) (K:AG):AG:=fun x e ds W=>match x with
 | .normal=>i<n∧J (i+1) e ds W
 | x=>K x e ds W
section
variable (J:Nat→Env→List Deferred→CW→Prop) (i n:Nat) (K:AG) (e:Env) (ds:List Deferred) (W:CW)
theorem HB:KY J i n K .normal e ds W=(i<n∧J (i+1) e ds W):=rfl
theorem Vb:KY J i n K .ret e ds W=K .ret e ds W:=rfl
theorem PJ (j:Nat):KY J i n K (.exit j) e ds W=K (.exit j) e ds W:=rfl
theorem qB (ch:List PanicEntry):KY J i n K (.panic ch) e ds W=K (.panic ch) e ds W:=rfl
end
theorem D8 {P:Program} {L:List FuncId} {ro:Option Nat} {fn:FuncId} {nt:Nat} {b:Code} {K:AG} (J:Nat→Env→List Deferred→CW→Prop) (n:Nat) {e:Env} {ds:List Deferred} {W:CW} (h0:J 0 e ds W)
  (Lk:∀ i e ds W,i≤n→J i e ds W→AK P L ro fn nt b e ds W (KY J i n K)):C6 P L ro fn nt (.loop b) e ds W K:=by
 suffices key:∀ k i e ds W,n-i=k→i≤n→J i e ds W→C6 P L ro fn nt (.loop b) e ds W K from key n 0 e ds W rfl (Nat.zero_le _) h0
 intro k
 induction k using Nat.strongRecOn with
 | ind k ih =>
  intro i e ds W hk Mx hi a ha hn; obtain ⟨m,⟨x1,a1,W1⟩,h1,e1,h2,h3,h4⟩:=E8 (Lk i e ds W Mx hi) a ha hn
  cases x1 with
  | normal =>
   obtain ⟨h5,h6⟩:=h4; obtain ⟨m',o,h7,h8⟩:=ih (n-(i+1)) (by omega) (i+1) e1 a1.defers W1 rfl h5 h6 a1 h2 h3; refine ⟨max m m'+1,o,?_,h8⟩; show HH ((C2 P L (max m m')).code ro fn b a W) ((C2 P L (max m m')).code ro fn (.loop b))=some [o]; rw [Fw (Nat.le_max_left m m') h1]; exact EO (Fw (Nat.le_max_right m m') h7)
  | _ =>
   refine ⟨m+1,_,?_,e1,h2,h3,h4⟩; show HH ((C2 P L m).code ro fn b a W) ((C2 P L m).code ro fn (.loop b))=_; rw [h1]; exact EO rfl
theorem KZ {bad:Nat→Bool} {i:Nat} (h:∀ m,m<i→bad m=false) (hi:bad i=false):∀ m,m<i+1→bad m=false:=fun m hm=>by
 rcases Nat.lt_succ_iff_lt_or_eq.1 hm with h2 | rfl
 ·exact h m h2
 ·exact hi
theorem Du {i:Nat} (h:i<1000000000000):IntKind.i64.wrap ((i:Int)+1)=((i+1:Nat):Int):=by rw [wrap64 (by omega) (by omega)]; rfl
theorem G6 {i n:Nat} {X Y:Prop} (h1:i<n→X) (h2:n≤i→Y):wI (.bool (decide ((i:Int)<(n:Int)))) X Y :=
 AP (fun h=>h1 (by have:=of_decide_eq_true h; omega)) (fun h=>h2 (by have:=of_decide_eq_false h; omega))
theorem RE {vs ws:List Value} (h:ws.length=vs.length):putAt vs 0 ws=ws:=by
 unfold putAt; rw [List.take_zero,List.nil_append,List.drop_eq_nil_of_le (by omega),List.append_nil]
section
variable {P:Program}
theorem CZ {t:TypeId} {m:Nat} {z:Value} (hz:Gm P t=some z) (hs:DM P t=some m) (mC:z.cells.size=m) {ws:List Value} (h1:ws.all BN=true) (hm:ws.length=m) {W:CW} {K:Value→CW→Prop} (ht:Al W)
  (hk:∀ W2,Kp W W2→Al W2→W2.sz=W.sz+1→As W2 W.sz t ws→K (.pointer (some ⟨W.sz,0,none⟩)) W2):Bw (F5 P t W) fun v W1=>wV (CE P t v (.agg ws.toArray) W1) fun W2=>K v W2:=by
 refine Gx hz hs ht fun W1 k1 t1 z1 hB=>?_; refine DF hs (a:=⟨W.sz,0,none⟩) h1 hm hB (by simp [mC]) fun W2 hu GK=>?_; rw [RE (by simp [mC,hm])] at GK; exact hk W2 (k1.A5 (Nat.le_refl _) hu) (t1.A5 (by rw [z1]; exact Nat.lt_succ_self _) hu) (by rw [hu.sz,z1]) GK
end
section
variable {P:Program}
theorem NA {t el:TypeId} {ts:List TypeId} {n bytes:Nat} {z x:Value} {xs:List Value} (ut:P.underlying t=some (.slice el)) (hs:DM P el=some n) (hz:Gm P el=some z) (p_:z.cells.size=n) (hn:0<n) (qA:(P.info? el).map (·.bytes)=some bytes) (hb:bytes≤1024)
  (wz:∀ W,V3 P t 1 [(0,x)] W=some (.slice (some ⟨W.sz,0,none⟩) 1 1,W.new (.cells (Tr.nil.Ag 0 xs) xs.length #[] el))) (gS:xs.length=n) (Y':xs.all BN=true)
  {W:CW} (ht:Al W) {v:Value} {cs:List Value} (hv:DU W el n v cs) (V7:cs.length<900000) {K:Value→CW→Value→CW→Prop}
  (hk:∀ u Wa v1 W1,Kp W Wa→Al Wa→LW v W W1→Al W1→DU W1 el n v1 (cs++xs)→(∀ A,A≤W.sz→CC A v1)→K u Wa v1 W1):Bw (V3 P t 1 [(0,x)] W) fun u W1=>Bw (app P (t::t::ts) v u W1) fun v1 W2=>K u W1 v1 W2:=by
 refine GX (wz W) ?_; have hkp:Kp W (W.new (.cells (Tr.nil.Ag 0 xs) xs.length #[] el)):=.new _
 have hB:As (W.new (.cells (Tr.nil.Ag 0 xs) xs.length #[] el)) W.sz el xs:=⟨_,_,_,by rw [BK,if_pos rfl],rfl,fun k w hw=>by
  rw [DA _ _ _ (List.getElem?_eq_some_iff.1 hw).1,List.getD_eq_getElem?_getD,hw]; rfl⟩
 have Gw:DU (W.new (.cells (Tr.nil.Ag 0 xs) xs.length #[] el)) el n v cs:=by
  cases hv with
  | nil=>exact .nil
  | some h hl=>exact .some (h.ext ht hkp) hl
 have ct:∀ b l c,v=.slice (some b) l c→b.block<W.sz:=by
  intro b l c e
  cases hv with
  | nil=>cases e
  | some h hl=>cases e; exact h.lt ht
 have hu:HF P t=true:=by unfold HF; rw [ut]
 refine gp (x:=.slice (some ⟨W.sz,0,none⟩) 1 1) (m:=1) (news:=xs) ut hu hs hz p_ hn qA hb (ht.new _) Gw rfl (by omega) ?_ Y' (by omega) (by omega) fun W1 len hg hl eU=>?_
 ·show EI (some ⟨W.sz,0,none⟩) (1*n) _=some xs; rw [Nat.one_mul,←gS]; exact M8 hB.cells
 ·refine hk _ _ _ W1 hkp (ht.new _) ⟨by rw [hg.sz,F8]; omega,fun i hi Dm=>?_⟩ (hg.top (ht.new _)) (.some eU hl) (fun A hA b l c e=>by cases e; rw [F8]; show A≤W.sz+1; omega); rw [hg.obj i (by rw [F8]; omega) Dm,BK,if_neg (by omega)]
end
theorem LY {W W':CW} {el n i:Nat} {v:Value} {cs:List Value} (h:DU W el n v cs) (hu:DO i W W') (hi:∀ b l c,v=.slice (some b) l c→b.block≠i):DU W' el n v cs:=by
 cases h with
 | nil=>exact DU.nil
 | some hB hl=>exact DU.some (hB.congr (hu.obj _ (hi _ _ _ rfl))) hl
theorem OO {W:CW} {el n:Nat} {v:Value} {cs:List Value} (h:DU W el n v cs):BN v=true:=by cases h <;> rfl
theorem Wy {W:CW} {el el' n i:Nat} {v:Value} {cs ws:List Value} (h:DU W el n v cs) (hB:As W i el' ws) (he:el≠el'):∀ b l c,v=.slice (some b) l c→b.block≠i:=by
 intro b l c hv hb
 cases h with
 | nil=>cases hv
 | some h1 hl =>
  cases hv
  simp only at hb; subst hb; obtain ⟨c1,n1,z1,h2,_⟩:=h1; obtain ⟨c2,n2,z2,h3,_⟩:=hB; rw [h2] at h3
  cases h3
  exact he rfl
theorem LW.HR {v:Value} {W W':CW} (h:LW v W W') (ht:Al W) {i:Nat} {el:TypeId} {ws:List Value} (hB:As W i el ws) (hi:∀ b l c,v=.slice (some b) l c→b.block≠i):As W' i el ws :=
 hB.congr (h.obj i (hB.lt ht) fun b l c e=>(hi b l c e).symm)
theorem LZ {P:Program} {fn:Func} {Q:Ending→CW→Prop} {e:Env} {W:CW} {s:Tmp} {ty:TypeId} {p:Addr} {v:Value} (hr:fn.results.toList=[.cell s ty]) (he:e s=.pointer (some p)) (hv:ld P ty (.pointer (some p)) W=some v) (hq:Q (.returned v) W):AI P fn Q .ret e [] W:=by
 have hv:JB P ty p W=some v:=hv; simp only [AI,CB,hr,IQ,jG,he,hv]; exact hq
structure Bq (S:Nat→Prop) (W W':CW):Prop where
 sz:W.sz≤W'.sz
 obj:∀ i,i<W.sz→¬S i→W'.obj i=W.obj i
theorem Bq.refl (S:Nat→Prop) (W:CW):Bq S W W:=⟨Nat.le_refl _,fun _ _ _=>rfl⟩
theorem Bq.Gc {S:Nat→Prop} {W W':CW} (h:Kp W W'):Bq S W W':=⟨h.sz,fun i hi _=>h.obj i hi⟩
theorem Bq.then {S T:Nat→Prop} {A B C:CW} (h:Bq S A B) (k:Bq T B C) (hT:∀ i,i<A.sz→T i→S i):Bq S A C :=
 ⟨Nat.le_trans h.sz k.sz,fun i hi hs=>(k.obj i (Nat.lt_of_lt_of_le hi h.sz) fun ht=>hs (hT i hi ht)).trans (h.obj i hi hs)⟩
theorem Bq.kp {S:Nat→Prop} {A B C:CW} (h:Kp A B) (k:Bq S B C) (hS:∀ i,S i→A.sz≤i):Kp A C :=
 ⟨Nat.le_trans h.sz k.sz,fun i hi=>(k.obj i (Nat.lt_of_lt_of_le hi h.sz) fun hs=>by have:=hS i hs; omega).trans (h.obj i hi)⟩
theorem Bq.cell {S:Nat→Prop} {W W':CW} (h:Bq S W W') (ht:Al W) {b k:Nat} (hb:¬S b) {v:Value} (hc:W.cell b k=some v):W'.cell b k=some v:=by
 rw [LP (h.obj b (YV ht hc) hb)]; exact hc
theorem Bq.HR {S:Nat→Prop} {W W':CW} (h:Bq S W W') (ht:Al W) {b:Nat} (hb:¬S b) {el:TypeId} {ws:List Value} (hB:As W b el ws):As W' b el ws :=
 hB.congr (h.obj b (hB.lt ht) hb)
def BV (v:Value) (i:Nat):Prop:=∃ b l c,v=.slice (some b) l c∧b.block=i
theorem LW.EG {v:Value} {W W':CW} (h:LW v W W'):Bq (BV v) W W':=⟨h.sz,fun i hi hs=>h.obj i hi fun b l c e hb=>hs ⟨b,l,c,e,hb.symm⟩⟩
theorem DO.EG {i:Nat} {W W':CW} (h:DO i W W'):Bq (·=i) W W':=⟨by rw [h.sz]; exact Nat.le_refl _,fun j _ hj=>h.obj j hj⟩
theorem Bq.own {S:Nat→Prop} {W W':CW} (h:Bq S W W') (ht:Al W) {el n:Nat} {v:Value} {cs:List Value} (ho:DU W el n v cs) (hv:∀ i,BV v i→¬S i):DU W' el n v cs:=by
 cases ho with
 | nil=>exact DU.nil
 | some hB hl=>exact DU.some (h.HR ht (hv _ ⟨_,_,_,rfl,rfl⟩) hB) hl
theorem CC.in {A:Nat} {v:Value} (h:CC A v) {i:Nat} (hi:BV v i):A≤i:=by
 obtain ⟨b,l,c,e,rfl⟩:=hi; exact h b l c e
theorem Nw {W:CW} (ht:Al W) {el n:Nat} {v:Value} {cs:List Value} (h:DU W el n v cs) {i:Nat} (hi:BV v i):i<W.sz:=by
 obtain ⟨b,l,c,e,rfl⟩:=hi
 cases h with
 | nil=>cases e
 | some hB hl=>cases e; exact hB.lt ht
section
variable {P:Program}
theorem te {t el:TypeId} {z:Value} {bytes:Nat} (ut:P.underlying t=some (.slice el)) (hs:DM P el=some 1) (hz:Gm P el=some z) (hzc:z.cells=#[z]) (qA:(P.info? el).map (·.bytes)=some bytes) (hb:bytes≤1024) {n:Nat} (hn:n≤2000000) {k1 k2:IntKind} {W:CW} (ht:Al W) {K:Value→CW→Prop}
  (hk:∀ W1,Kp W W1→Al W1→W1.sz=W.sz+1→As W1 W.sz el (List.replicate n z)→K (.slice (some ⟨W.sz,0,none⟩) n n) W1):Bw (mks P t (.int k1 n) (.int k2 n) W) K:=by
 have hc:mks P t (.int k1 n) (.int k2 n) W=some (.slice (some ⟨W.sz,0,none⟩) n n,W.new (.cells .nil (n*1) z.cells el)):=by
  unfold mks; simp only [ut,hs,hz,CV,qA,Option.getD_some,hzc]; rw [show Nat.ble bytes 1024=true from Nat.ble_eq_true_of_le hb]; simp only [cond_eq_ite]; rw [if_pos (by simp; omega)]; simp
 refine GX hc (hk _ (.new _) (ht.new _) rfl ⟨.nil,_,_,by rw [BK,if_pos rfl],by simp,fun k v hv=>?_⟩); have h1:v=z:=List.eq_of_mem_replicate (List.mem_of_getElem? hv); subst h1; unfold cellAt; simp only [Tr.get_nil,hzc]; simp [Nat.mod_one]
end
section
variable {P:Program}
theorem rH {t u el:TypeId} {ts:List TypeId} {n bytes:Nat} {z:Value} (ut:P.underlying t=some (.slice el)) (hu:HF P u=true) (hs:DM P el=some n) (hz:Gm P el=some z) (p_:z.cells.size=n) (hn:0<n) (qA:(P.info? el).map (·.bytes)=some bytes) (hb:bytes≤1024)
  {W:CW} (ht:Al W) {v:Value} {cs news:List Value} {a:Option Addr} {m cap:Nat} (hv:DU W el n v cs) (jS:0<m→∃ p,a=some p∧Cells W p.block p.off news) (h1:news.all BN=true) (Jz:news.length=m*n) (V7:cs.length+m≤1000000) {K:Value→CW→Prop}
  (hk:∀ v1 W1,LW v W W1→Al W1→DU W1 el n v1 (cs++news)→(∀ j,BV v1 j→BV v j∨W.sz≤j)→K v1 W1):Bw (app P (t::u::ts) v (.slice a m cap) W) K:=by
 rcases Nat.eq_zero_or_pos m with rfl | hm
 ·have KA:news=[]:=List.length_eq_zero_iff.1 (by rw [Jz,Nat.zero_mul]); subst KA; have eT:Nat.ble ((P.info? el).map (·.bytes) |>.getD 2000) 1024=true:=by rw [qA]; exact Nat.ble_eq_true_of_le hb
  have qY:HE (.slice a 0 cap) 0 n W=some []:=by
   show EI a (0*n) W=some []; rw [Nat.zero_mul]; unfold EI
   cases a <;> rfl
  have hc:app P (t::u::ts) v (.slice a 0 cap) W=some (v,W):=by
   unfold app; simp only [hu,cond_true]
   cases hv with
   | nil =>
    unfold GM; simp only [ut,dD,CV,hs,hz,qY,List.all_nil,List.length_nil,Nat.zero_mul,Nat.beq_refl,p_,eT,Bool.true_and,Bool.and_true]; rw [show Nat.blt 0 n=true from Nat.ble_eq_true_of_le hn]; rfl
   | @some b len cs hB hl =>
    have hlen:len≤cs.length:=by rw [hl]; exact Nat.le_mul_of_pos_right _ hn
    unfold GM; simp only [ut,dD,CV,hs,hz,qY,List.all_nil,List.length_nil,Nat.zero_mul,Nat.beq_refl,p_,eT,Bool.true_and,Bool.and_true,Nat.add_zero]; rw [show Nat.blt 0 n=true from Nat.ble_eq_true_of_le hn,show Nat.ble len 1000000=true from Nat.ble_eq_true_of_le (by omega),show Nat.ble len len=true from Nat.ble_eq_true_of_le (Nat.le_refl _)]; rfl
  refine GX hc (hk v W ⟨Nat.le_refl _,fun _ _ _=>rfl⟩ ht (by rw [List.append_nil]; exact hv) (fun j h=>.inl h))
 ·obtain ⟨p,rfl,Lj⟩:=jS hm
  refine gp (m:=m) ut hu hs hz p_ hn qA hb ht hv rfl hm ?_ h1 Jz V7 fun W1 len hg hl hB=>?_
  ·show EI (some p) (m*n) W=some news; rw [←Jz]; exact M8 Lj
  ·exact hk _ W1 ⟨by rw [hg.sz]; omega,hg.obj⟩ (hg.top ht) (.some hB hl) (fun j h=>.inr (by obtain ⟨b,l,c,e,rfl⟩:=h; cases e; exact Nat.le_refl _))
end
end Go.Ce
namespace Go.Ce
open Go Go.Proofs Go.Proofs.Tryz
def Dq (n:Nat) (p:Nat→Bool):Bool:=(List.range n).any p
theorem Dt {n j:Nat} {p:Nat→Bool} (hj:j<n) (h:p j=true):Dq n p=true:=List.any_eq_true.2 ⟨j,List.mem_range.2 hj,h⟩
theorem FA {n:Nat} {p:Nat→Bool} (h:∀ j,j<n→p j=false):Dq n p=false:=by
 unfold Dq; rw [List.any_eq_false]; intro j hj; rw [h j (List.mem_range.1 hj)]; simp
theorem Dh {n:Nat} {p:Nat→Bool} (h:Dq n p=false) {j:Nat} (hj:j<n):p j=false:=by
 cases hp:p j with
 | false=>rfl
 | true=>rw [Dt hj hp] at h; cases h
def Hs (k:Int):Bool:=k == 1 || k == 2
def Gd (kind n:Int) (size:Nat):Bool:=!((kind == 1 && (decide (n < -1000000000) || decide (n>1000000000))) || (kind == 2 && (decide (n<0) || decide (n>size))))
def A_ (c:List Ad) (s:ByteArray):Option Nat:=c.findIdx? fun x=>decide (x.name=s)
def Eh (c:List Ad) (i:Nat) (x:Ad) (many:Nat):Bool:=if x.elem≠0 then decide (many≤200) else decide (many=(Ak c i).length)
def BF (c:List Ad) (x:BM) (size:Nat):Bool:=match A_ c x.type with
 | none=>false
 | some i=>match c[i]? with
  | none=>false
  | some s=>Eh c i s x.AH.length && !Dq x.AH.length fun k=>match x.AH[k]? with
   | some n=>!Gd (A6 c i k) n size
   | none=>false
def ER (c:List Ad) (h:List BM):Int:=if 1000<h.length then 1000 else Ib h fun x=>!BF c x h.length
theorem De.kp {W W':CW} {b o:Nat} {x:Int} (h:De W b o x) (ht:Al W) (k:Kp W W'):De W' b o x:=⟨k.cell ht h.1,h.2⟩
theorem IZ.kp {W W':CW} {b o:Nat} {x:BM} (h:IZ W b o x) (ht:Al W) (k:Kp W W'):IZ W' b o x :=
 ⟨k.cell ht h.type,by obtain ⟨v,h1,h2⟩:=h.AH; exact ⟨v,k.cell ht h1,h2.imp fun _ _ _ hr=>hr.kp ht k⟩⟩
theorem OM.kp {W W':CW} {b o:Nat} {x:Bc} (h:OM W b o x) (ht:Al W) (k:Kp W W'):OM W' b o x :=
 ⟨k.cell ht h.type,k.cell ht h.to,by obtain ⟨v,h1,h2,h3⟩:=h.map; exact ⟨v,k.cell ht h1,h2.imp fun _ _ _ hr=>hr.kp ht k,h3.kp ht k⟩⟩
def ADp (W:CW) (u:Value) (x:BM):Prop:=∃ v,u=.agg #[.string x.type,v]∧Ax 1 (De W) v x.AH
theorem IZ.ld {W:CW} {b o:Nat} {x:BM} (h:IZ W b o x):∃ u,ld prog 56 (.pointer (some ⟨b,o,none⟩)) W=some u∧ADp W u x:=by
 obtain ⟨v,h1,h2⟩:=h.AH; refine ⟨_,BO (vs:=[.string x.type,v]) YX Ia rfl (by omega) ?_,v,rfl,h2⟩; intro j w hj
 match j,hj with
 | 0,hj=>cases hj; exact h.type
 | 1,hj=>cases hj; exact h1
theorem D2 {c:List Ad} {s:ByteArray} {i:Nat} (h:A_ c s=some i):i<c.length:=(List.findIdx?_eq_some_iff_getElem.1 h).1
end Go.Ce
namespace Go.Ce
open Go Go.Proofs Go.Proofs.Tryz
end Go.Ce
namespace Go.Ce
open Go Go.Proofs Go.Proofs.Tryz
def RF (mp:List Int) (k:Nat) (n:Int):Bool:=Dq k fun m=>decide (mp[m]?=some n)
def La (fr to:List Int) (mp:List Int) (k:Nat):Bool:=match mp[k]? with
 | none=>true
 | some n=>decide (n<0) || decide (n≥fr.length) || decide (fr[n.toNat]?≠to[k]?) || RF mp k n
def JQ (l:List Bc) (s:Bc) (i k:Nat):Bool:=match l[k]? with
 | none=>false
 | some x=>decide (x.type=s.to) || (decide (k<i) && decide (x.to=s.to))
def elemAt (c:List Ad) (t:Nat):Int:=match c[t]? with
 | some x=>x.elem
 | none=>0
def HC (l:List Bc) (s:Bc):Nat→Bool
 | 0=>false
 | i+1=>match l[i]? with
  | some x=>!S7 (sb x.type) (sb s.type)
  | none=>false
def RG (c:List Ad) (l:List Bc) (i:Nat):Bool:=match l[i]? with
 | none=>true
 | some s=>match A_ c s.type,A_ c s.to with
  | some t,some a=>(decide (elemAt c t≠0) || decide (elemAt c a≠0) || HC l s i) || (Dq l.length (JQ l s i) || (decide (s.map.length≠(Ak c a).length) || Dq (Ak c a).length (La (Ak c t) (Ak c a) s.map)))
  | _,_=>true
def BG (c:List Ad) (l:List Bc):Bool:=decide (l.length≤20) && !Dq l.length (RG c l)
def RKd (W:CW) (b o:Nat) (x:Int):Prop:=W.cell b o=some (.int .u8 x)
end Go.Ce
namespace Go.Ce
open Go Go.Proofs Go.Proofs.Tryz
end Go.Ce
namespace Go.Ce
open Go Go.Proofs Go.Proofs.Tryz
def Ic (c:List Ad) (x:Ad):Nat→Bool
 | 0=>false
 | i+1=>match c[i]? with
  | some y=>!S7 (sb y.name) (sb x.name)
  | none=>false
def BW (c:List Ad) (i:Nat):Bool:=match c[i]? with
 | none=>true
 | some x=>(!Fp x.name || Ic c x i) || ((decide (x.elem≠0) && (!Hs x.elem || decide (x.By≠EP) || decide (0<x.fields.length))) || decide (20<x.fields.length))
def Uo (fs:List Uh) (k:Nat) (s:ByteArray):Bool:=Dq k fun n=>decide ((fs[n]?).map (·.name)=some s)
def Ie (fs:List Uh) (k:Nat):Bool:=match fs[k]? with
 | none=>true
 | some f=>(!Fp f.name || !Hs f.kind) || Uo fs k f.name
def MY (c:List Ad) (i:Nat):Bool:=match Bu c c.length i with
 | none=>true
 | some _=>decide (60<(FM c i).length) || Dq (FM c i).length (Ie (FM c i))
def BL (c:List Ad):Bool:=decide (c.length≤100) && (!Dq c.length (BW c) && !Dq c.length (MY c))
theorem nH:Gm prog 48=some (.agg #[.string ⟨#[]⟩,.string ⟨#[]⟩,.slice none 0 0,.int .u8 0,.slice none 0 0]):=by kernel_rfl
structure OP (c:List Ad):Prop where
 len:c.length<200
 fields:∀ x,x ∈ c→x.fields.length≤100
 name:∀ x,x ∈ c→x.name.size<1000
 sup:∀ x,x ∈ c→x.By.size<1000
 ABC:∀ x,x ∈ c→∀ f,f ∈ x.fields→f.name.size<1000
end Go.Ce
namespace Go.Ce
open Go Go.Proofs Go.Proofs.Tryz
theorem Lu.ld {W:CW} {b o:Nat} {x:Ad} (h:Lu W b o x):∃ vf ab lb cb,ld prog 48 (.pointer (some ⟨b,o,none⟩)) W=some (.agg [.string x.name,.string x.By,vf,.int .u8 x.elem,.slice ab lb cb].toArray)∧Ax 2 (RC W) vf x.fields:=by
 obtain ⟨vf,h1,h2⟩:=h.fields; obtain ⟨ab,lb,cb,h3⟩:=h.binds; refine ⟨vf,ab,lb,cb,BO (vs:=[.string x.name,.string x.By,vf,.int .u8 x.elem,.slice ab lb cb]) a48 gi rfl (by omega) ?_,h2⟩; intro j w hj
 match j,hj with
 | 0,hj=>cases hj; exact h.name
 | 1,hj=>cases hj; exact h.By
 | 2,hj=>cases hj; exact h1
 | 3,hj=>cases hj; exact h.elem
 | 4,hj=>cases hj; exact h3
end Go.Ce
namespace Go.Ce
open Go Go.Proofs Go.Proofs.Tryz
def PK (c:List Ad) (l:List Bc):Int:=if BL c then (if BG c l then 0 else 212) else 210
def I1 (c:List Ad) (l:List Bc) (h:List BM) (root:Int):Int:=if PK c l≠0 then PK c l else if ER c h≥0 then 211 else if root<0∨root>h.length then 1 else 0
end Go.Ce
namespace Go.Ce
open Go Go.Proofs Go.Proofs.Tryz
end Go.Ce
namespace Go.Ce
open Go Go.Proofs Go.Proofs.Tryz
def Gy (l:List Bc) (s:ByteArray):Option Bc:=l.find? fun x=>decide (x.type=s)
def Ge (x:BM) (m:Int):Int:=(x.AH[m.toNat]?).getD 0
def AL (l:List Bc) (x:BM):BM:=match Gy l x.type with
 | some s=>⟨s.to,s.map.map (Ge x)⟩
 | none=>x
def C7 (l:List Int):List Value:=l.map fun k=>Value.int .i64 k
theorem s40:DM prog 40=some 1:=by kernel_rfl
theorem s51:DM prog 51=some 1:=by kernel_rfl
theorem s29:DM prog 29=some 1:=by kernel_rfl
theorem z56:Gm prog 56=some (.agg #[.string ⟨#[]⟩,.slice none 0 0]):=by kernel_rfl
theorem De.of {W:CW} {v:Value} {l:List Int} (h:Ax 1 (fun b o x=>W.cell b o=some (Value.int .i64 x)) v l) (hb:∀ x,x ∈ l→-9223372036854775808≤x∧x≤9223372036854775807):Ax 1 (De W) v l:=by
 obtain ⟨a,cap,h1,h2⟩:=h; exact ⟨a,cap,h1,fun i x hx=>by obtain ⟨p,hp,hr⟩:=h2 i x hx; exact ⟨p,hp,hr,hb x (List.mem_of_getElem? hx)⟩⟩
theorem nI {l:List Bc} {s:ByteArray} {i:Nat} (hi:i<l.length) (h:decide (l[i].type=s)=true) (Bj:∀ j,j<i→decide ((l[j]?).map (·.type)=some s)=false):Gy l s=some l[i]:=by
 unfold Gy; rw [List.find?_eq_some_iff_getElem]; refine ⟨h,i,hi,rfl,fun j hj=>?_⟩; have:=Bj j hj; rw [List.getElem?_eq_getElem (by omega)] at this
 simpa using this
theorem ABD (s:ByteArray):QF prog 56 [(0,.string s)]=some (.agg [.string s,.slice none 0 0].toArray):=by kernel_rfl
def nJ (vx:Value) (y:BM) (W:CW):Ending→CW→Prop:=fun e W'=>Kp W W'∧Al W'∧∃ vv,e=.returned (.agg #[.string y.type,vv])∧Ax 1 (De W') vv y.AH∧(vv=vx∨CC W.sz vv)
end Go.Ce
