/- A part of the proof: Fd, Fe, Ga, Ha, Pa, ShL5, Ff, ShR, Sh1, Sh0, Hb, Hc, Pb, Pc, Hd, He, Pd, Pe, Hf, Pf, Hg, Pg, Ph, Pi, Pj, Pk, ShA. -/
import Derived.Test.YtmknebebbbjdlaaGreatW01
import Derived.Test.YtmknebebbbjdlaaGreatProg
set_option linter.unusedSectionVars false
set_option linter.unusedVariables false
set_option linter.unusedSimpArgs false
set_option maxRecDepth 200000
namespace Go.Ce
def AE (a:CAct) (e:Env) (ds:List Deferred):Prop:=(∀ t,a.at t=e t)∧a.defers=ds
theorem AE.eval {a:CAct} {e:Env} {ds:List Deferred} (h:AE a e ds):a.eval=e.ev:=by
 funext x
 cases x with
 | tmp t=>rw [CAct.eval_tmp]; exact h.1 t
 | _=>rfl
theorem AE.put {a:CAct} {e:Env} {ds:List Deferred} (h:AE a e ds) (d:Option Tmp) (v:Value):AE (a.put d v) (e.put d v) ds:=by
 refine ⟨fun t=>?_,by rw [CAct.put_defers]; exact h.2⟩
 cases d with
 | none=>exact h.1 t
 | some d =>
  rw [CAct.at_put]; simp only [Env.put,cond_eq_ite,Nat.beq_eq]
  split
  ·rfl
  ·exact h.1 t
theorem zPv {v:Value} {X Y:Prop} (h:wI v X Y):∃ b,v=.bool b∧cond b X Y:=by
 unfold wI at h
 split at h
 ·exact ⟨true,rfl,h⟩
 ·exact ⟨false,rfl,h⟩
 ·obtain ⟨b,hb,h1,h2⟩:=h
  cases b with
  | true=>exact ⟨_,hb,h1 rfl⟩
  | false=>exact ⟨_,hb,h2 rfl⟩
theorem zAH {b:Bool} {X Y:Prop} (h1:b=true→X) (h2:b=false→Y):wI (.bool b) X Y:=by
 cases b with
 | true=>exact h1 rfl
 | false=>exact h2 rfl
section
variable (P:Program) (L:List FuncId)
def zQp:Value→Bool
 | .tuple _=>true
 | _=>false
def zHs (sk:List Nat) (ops:Array Oper) (o:Oper) (e:Env) (K:Bool→Env→Prop):Prop:=match o.guard with
 | none=>K true e
 | some (j,want)=>match (ops[j]?).bind (·.dst) with
  | some d=>cond (zB1 sk j) (cond (zQp (e d)) (K false e) False) (wI (e d) (K (true == want) (fun t=>cond (Nat.beq t d) (.bool true) (e t))) (K (false == want) (fun t=>cond (Nat.beq t d) (.bool false) (e t))))
  | none=>False
def zN4 (o:Oper):Bool:=match o.op with
 | .call c=>match c.callee with
  | .value _=>true
  | _=>false
 | _=>false
def zT4 (ops:Array Oper):Nat→List Nat→List Oper→Env→List Deferred→CW→(Exit→Env→List Deferred→CW→Prop)→Prop
 | _,_,[],e,ds,W,K=>K .normal e ds W
 | i,sk,o::rest,e,ds,W,K=>zHs sk ops o e fun b e=>cond b
   (wOp P L o e.ev W (fun v W=>zT4 ops (i+1) sk rest (e.put o.dst v) ds W K) (fun W=>zT4 ops (i+1) sk rest (e.put o.dst undef) ds W K) (fun d W=>zT4 ops (i+1) sk rest (e.put o.dst undef) (d::ds) W K) (fun ch W=>K (.panic ch) e ds W))
   (zT4 ops (i+1) (i::sk) rest (e.put o.dst undef) ds W K)
def zL1 (ops:Array Oper) (ev:Operand→Value) (W:CW):Nat→Operand→Value
 | n+1,.tmp t=>match ops.toList.find? (fun o=>match o.dst with | some d=>Nat.beq d t | none=>false) with
  | some o=>cond (zBb P o) ((cop P o (zL1 ops ev W n) W).elim undef fun l=>l.head?.elim undef fun p=>match p.1 with | .value v=>v | _=>undef) undef
  | none=>ev (.tmp t)
 | _,x=>ev x
def zIF (ops:Array Oper) (ev:Operand→Value) (W:CW) (o:Oper):Operand→Value :=
 match o.op with
 | .makeSlice _ _ _=>zL1 P ops ev W 6
 | _=>ev
def zQP (ops:Array Oper) (ev:Operand→Value):List Nat→CW→Option (List (Nat × Value × Option CObj) × CW)
 | [],W=>some ([],W)
 | i::is,W=>match ops[i]? with
  | some o=>match cop P o (zIF P ops ev W o) W with
   | some [(.value v,W1)]=>match zQP ops ev is W1 with
    | some (l,W2)=>some ((i,v,W1.obj W.sz)::l,W2)
    | none=>none
   | _=>none
  | none=>none
def zKJ (o:Oper) (ev:Operand→Value) (v:Value) (ob:Option CObj):Bool :=
 match o.op with
 | .makeSlice _ _ _=>match v with
  | .slice (some b) _ _=>(cop P o ev ⟨.nil,b.block⟩).any fun l=>l.head?.any fun p=>match p.1 with
   | .value u=>veq 8 u v && zBJ (p.2.obj b.block) ob
   | _=>false
  | _=>false
 | _=>true
def zJw (ops:Array Oper) (i:Nat) (an:List Nat) (ok:CW→Prop):List (Nat × CW)→CW→Prop
 | [],W=>ok W
 | (j,Wj)::before,W=>cond (anc ops j i) True (ok W)∧cond (zB1 an j) True (zJw ops i an ok before Wj)
def zIm (ops:Array Oper) (ws:List (Nat × CW)) (W:CW):List (Nat × (CW→Prop))→Prop
 | []=>True
 | (i,ok)::rd=>zJw ops i (zFO ops i) ok ws W∧zIm ops ws W rd
def zM7 (v:Value) (ob:Option CObj) (W:CW):Bool:=match v with
 | .pointer (some b)=>zBJ (W.obj b.block) ob
 | .map (some b)=>zBJ (W.obj b) ob
 | .slice (some b) _ _=>zBJ (W.obj b.block) ob
 | _=>false
def zTU (ops:Array Oper) (ws:List (Nat × CW)) (W:CW):List (Nat × Value × Option CObj)→Prop
 | []=>True
 | (i,v,ob)::fl=>zJw ops i (zFO ops i) (fun W=>zM7 v ob W=true) ws W∧zTU ops ws W fl
def zR9 (ops:Array Oper) (fl:List (Nat × Value × Option CObj)):Nat→List Nat→List Oper→Env→CW→List (Nat × CW)→List (Nat × (CW→Prop))→(Env→CW→List (Nat × CW)→List (Nat × (CW→Prop))→Prop)→Prop
 | _,_,[],e,W,ws,rd,K=>K e W ws rd
 | i,sk,o::rest,e,W,ws,rd,K=>match fl.find? fun p=>Nat.beq p.1 i with
  | some (_,v,ob)=>zKJ P o e.ev v ob=true∧zR9 ops fl (i+1) sk rest (e.put o.dst v) W ws rd K
  | none=>zHs sk ops o e fun b e=>cond b
    (cond (zBb P o) (wV (puO P o e.ev) fun v=>zR9 ops fl (i+1) sk rest (e.put o.dst v) W ws rd K)
     (cond (zBs P o) (wV (rdO P o e.ev W) fun v=>zR9 ops fl (i+1) sk rest (e.put o.dst v) W ws ((i,fun W'=>rdO P o e.ev W'=some v)::rd) K)
      (wOp P L o e.ev W (fun v W1=>zR9 ops fl (i+1) sk rest (e.put o.dst v) W1 ((i,W)::ws) rd K) (fun W1=>zR9 ops fl (i+1) sk rest (e.put o.dst undef) W1 ((i,W)::ws) rd K) (fun _ _=>False) (fun _ _=>False))))
    (zR9 ops fl (i+1) (i::sk) rest (e.put o.dst undef) W ws rd K)
def zT5 (ops:Array Oper) (e:Env) (W:CW) (K:Env→CW→Prop):Prop:=match zQP P ops e.ev (zDK P ops) W with
 | some (fl,W1)=>zR9 P L ops fl 0 [] ops.toList e W1 [] [] fun e W ws rd=>zIm ops ws W rd∧zTU ops ws W fl∧K e W
 | none=>False
def zK6 (ops:Array Oper) (i0:Nat):Nat→List Nat→List Oper→Env→CW→List (Nat × (CW→Prop))→(List (Nat × (CW→Prop))→Prop)→Prop
 | _,_,[],_,_,rd,K=>K rd
 | i,sk,o::rest,e,W,rd,K=>cond (zK3 ops i0 i) (zK6 ops i0 (i+1) sk rest (e.put o.dst undef) W rd K)
   (zHs sk ops o e fun b e=>cond b
    (cond (zBb P o) (wV (puO P o e.ev) fun v=>zK6 ops i0 (i+1) sk rest (e.put o.dst v) W rd K)
     (cond (zBs P o) (wV (rdO P o e.ev W) fun v=>zK6 ops i0 (i+1) sk rest (e.put o.dst v) W ((i,fun W'=>rdO P o e.ev W'=some v)::rd) K) False))
    (zK6 ops i0 (i+1) (i::sk) rest (e.put o.dst undef) W rd K))
def zJx (ops:Array Oper) (fl:List (Nat × Value × Option CObj)) (KP:List PanicEntry→CW→Prop):Nat→List Nat→List Oper→Env→CW→List (Nat × CW)→List (Nat × (CW→Prop))→(Env→CW→List (Nat × CW)→List (Nat × (CW→Prop))→Prop)→Prop
 | _,_,[],e,W,ws,rd,K=>K e W ws rd
 | i,sk,o::rest,e,W,ws,rd,K=>match fl.find? fun p=>Nat.beq p.1 i with
  | some (_,v,ob)=>zKJ P o e.ev v ob=true∧zJx ops fl KP (i+1) sk rest (e.put o.dst v) W ws rd K
  | none=>zHs sk ops o e fun b e=>cond b
    (cond (zBb P o) (wV (puO P o e.ev) fun v=>zJx ops fl KP (i+1) sk rest (e.put o.dst v) W ws rd K)
     (cond (zBs P o) (wV (rdO P o e.ev W) fun v=>zJx ops fl KP (i+1) sk rest (e.put o.dst v) W ws ((i,fun W'=>rdO P o e.ev W'=some v)::rd) K)
      (wOp P L o e.ev W (fun v W1=>zJx ops fl KP (i+1) sk rest (e.put o.dst v) W1 ((i,W)::ws) rd K) (fun W1=>zJx ops fl KP (i+1) sk rest (e.put o.dst undef) W1 ((i,W)::ws) rd K) (fun _ _=>False)
       (fun ch W2=>cond (zN4 o && fl.isEmpty && ws.all fun x=>zB1 (zFO ops i) x.1) (zK6 P ops i (i+1) sk rest (e.put o.dst undef) W rd fun rd=>zIm ops ws W rd∧KP ch W2) False))))
    (zJx ops fl KP (i+1) (i::sk) rest (e.put o.dst undef) W ws rd K)
def zPw (ops:Array Oper) (e:Env) (W:CW) (K:Env→CW→Prop) (KP:List PanicEntry→CW→Prop):Prop:=match zQP P ops e.ev (zDK P ops) W with
 | some (fl,W1)=>zJx P L ops fl KP 0 [] ops.toList e W1 [] [] fun e W ws rd=>zIm ops ws W rd∧zTU ops ws W fl∧K e W
 | none=>False
def Env.bad:Env:=fun t=>cond (Nat.beq t 0) (.complex .f64 0 0) undef
def zCg (ro:Option Nat) (fn:FuncId) (nt:Nat) (c:Code) (e:Env) (ds:List Deferred) (W:CW) (K:Exit→Env→List Deferred→CW→Prop):Prop :=
 ∀ a:CAct,AE a e ds→a.nt=nt→zUq P L ro fn c a W fun x a' W'=>∃ e',AE a' e' a'.defers∧a'.nt=nt∧K x e' a'.defers W'
abbrev zAI:=Exit→Env→List Deferred→CW→Prop
def zA5 (Y:Env→List Deferred→CW→Prop) (K:zAI):zAI:=fun x e ds W=>match x with
 | .normal=>Y e ds W
 | x=>K x e ds W
def zBm (id:Nat) (K:zAI):zAI:=fun x e ds W=>match x with
 | .exit id'=>cond (Nat.beq id' id) (K .normal e ds W) (K (.exit id') e ds W)
 | x=>K x e ds W
def zAJ (ro:Option Nat) (fn:FuncId) (nt:Nat):Code→Env→List Deferred→CW→(Exit→Env→List Deferred→CW→Prop)→Prop
 | .skip,e,ds,W,K=>K .normal e ds W
 | .label _,e,ds,W,K=>K .normal e ds W
 | .exit id,e,ds,W,K=>K (.exit id) e ds W
 | .ret,e,ds,W,K=>K .ret e ds W
 | .region _ ops false,e,ds,W,K=>zT4 P L ops 0 [] ops.toList e ds W K
 | .region _ ops true,e,ds,W,K=>cond (zB1 L (fn+1500000)) (zPw P L ops e W (fun e W=>K .normal e ds W) (fun ch W=>K (.panic ch) Env.bad ds W)) (zT5 P L ops e W fun e W=>K .normal e ds W)
 | .seq x y,e,ds,W,K=>zAJ ro fn nt x e ds W (zA5 (fun e ds W=>zAJ ro fn nt y e ds W K) K)
 | .cond c x y,e,ds,W,K=>wI (e.ev c) (zAJ ro fn nt x e ds W K) (zAJ ro fn nt y e ds W K)
 | .block id b,e,ds,W,K=>zAJ ro fn nt b e ds W (zBm id K)
 | .scope b,e,ds,W,K=>zAJ ro fn nt b e ds W K
 | c,e,ds,W,K=>zCg P L ro fn nt c e ds W K
end
section
variable {P:Program} {L:List FuncId}
theorem zNc {n m:Nat} (h:n≤m) {f:FuncId} {args:List Value} {W:CW} {o:List (Ending × CW)} (hc:(evC P L n).call f args W=some o):(evC P L m).call f args W=some o:=(zBf h).call hc
theorem zJ7 {n m:Nat} (h:n≤m) {l:Nat} {args:List Value} {W:CW} {o:List (Ending × CW)} (hc:(evC P L n).round l args W=some o):(evC P L m).round l args W=some o:=(zBf h).round hc
theorem zCz {n m:Nat} (h:n≤m) {ro:Option Nat} {fn:FuncId} {c:Code} {a:CAct} {W:CW} {o:List (Exit × CAct × CW)} (hc:(evC P L n).code ro fn c a W=some o):(evC P L m).code ro fn c a W=some o:=(zBf h).code hc
theorem zAi {α β:Type} (x:α) (f:α→Option (List β)) {y:List β} (h:f x=some y):zBZ (some [x]) f=some y:=by
 simp [zBZ,zC8,h]
theorem zEp {sk:List Nat} {ops:Array Oper} {o:Oper} {e:Env} {ds:List Deferred} {a:CAct} (ha:AE a e ds) {K:Bool→Env→Prop} (h:zHs sk ops o e K):∃ e',AE a e' ds∧K (zBT ops o a) e'∧zBo ops o a=some (zBT ops o a):=by
 unfold zHs at h; unfold zBT zBo
 split at h
 ·rename_i hg; rw [hg]; exact ⟨e,ha,h,by first | rfl | trivial⟩
 ·rename_i j want hg; rw [hg]
  split at h
  ·rename_i d hd; obtain ⟨oj,hoj,hdj⟩:=Option.bind_eq_some_iff.1 hd
   cases hm:zB1 sk j with
   | true =>
    rw [hm] at h; simp only [cond_true] at h
    cases hu:zQp (e d) with
    | false=>rw [hu] at h; exact h.elim
    | true =>
     rw [hu] at h; simp only [cond_true] at h
     have hy:zFV ops a j=none:=by
      unfold zFV; rw [hoj]; simp only [hdj]; have h1:=ha.1 d; unfold CAct.at at h1
      cases hg2:a.t.get d with
      | none=>rfl
      | some u =>
       rw [hg2] at h1; have h1:u=e d:=h1; subst h1
       cases hu2:e d <;> rw [hu2] at hu <;> first | rfl | cases hu
     simp only [hy]; exact ⟨e,ha,h,by first | rfl | trivial⟩
   | false =>
   rw [hm] at h; simp only [cond_false] at h; obtain ⟨b,hb,hK⟩:=zPv h
   replace hK:K (b == want) (fun t=>cond (Nat.beq t d) (.bool b) (e t)):=by cases b <;> exact hK
   have hy:zFV ops a j=some b:=by
    unfold zFV; rw [hoj]; simp only [hdj]; have h1:=ha.1 d; rw [hb] at h1; unfold CAct.at at h1
    cases hg2:a.t.get d with
    | none=>rw [hg2] at h1; cases h1
    | some u =>
     rw [hg2] at h1; have h1:u=.bool b:=h1; subst h1; rfl
   simp only [hy]; refine ⟨_,⟨fun t=>?_,ha.2⟩,hK,by first | rfl | trivial⟩; simp only [cond_eq_ite,Nat.beq_eq]
   split
   ·rename_i ht; subst ht; rw [ha.1 t,hb]
   ·exact ha.1 t
  ·exact h.elim
theorem zCa {ops:Array Oper}:∀ {i:Nat} {sk:List Nat} {rest:List Oper} {a:CAct} {e:Env} {ds:List Deferred} {W:CW} {K:Exit→Env→List Deferred→CW→Prop},zT4 P L ops i sk rest e ds W K→AE a e ds →
  ∃ n o e',zC5 P (evC P L n) ops rest a W=some [o]∧AE o.2.1 e' o.2.1.defers∧o.2.1.nt=a.nt∧K o.1 e' o.2.1.defers o.2.2
 | i,sk,[],a,e,ds,W,K,h,ha=>by
  refine ⟨0,(.normal,a,W),e,rfl,?_,rfl,?_⟩
  ·rw [ha.2]; exact ha
  ·rw [ha.2]; exact h
 | i,sk,o::rest,a,e,ds,W,K,h,ha=>by
  simp only [zT4] at h; obtain ⟨e1,ha1,h,_⟩:=zEp ha h
  cases hw:zBT ops o a with
  | false =>
   rw [hw] at h; obtain ⟨n,x,e',h1,h2,h3,h4⟩:=zCa h (ha1.put _ _); exact ⟨n,x,e',by simp only [zC5,hw]; exact h1,h2,by rw [h3,CAct.put_nt],h4⟩
  | true =>
   rw [hw] at h; simp only [cond_true] at h; obtain ⟨p,hp,hout⟩:=zHr h; obtain ⟨nx,W1⟩:=p; have hcop:cop P o a.eval W=some [(nx,W1)]:=by rw [ha1.eval]; exact hp
   have step:∀ {n:Nat} {x:Exit × CAct × CW},(match nx with
     | .value v=>zC5 P (evC P L n) ops rest (a.put o.dst v) W1
     | .skip=>zC5 P (evC P L n) ops rest (a.put o.dst undef) W1
     | .defer d=>zC5 P (evC P L n) ops rest ({ a with defers:=d::a.defers }.put o.dst undef) W1
     | .enter f args=>zBZ ((evC P L n).call f args W1) fun (e,W)=>match e with
      | .returned v=>zC5 P (evC P L n) ops rest (a.put o.dst v) W
      | .panicked ch=>some [(.panic ch,a,W)]
      | .outgrown=>none
     | .round l args=>zBZ ((evC P L n).round l args W1) fun (e,W)=>match e with
      | .returned v=>zC5 P (evC P L n) ops rest (a.put o.dst v) W
      | .panicked ch=>some [(.panic ch,a,W)]
      | .outgrown=>none
     | .recover=>none
     | .panic v=>some [(.panic [{ v,recovered:=false }],a,W1)])=some [x]→zC5 P (evC P L n) ops (o::rest) a W=some [x]:=by
    intro n x hx; simp only [zC5,hw,hcop]; refine zAi _ _ ?_
    cases nx <;> exact hx
   have up:∀ {n m:Nat} (hle:n≤m) {a:CAct} {W:CW} {r:List (Exit × CAct × CW)},zC5 P (evC P L n) ops rest a W=some r→zC5 P (evC P L m) ops rest a W=some r:=fun hle=>zCN (zBf hle)
   cases nx with
   | value v =>
    obtain ⟨n,x,e',h1,h2,h3,h4⟩:=zCa (a:=a.put o.dst v) hout (ha1.put _ _); exact ⟨n,x,e',step h1,h2,by rw [h3,CAct.put_nt],h4⟩
   | skip =>
    obtain ⟨n,x,e',h1,h2,h3,h4⟩:=zCa (a:=a.put o.dst undef) hout (ha1.put _ _); exact ⟨n,x,e',step h1,h2,by rw [h3,CAct.put_nt],h4⟩
   | defer d =>
    obtain ⟨n,x,e',h1,h2,h3,h4⟩:=zCa (a:=({ a with defers:=d::a.defers }:CAct).put o.dst undef) hout (AE.put (a:={ a with defers:=d::a.defers }) ⟨ha1.1,by show d::a.defers=d::ds; rw [ha1.2]⟩ _ _); exact ⟨n,x,e',step h1,h2,by rw [h3,CAct.put_nt],h4⟩
   | enter f args =>
    obtain ⟨n1,y,hy,hQ⟩:=hout; obtain ⟨en,W2⟩:=y
    cases en with
    | returned v =>
     obtain ⟨n,x,e',h1,h2,h3,h4⟩:=zCa (a:=a.put o.dst v) hQ (ha1.put _ _); refine ⟨max n n1,x,e',step ?_,h2,by rw [h3,CAct.put_nt],h4⟩; simp only [zNc (Nat.le_max_right n n1) hy]; exact zAi _ _ (up (Nat.le_max_left _ _) h1)
    | panicked ch =>
     refine ⟨n1,(.panic ch,a,W2),e1,step ?_,by rw [ha1.2]; exact ha1,rfl,by rw [ha1.2]; exact hQ⟩; simp only [hy]; exact zAi _ _ rfl
    | outgrown=>exact hQ.elim
   | round l args =>
    obtain ⟨n1,y,hy,hQ⟩:=hout; obtain ⟨en,W2⟩:=y
    cases en with
    | returned v =>
     obtain ⟨n,x,e',h1,h2,h3,h4⟩:=zCa (a:=a.put o.dst v) hQ (ha1.put _ _); refine ⟨max n n1,x,e',step ?_,h2,by rw [h3,CAct.put_nt],h4⟩; simp only [zJ7 (Nat.le_max_right n n1) hy]; exact zAi _ _ (up (Nat.le_max_left _ _) h1)
    | panicked ch =>
     refine ⟨n1,(.panic ch,a,W2),e1,step ?_,by rw [ha1.2]; exact ha1,rfl,by rw [ha1.2]; exact hQ⟩; simp only [hy]; exact zAi _ _ rfl
    | outgrown=>exact hQ.elim
   | recover=>exact hout.elim
   | panic v=>exact ⟨0,(.panic [{ v,recovered:=false }],a,W1),e1,step rfl,by rw [ha1.2]; exact ha1,rfl,by rw [ha1.2]; exact hout⟩
theorem zOS (ops:Array Oper) (a:CAct) (W:CW):∀ (n:Nat) (x:Operand),zRY P ops a W n x=zL1 P ops a.eval W n x
 | 0,x=>by cases x <;> rfl
 | n+1,x=>by
  cases x with
  | tmp t =>
   simp only [zRY,zL1]; have:zRY P ops a W n=zL1 P ops a.eval W n:=funext fun x=>zOS ops a W n x; rw [this]; rfl
  | _=>rfl
theorem zM5 (ops:Array Oper) (a:CAct) (W:CW) (o:Oper):zKI P ops a W o=zIF P ops a.eval W o:=by
 unfold zKI zIF
 cases o.op <;> first | rfl | (funext x; exact zOS ops a W 6 x)
theorem zFf (ops:Array Oper) (a:CAct):∀ (is:List Nat) (W:CW),zDZ P ops a is W=zQP P ops a.eval is W
 | [],W=>rfl
 | i::is,W=>by
  simp only [zDZ,zQP,zM5,zFf ops a is]; rfl
theorem zJS (o:Oper) (a:CAct) (v:Value) (ob:Option CObj):zIG P o a v ob=zKJ P o a.eval v ob:=rfl
theorem zHp {ops:Array Oper} {i:Nat} {an:List Nat} {ok:CW→Bool} {okP:CW→Prop} (h:∀ W,okP W→ok W=true):∀ {ws:List (Nat × CW)} {W:CW},zJw ops i an okP ws W→zBa ops i an ok ws W=true
 | [],W,hw=>h W hw
 | (j,Wj)::before,W,hw=>by
  obtain ⟨h1,h2⟩:=hw; simp only [zBa,Bool.and_eq_true,Bool.or_eq_true]
  refine ⟨?_,?_⟩
  ·cases ha:anc ops j i with
   | true=>exact .inl rfl
   | false=>rw [ha] at h1; exact .inr (h W h1)
  ·cases hm:zB1 an j with
   | true=>rfl
   | false=>rw [hm] at h2; exact zHp h h2
def zKz (P:Program):List (Nat × (CW→Prop))→List (Nat × Oper × CAct × Value)→Prop
 | [],[]=>True
 | (i,ok)::rd,(i',o,a,v)::rd'=>(i=i'∧∀ W,ok W→cop P o a.eval W=some [(.value v,W)])∧zKz P rd rd'
 | _,_=>False
theorem zE9 (x:Ending × CW):zCs (some [x])=some [x]:=rfl
theorem zBy {ops:Array Oper} {fl:List (Nat × Value × Option CObj)} {K:Env→CW→List (Nat × CW)→List (Nat × (CW→Prop))→Prop}:∀ {rest:List Oper} {i:Nat} {sk:List Nat} {e:Env} {W:CW} {ws:List (Nat × CW)} {rd:List (Nat × (CW→Prop))} {a:CAct} {ds:List Deferred} {rd':List (Nat × Oper × CAct × Value)},
  zR9 P L ops fl i sk rest e W ws rd K→AE a e ds→zKz P rd rd'→∃ n s e' rd2,zBw P (evC P L n) ops fl i rest ⟨a,W,ws,rd'⟩=some s∧AE s.a e' ds∧s.a.nt=a.nt∧zKz P rd2 s.rd∧K e' s.W s.ws rd2
 | [],i,sk,e,W,ws,rd,a,ds,rd',h,ha,hr=>⟨0,_,e,rd,rfl,ha,rfl,hr,h⟩
 | o::rest,i,sk,e,W,ws,rd,a,ds,rd',h,ha,hr=>by
  have up:∀ {n m:Nat} (hle:n≤m) {i:Nat} {s s':DSt},zBw P (evC P L n) ops fl i rest s=some s'→zBw P (evC P L m) ops fl i rest s=some s':=fun hle=>zDb (zBf hle)
  have go:∀ {n:Nat} {s1 s:DSt},zAl P (evC P L n) ops fl i o ⟨a,W,ws,rd'⟩=some s1→zBw P (evC P L n) ops fl (i+1) rest s1=some s→zBw P (evC P L n) ops fl i (o::rest) ⟨a,W,ws,rd'⟩=some s:=by
   intro n s1 s h1 h2; simp only [zBw,h1]; exact h2
  simp only [zR9] at h
  cases hf:fl.find? fun p=>Nat.beq p.1 i with
  | some y =>
   obtain ⟨i',v,ob⟩:=y; rw [hf] at h; obtain ⟨hck,h⟩:=h; obtain ⟨n,s,e',rd2,h1,h2,h3,h4,h5⟩:=zBy h (ha.put o.dst v) hr; refine ⟨n,s,e',rd2,go ?_ h1,h2,by rw [h3,CAct.put_nt],h4,h5⟩; unfold zAl; rw [hf]; simp only [zJS,ha.eval,hck,cond_true]
  | none =>
   rw [hf] at h; obtain ⟨e1,ha1,h,hwt⟩:=zEp ha h
   have st:∀ {n:Nat},zAl P (evC P L n) ops fl i o ⟨a,W,ws,rd'⟩=(match zBo ops o a with
     | none=>none
     | some false=>some { (⟨a,W,ws,rd'⟩:DSt) with a:=a.put o.dst undef }
     | some true =>
      cond (zBb P o) (match cop P o a.eval W with
       | some [(.value v,_)]=>some { (⟨a,W,ws,rd'⟩:DSt) with a:=a.put o.dst v }
       | _=>none)
      (cond (zBs P o) (match cop P o a.eval W with
       | some [(.value v,_)]=>some { (⟨a,W,ws,rd'⟩:DSt) with a:=a.put o.dst v,rd:=(i,o,a,v)::rd' }
       | _=>none)
      (match cop P o a.eval W with
      | some [(.value v,W1)]=>some { (⟨a,W,ws,rd'⟩:DSt) with a:=a.put o.dst v,W:=W1,ws:=(i,W)::ws }
      | some [(.skip,W1)]=>some { (⟨a,W,ws,rd'⟩:DSt) with a:=a.put o.dst undef,W:=W1,ws:=(i,W)::ws }
      | some [(.enter f args,W1)]=>match zCs ((evC P L n).call f args W1) with
       | some [(.returned v,W2)]=>some { (⟨a,W,ws,rd'⟩:DSt) with a:=a.put o.dst v,W:=W2,ws:=(i,W)::ws }
       | _=>none
      | some [(.round l args,W1)]=>match zCs ((evC P L n).round l args W1) with
       | some [(.returned v,W2)]=>some { (⟨a,W,ws,rd'⟩:DSt) with a:=a.put o.dst v,W:=W2,ws:=(i,W)::ws }
       | _=>none
      | _=>none))):=by
    intro n; unfold zAl; rw [hf]; rfl
   cases hw:zBT ops o a with
   | false =>
    rw [hw] at h hwt; simp only [cond_false] at h; obtain ⟨n,s,e',rd2,h1,h2,h3,h4,h5⟩:=zBy h (ha1.put o.dst undef) hr; exact ⟨n,s,e',rd2,go (by rw [st,hwt]) h1,h2,by rw [h3,CAct.put_nt],h4,h5⟩
   | true =>
    rw [hw] at h hwt; simp only [cond_true] at h; have hev:=ha1.eval
    cases hp:zBb P o with
    | true =>
     rw [hp] at h; simp only [cond_true] at h
     cases hx:puO P o e1.ev with
     | none=>rw [hx] at h; exact h.elim
     | some v =>
      rw [hx] at h; obtain ⟨n,s,e',rd2,h1,h2,h3,h4,h5⟩:=zBy h (ha1.put o.dst v) hr; refine ⟨n,s,e',rd2,go ?_ h1,h2,by rw [h3,CAct.put_nt],h4,h5⟩; rw [st,hwt]; simp only [hp,cond_true,zL8 hp,hev,hx,vL]
    | false =>
     rw [hp] at h; simp only [cond_false] at h
     cases hrd:zBs P o with
     | true =>
      rw [hrd] at h; simp only [cond_true] at h
      cases hx:rdO P o e1.ev W with
      | none=>rw [hx] at h; exact h.elim
      | some v =>
       rw [hx] at h; obtain ⟨n,s,e',rd2,h1,h2,h3,h4,h5⟩:=zBy (rd':=(i,o,a,v)::rd') h (ha1.put o.dst v) ⟨⟨rfl,fun W' hW'=>by rw [zHK hrd,hev,hW']; rfl⟩,hr⟩; refine ⟨n,s,e',rd2,go ?_ h1,h2,by rw [h3,CAct.put_nt],h4,h5⟩; rw [st,hwt]; simp only [hp,hrd,cond_true,cond_false,zHK hrd,hev,hx,vL]
     | false =>
      rw [hrd] at h; simp only [cond_false] at h; obtain ⟨p,hcop,hout⟩:=zHr h; obtain ⟨nx,W1⟩:=p; rw [←hev] at hcop
      cases nx with
      | value v =>
       obtain ⟨n,s,e',rd2,h1,h2,h3,h4,h5⟩:=zBy (a:=a.put o.dst v) hout (ha1.put o.dst v) hr; refine ⟨n,s,e',rd2,go ?_ h1,h2,by rw [h3,CAct.put_nt],h4,h5⟩; rw [st,hwt]; simp only [hp,hrd,cond_false,hcop]
      | skip =>
       obtain ⟨n,s,e',rd2,h1,h2,h3,h4,h5⟩:=zBy (a:=a.put o.dst undef) hout (ha1.put o.dst undef) hr; refine ⟨n,s,e',rd2,go ?_ h1,h2,by rw [h3,CAct.put_nt],h4,h5⟩; rw [st,hwt]; simp only [hp,hrd,cond_false,hcop]
      | enter f args =>
       obtain ⟨n1,y,hy,hQ⟩:=hout; obtain ⟨en,W2⟩:=y
       cases en with
       | returned v =>
        obtain ⟨n,s,e',rd2,h1,h2,h3,h4,h5⟩:=zBy (a:=a.put o.dst v) hQ (ha1.put o.dst v) hr; refine ⟨max n n1,s,e',rd2,go ?_ (up (Nat.le_max_left _ _) h1),h2,by rw [h3,CAct.put_nt],h4,h5⟩; rw [st,hwt]; simp only [hp,hrd,cond_false,hcop,zNc (Nat.le_max_right n n1) hy,zE9]
       | panicked ch=>exact hQ.elim
       | outgrown=>exact hQ.elim
      | round l args =>
       obtain ⟨n1,y,hy,hQ⟩:=hout; obtain ⟨en,W2⟩:=y
       cases en with
       | returned v =>
        obtain ⟨n,s,e',rd2,h1,h2,h3,h4,h5⟩:=zBy (a:=a.put o.dst v) hQ (ha1.put o.dst v) hr; refine ⟨max n n1,s,e',rd2,go ?_ (up (Nat.le_max_left _ _) h1),h2,by rw [h3,CAct.put_nt],h4,h5⟩; rw [st,hwt]; simp only [hp,hrd,cond_false,hcop,zJ7 (Nat.le_max_right n n1) hy,zE9]
       | panicked ch=>exact hQ.elim
       | outgrown=>exact hQ.elim
      | defer d=>exact hout.elim
      | recover=>exact hout.elim
      | panic v=>exact hout.elim
theorem zTF {n:Nat} (v:Value):(evC P L n).eqv v v=true:=by
 have:(evC P L n).eqv=fun u v=>@decide (u=v) (Classical.propDecidable _):=by
  unfold evC
  induction n with
  | zero=>rfl
  | succ n ih=>exact ih
 rw [this]; exact @decide_eq_true _ (Classical.propDecidable _) rfl
theorem zGW {n:Nat} {ops:Array Oper} {ws:List (Nat × CW)} {W:CW}:∀ {rd:List (Nat × (CW→Prop))} {rd':List (Nat × Oper × CAct × Value)},zIm ops ws W rd→zKz P rd rd' →
  (rd'.all fun (i,o,a,v)=>zBa ops i (zFO ops i) (fun W=>match cop P o a.eval W with | some [(.value u,_)]=>(evC P L n).eqv u v | _=>false) ws W)=true
 | [],[],_,_=>rfl
 | (i,ok)::rd,(i',o,a,v)::rd',h,hr=>by
  obtain ⟨⟨rfl,h1⟩,hr⟩:=hr; simp only [List.all_cons,Bool.and_eq_true]; refine ⟨zHp (fun W hW=>?_) h.1,zGW h.2 hr⟩; rw [h1 W hW]; exact zTF v
 | [],_::_,_,h=>h.elim
 | _::_,[],_,h=>h.elim
theorem zKv {ops:Array Oper} {ws:List (Nat × CW)} {W:CW}:∀ {fl:List (Nat × Value × Option CObj)},zTU ops ws W fl→(fl.all fun (i,v,ob)=>zBa ops i (zFO ops i) (fun W=>match v with | .pointer (some b)=>zBJ (W.obj b.block) ob | .map (some b)=>zBJ (W.obj b) ob | .slice (some b) _ _=>zBJ (W.obj b.block) ob | _=>false) ws W)=true
 | [],_=>rfl
 | (i,v,ob)::fl,h=>by
  simp only [List.all_cons,Bool.and_eq_true]; exact ⟨zHp (fun W hW=>hW) h.1,zKv h.2⟩
theorem zMZ {ops:Array Oper} {a:CAct} {e:Env} {ds:List Deferred} {W:CW} {K:Env→CW→Prop} (h:zT5 P L ops e W K) (ha:AE a e ds) :
  ∃ n a' W' e',zEL P (evC P L n) ops a W=some [(.normal,a',W')]∧AE a' e' ds∧a'.nt=a.nt∧K e' W':=by
 unfold zT5 at h; rw [←ha.eval,←zFf] at h
 split at h
 ·rename_i fl W1 hpre; obtain ⟨n,s,e',rd2,h1,h2,h3,h4,h5,h6,h7⟩:=zBy (ds:=ds) (rd':=[]) h ha trivial; refine ⟨n,s.a,s.W,e',?_,h2,h3,h7⟩; unfold zEL; rw [hpre]; simp only [h1]; have e1:=zGW (L:=L) (n:=n) h5 h4; have e2:=zKv h6
  show cond (s.rd.all fun (i,o,a,v)=>zBa ops i (zFO ops i) (fun W=>match cop P o a.eval W with | some [(.value u,_)]=>(evC P L n).eqv u v | _=>false) s.ws s.W)
   (cond (fl.all fun (i,v,ob)=>zBa ops i (zFO ops i) (fun W=>match v with | .pointer (some b)=>zBJ (W.obj b.block) ob | .map (some b)=>zBJ (W.obj b) ob | .slice (some b) _ _=>zBJ (W.obj b.block) ob | _=>false) s.ws s.W)
    (some [(Exit.normal,s.a,s.W)]) none) none=_
  rw [e1,e2]; rfl
 ·exact h.elim
theorem zEX {ops:Array Oper} {fl:List (Nat × Value × Option CObj)} {i:Nat} {o:Oper} {a:CAct} {W:CW} {ws:List (Nat × CW)} {rd':List (Nat × Oper × CAct × Value)} {R:CRec} (hf:(fl.find? fun p=>Nat.beq p.1 i)=none) (hwt:zBo ops o a=some true):zAl P R ops fl i o ⟨a,W,ws,rd'⟩=(
      cond (zBb P o) (match cop P o a.eval W with
       | some [(.value v,_)]=>some { (⟨a,W,ws,rd'⟩:DSt) with a:=a.put o.dst v }
       | _=>none)
      (cond (zBs P o) (match cop P o a.eval W with
       | some [(.value v,_)]=>some { (⟨a,W,ws,rd'⟩:DSt) with a:=a.put o.dst v,rd:=(i,o,a,v)::rd' }
       | _=>none)
      (match cop P o a.eval W with
      | some [(.value v,W1)]=>some { (⟨a,W,ws,rd'⟩:DSt) with a:=a.put o.dst v,W:=W1,ws:=(i,W)::ws }
      | some [(.skip,W1)]=>some { (⟨a,W,ws,rd'⟩:DSt) with a:=a.put o.dst undef,W:=W1,ws:=(i,W)::ws }
      | some [(.enter f args,W1)]=>match zCs (R.call f args W1) with
       | some [(.returned v,W2)]=>some { (⟨a,W,ws,rd'⟩:DSt) with a:=a.put o.dst v,W:=W2,ws:=(i,W)::ws }
       | _=>none
      | some [(.round l args,W1)]=>match zCs (R.round l args W1) with
       | some [(.returned v,W2)]=>some { (⟨a,W,ws,rd'⟩:DSt) with a:=a.put o.dst v,W:=W2,ws:=(i,W)::ws }
       | _=>none
      | _=>none))):=by
 unfold zAl; rw [hf]; simp only [hwt]; rfl
theorem zDD {ops:Array Oper} {i0:Nat} {R:CRec} {K:List (Nat × (CW→Prop))→Prop}:∀ {rest:List Oper} {i:Nat} {sk:List Nat} {e:Env} {W:CW} {ws:List (Nat × CW)} {rd:List (Nat × (CW→Prop))} {a:CAct} {ds:List Deferred} {rd':List (Nat × Oper × CAct × Value)},
  zK6 P ops i0 i sk rest e W rd K→AE a e ds→zKz P rd rd'→∃ s rd2,zBN (zEP P R ops [] i0) i rest ⟨a,W,ws,rd'⟩=some s∧s.W=W∧s.ws=ws∧zKz P rd2 s.rd∧K rd2
 | [],i,sk,e,W,ws,rd,a,ds,rd',h,ha,hr=>⟨_,rd,rfl,rfl,rfl,hr,h⟩
 | o::rest,i,sk,e,W,ws,rd,a,ds,rd',h,ha,hr=>by
  simp only [zK6] at h
  have go:∀ {s1 s:DSt},zEP P R ops [] i0 i o ⟨a,W,ws,rd'⟩=some s1→zBN (zEP P R ops [] i0) (i+1) rest s1=some s→zBN (zEP P R ops [] i0) i (o::rest) ⟨a,W,ws,rd'⟩=some s:=by
   intro s1 s h1 h2; simp only [zBN,h1]; exact h2
  cases hn:zK3 ops i0 i with
  | true =>
   rw [hn] at h; obtain ⟨s,rd2,h1,h2,h3,h4,h5⟩:=zDD (ws:=ws) (rd':=rd') h (ha.put o.dst undef) hr; exact ⟨s,rd2,go (by unfold zEP; rw [hn]; rfl) h1,h2,h3,h4,h5⟩
  | false =>
   rw [hn] at h; simp only [cond_false] at h; have hN:zEP P R ops [] i0 i o ⟨a,W,ws,rd'⟩=zAl P R ops [] i o ⟨a,W,ws,rd'⟩:=by unfold zEP; rw [hn]; rfl
   obtain ⟨e1,ha1,h,hwt⟩:=zEp ha h
   cases hw:zBT ops o a with
   | false =>
    rw [hw] at h hwt; simp only [cond_false] at h; obtain ⟨s,rd2,h1,h2,h3,h4,h5⟩:=zDD (ws:=ws) (rd':=rd') h (ha1.put o.dst undef) hr; refine ⟨s,rd2,go ?_ h1,h2,h3,h4,h5⟩; rw [hN]; unfold zAl; simp only [List.find?_nil,hwt]
   | true =>
    rw [hw] at h hwt; simp only [cond_true] at h; have hev:=ha1.eval
    cases hp:zBb P o with
    | true =>
     rw [hp] at h; simp only [cond_true] at h
     cases hx:puO P o e1.ev with
     | none=>rw [hx] at h; exact h.elim
     | some v =>
      rw [hx] at h; obtain ⟨s,rd2,h1,h2,h3,h4,h5⟩:=zDD (ws:=ws) (rd':=rd') h (ha1.put o.dst v) hr; refine ⟨s,rd2,go ?_ h1,h2,h3,h4,h5⟩; rw [hN,zEX rfl hwt]; simp only [hp,cond_true,zL8 hp,hev,hx,vL]
    | false =>
     rw [hp] at h; simp only [cond_false] at h
     cases hrd:zBs P o with
     | true =>
      rw [hrd] at h; simp only [cond_true] at h
      cases hx:rdO P o e1.ev W with
      | none=>rw [hx] at h; exact h.elim
      | some v =>
       rw [hx] at h; obtain ⟨s,rd2,h1,h2,h3,h4,h5⟩:=zDD (ws:=ws) (rd':=(i,o,a,v)::rd') h (ha1.put o.dst v) ⟨⟨rfl,fun W' hW'=>by rw [zHK hrd,hev,hW']; rfl⟩,hr⟩; refine ⟨s,rd2,go ?_ h1,h2,h3,h4,h5⟩; rw [hN,zEX rfl hwt]; simp only [hp,hrd,cond_true,cond_false,zHK hrd,hev,hx,vL]
     | false=>rw [hrd] at h; exact h.elim
def Rch (P:Program) (L:List FuncId) (ops:Array Oper) (fl:List (Nat × Value × Option CObj)) (KP:List PanicEntry→CW→Prop) (K:Env→CW→List (Nat × CW)→List (Nat × (CW→Prop))→Prop) (ds:List Deferred) (nt n i:Nat) (rest:List Oper) (s0:DSt):Prop :=
 (∃ s e' rd2,zBw P (evC P L n) ops fl i rest s0=some s∧AE s.a e' ds∧s.a.nt=nt∧zKz P rd2 s.rd∧K e' s.W s.ws rd2) ∨
 ∃ i0 ch W2 s rd2,i≤i0∧zBl P (evC P L n) ops fl i rest s0=some (i0,ch,W2)∧zBN (zEP P (evC P L n) ops fl i0) i rest s0=some s∧(fl.isEmpty && s.ws.all fun x=>zB1 (zFO ops i0) x.1)=true∧zKz P rd2 s.rd∧zIm ops s.ws s.W rd2∧KP ch W2
theorem Rch.cons {ops:Array Oper} {fl:List (Nat × Value × Option CObj)} {KP:List PanicEntry→CW→Prop} {K:Env→CW→List (Nat × CW)→List (Nat × (CW→Prop))→Prop} {ds:List Deferred} {nt n i:Nat} {o:Oper} {rest:List Oper} {s0 s1:DSt} (hs:zAl P (evC P L n) ops fl i o s0=some s1)
  (h:Rch P L ops fl KP K ds nt n (i+1) rest s1):Rch P L ops fl KP K ds nt n i (o::rest) s0:=by
 rcases h with ⟨s,e',rd2,h1,h2⟩ | ⟨i0,ch,W2,s,rd2,h0,h1,h2,h3⟩
 ·exact .inl ⟨s,e',rd2,by simp only [zBw,hs]; exact h1,h2⟩
 ·refine .inr ⟨i0,ch,W2,s,rd2,by omega,?_,?_,h3⟩
  ·simp only [zBl]
   cases hp:zB4 P (evC P L n) ops fl i o s0 with
   | some y=>have:=zEy hp; rw [hs] at this; cases this
   | none=>simp only [hs]; exact h1
  ·simp only [zBN,zEP,zQZ (show i<i0 by omega),cond_false,hs]; exact h2
theorem Rch.up {ops:Array Oper} {fl:List (Nat × Value × Option CObj)} {KP:List PanicEntry→CW→Prop} {K:Env→CW→List (Nat × CW)→List (Nat × (CW→Prop))→Prop} {ds:List Deferred} {nt n m i:Nat} {rest:List Oper} {s0:DSt} (hle:n≤m) (h:Rch P L ops fl KP K ds nt n i rest s0):Rch P L ops fl KP K ds nt m i rest s0:=by
 rcases h with ⟨s,e',rd2,h1,h2⟩ | ⟨i0,ch,W2,s,rd2,h0,h1,h2,h3⟩
 ·exact .inl ⟨s,e',rd2,zDb (zBf hle) h1,h2⟩
 ·exact .inr ⟨i0,ch,W2,s,rd2,h0,zEG (zBf hle) h1,zED (zJm (zBf hle)) h2,h3⟩
theorem zBc {ops:Array Oper} {fl:List (Nat × Value × Option CObj)} {KP:List PanicEntry→CW→Prop} {K:Env→CW→List (Nat × CW)→List (Nat × (CW→Prop))→Prop}:∀ {rest:List Oper} {i:Nat} {sk:List Nat} {e:Env} {W:CW} {ws:List (Nat × CW)} {rd:List (Nat × (CW→Prop))} {a:CAct} {ds:List Deferred} {rd':List (Nat × Oper × CAct × Value)},
  zJx P L ops fl KP i sk rest e W ws rd K→AE a e ds→zKz P rd rd'→∃ n,Rch P L ops fl KP K ds a.nt n i rest ⟨a,W,ws,rd'⟩
 | [],i,sk,e,W,ws,rd,a,ds,rd',h,ha,hr=>⟨0,.inl ⟨_,e,rd,rfl,ha,rfl,hr,h⟩⟩
 | o::rest,i,sk,e,W,ws,rd,a,ds,rd',h,ha,hr=>by
  have nt:∀ {n:Nat} {d:Option Tmp} {v:Value} {s1:DSt},Rch P L ops fl KP K ds (a.put d v).nt n (i+1) rest s1→Rch P L ops fl KP K ds a.nt n (i+1) rest s1:=by
   intro n d v s1 hh
   rwa [CAct.put_nt] at hh
  simp only [zJx] at h
  cases hf:fl.find? fun p=>Nat.beq p.1 i with
  | some y =>
   obtain ⟨i',v,ob⟩:=y; rw [hf] at h; obtain ⟨hck,h⟩:=h; obtain ⟨n,hn⟩:=zBc (rd':=rd') h (ha.put o.dst v) hr; refine ⟨n,Rch.cons (s1:={ (⟨a,W,ws,rd'⟩:DSt) with a:=a.put o.dst v }) ?_ (nt hn)⟩; unfold zAl; rw [hf]; simp only [zJS,ha.eval,hck,cond_true]
  | none =>
   rw [hf] at h; obtain ⟨e1,ha1,h,hwt⟩:=zEp ha h
   cases hw:zBT ops o a with
   | false =>
    rw [hw] at h hwt; simp only [cond_false] at h; obtain ⟨n,hn⟩:=zBc (rd':=rd') h (ha1.put o.dst undef) hr; refine ⟨n,Rch.cons (s1:={ (⟨a,W,ws,rd'⟩:DSt) with a:=a.put o.dst undef }) ?_ (nt hn)⟩; unfold zAl; rw [hf]; simp only [hwt]
   | true =>
    rw [hw] at h hwt; simp only [cond_true] at h; have hev:=ha1.eval
    cases hp:zBb P o with
    | true =>
     rw [hp] at h; simp only [cond_true] at h
     cases hx:puO P o e1.ev with
     | none=>rw [hx] at h; exact h.elim
     | some v =>
      rw [hx] at h; obtain ⟨n,hn⟩:=zBc (rd':=rd') h (ha1.put o.dst v) hr; refine ⟨n,Rch.cons (s1:={ (⟨a,W,ws,rd'⟩:DSt) with a:=a.put o.dst v }) ?_ (nt hn)⟩; rw [zEX hf hwt]; simp only [hp,cond_true,zL8 hp,hev,hx,vL]
    | false =>
     rw [hp] at h; simp only [cond_false] at h
     cases hrd:zBs P o with
     | true =>
      rw [hrd] at h; simp only [cond_true] at h
      cases hx:rdO P o e1.ev W with
      | none=>rw [hx] at h; exact h.elim
      | some v =>
       rw [hx] at h; obtain ⟨n,hn⟩:=zBc (rd':=(i,o,a,v)::rd') h (ha1.put o.dst v) ⟨⟨rfl,fun W' hW'=>by rw [zHK hrd,hev,hW']; rfl⟩,hr⟩; refine ⟨n,Rch.cons (s1:={ (⟨a,W,ws,rd'⟩:DSt) with a:=a.put o.dst v,rd:=(i,o,a,v)::rd' }) ?_ (nt hn)⟩; rw [zEX hf hwt]; simp only [hp,hrd,cond_true,cond_false,zHK hrd,hev,hx,vL]
     | false =>
      rw [hrd] at h; simp only [cond_false] at h; obtain ⟨p,hcop,hout⟩:=zHr h; obtain ⟨nx,W1⟩:=p; rw [←hev] at hcop
      have pan:∀ {ch:List PanicEntry} {W2:CW} {n1:Nat},zB4 P (evC P L n1) ops fl i o ⟨a,W,ws,rd'⟩=some (ch,W2)→cond (zN4 o && fl.isEmpty && ws.all fun x=>zB1 (zFO ops i) x.1) (zK6 P ops i (i+1) sk rest (e1.put o.dst undef) W rd fun rd=>zIm ops ws W rd∧KP ch W2) False→∃ n,Rch P L ops fl KP K ds a.nt n i (o::rest) ⟨a,W,ws,rd'⟩:=by
       intro ch W2 n1 hpan hc; rw [cond_eq_ite] at hc; split at hc
       rotate_left
       ·exact hc.elim
       rename_i hck; simp only [Bool.and_eq_true] at hck; have hnil:fl=[]:=by simpa using hck.1.2
       subst hnil; obtain ⟨s,rd2,h1,h2,h3,h4,h5,h6⟩:=zDD (R:=evC P L n1) (ws:=ws) (rd':=rd') hc (ha1.put o.dst undef) hr
       refine ⟨n1,.inr ⟨i,ch,W2,s,rd2,Nat.le_refl _,by simp only [zBl,hpan],?_,?_,h4,by rw [h2,h3]; exact h5,h6⟩⟩
       ·have hself:zK3 ops i i=true:=by unfold zK3; simp
        simp only [zBN,zEP,hself,cond_true]; exact h1
       ·rw [h3]; simp only [hck.2,Bool.and_true]; rfl
      cases nx with
      | value v =>
       obtain ⟨n,hn⟩:=zBc (rd':=rd') (a:=a.put o.dst v) hout (ha1.put o.dst v) hr; refine ⟨n,Rch.cons (s1:={ (⟨a,W,ws,rd'⟩:DSt) with a:=a.put o.dst v,W:=W1,ws:=(i,W)::ws }) ?_ (nt hn)⟩; rw [zEX hf hwt]; simp only [hp,hrd,cond_false,hcop]
      | skip =>
       obtain ⟨n,hn⟩:=zBc (rd':=rd') (a:=a.put o.dst undef) hout (ha1.put o.dst undef) hr; refine ⟨n,Rch.cons (s1:={ (⟨a,W,ws,rd'⟩:DSt) with a:=a.put o.dst undef,W:=W1,ws:=(i,W)::ws }) ?_ (nt hn)⟩; rw [zEX hf hwt]; simp only [hp,hrd,cond_false,hcop]
      | enter f args =>
       obtain ⟨n1,y,hy,hQ⟩:=hout; obtain ⟨en,W2⟩:=y
       cases en with
       | returned v =>
        obtain ⟨n,hn⟩:=zBc (rd':=rd') (a:=a.put o.dst v) hQ (ha1.put o.dst v) hr; refine ⟨max n n1,Rch.cons (s1:={ (⟨a,W,ws,rd'⟩:DSt) with a:=a.put o.dst v,W:=W2,ws:=(i,W)::ws }) ?_ ((nt hn).up (Nat.le_max_left _ _))⟩; rw [zEX hf hwt]; simp only [hp,hrd,cond_false,hcop,zNc (Nat.le_max_right n n1) hy,zE9]
       | panicked ch =>
        refine pan (n1:=n1) ?_ hQ; unfold zB4; rw [hf]; simp only [hwt,hp,hrd,cond_false,hcop,hy]
       | outgrown=>exact hQ.elim
      | round l args =>
       obtain ⟨n1,y,hy,hQ⟩:=hout; obtain ⟨en,W2⟩:=y
       cases en with
       | returned v =>
        obtain ⟨n,hn⟩:=zBc (rd':=rd') (a:=a.put o.dst v) hQ (ha1.put o.dst v) hr; refine ⟨max n n1,Rch.cons (s1:={ (⟨a,W,ws,rd'⟩:DSt) with a:=a.put o.dst v,W:=W2,ws:=(i,W)::ws }) ?_ ((nt hn).up (Nat.le_max_left _ _))⟩; rw [zEX hf hwt]; simp only [hp,hrd,cond_false,hcop,zJ7 (Nat.le_max_right n n1) hy,zE9]
       | panicked ch =>
        refine pan (n1:=n1) ?_ hQ; unfold zB4; rw [hf]; simp only [hwt,hp,hrd,cond_false,hcop,hy]
       | outgrown=>exact hQ.elim
      | defer d=>exact hout.elim
      | recover=>exact hout.elim
      | panic v =>
       exfalso
       have hno:zN4 o=false:=by
        unfold zN4
        split
        ·rename_i c hc
         split
         ·rename_i f hcf
          exfalso
          simp only [cop,hc,hcf] at hcop
          split at hcop
          ·split at hcop
           ·cases hcop
           ·cases hcop
          ·rename_i hcc
           cases hcop
           unfold zFN at hcc; split at hcc <;> cases hcc
          ·cases hcop
         ·rfl
        ·rfl
       rw [hno] at hout; exact hout
theorem zK7 {ops:Array Oper} {a:CAct} {e:Env} {ds:List Deferred} {W:CW} {K:Env→CW→Prop} {KP:List PanicEntry→CW→Prop} (h:zPw P L ops e W K KP) (ha:AE a e ds) :
  ∃ n,(∃ a' W' e',zEL P (evC P L n) ops a W=some [(.normal,a',W')]∧AE a' e' ds∧a'.nt=a.nt∧K e' W')∨∃ ch W',zEL P (evC P L n) ops a W=some [(.panic ch,a.bad,W')]∧KP ch W':=by
 unfold zPw at h; rw [←ha.eval,←zFf] at h
 split at h
 ·rename_i fl W1 hpre; obtain ⟨n,hn⟩:=zBc (ds:=ds) (rd':=[]) h ha trivial; refine ⟨n,?_⟩
  rcases hn with ⟨s,e',rd2,h1,h2,h3,h4,h5,h6,h7⟩ | ⟨i0,ch,W2,s,rd2,h0,h1,h2,h3,h4,h5,h6⟩
  ·refine .inl ⟨s.a,s.W,e',?_,h2,h3,h7⟩; unfold zEL; rw [hpre]; simp only [h1]; have e1:=zGW (L:=L) (n:=n) h5 h4; have e2:=zKv h6
   show cond (s.rd.all fun (i,o,a,v)=>zBa ops i (zFO ops i) (fun W=>match cop P o a.eval W with | some [(.value u,_)]=>(evC P L n).eqv u v | _=>false) s.ws s.W)
    (cond (fl.all fun (i,v,ob)=>zBa ops i (zFO ops i) (fun W=>match v with | .pointer (some b)=>zBJ (W.obj b.block) ob | .map (some b)=>zBJ (W.obj b) ob | .slice (some b) _ _=>zBJ (W.obj b.block) ob | _=>false) s.ws s.W)
     (some [(Exit.normal,s.a,s.W)]) none) none=_
   rw [e1,e2]; rfl
  ·refine .inr ⟨ch,W2,?_,h6⟩; unfold zEL; rw [hpre]; simp only [zEF h1,h1,h2,h3,cond_true]; have e1:=zGW (L:=L) (n:=n) h5 h4; show cond (s.rd.all fun (i,o,a,v)=>zBa ops i (zFO ops i) (fun W=>match cop P o a.eval W with | some [(.value u,_)]=>(evC P L n).eqv u v | _=>false) s.ws s.W) (some [(Exit.panic ch,a.bad,W2)]) none=_; rw [e1]; rfl
 ·exact h.elim
end
end Go.Ce
namespace Go.Ce
section
variable {P:Program} {L:List FuncId}
theorem zC6 (n:Nat):evC P L (n+1)=zBD P L (evC P L n):=rfl
theorem zB0 {α β:Type} {x:α} {f:α→Option (List β)} {y:List β} (h:f x=some y):zBZ (some [x]) f=some y:=zAi x f h
theorem zCE {ro:Option Nat} {fn:FuncId} {nt:Nat}:∀ {c:Code} {e:Env} {ds:List Deferred} {W:CW} {K:Exit→Env→List Deferred→CW→Prop},zAJ P L ro fn nt c e ds W K→zCg P L ro fn nt c e ds W K:=by
 intro c
 induction c with
 | skip =>
  intro e ds W K h a ha hn; exact ⟨1,(.normal,a,W),rfl,e,by rw [ha.2]; exact ha,hn,by rw [ha.2]; exact h⟩
 | label id =>
  intro e ds W K h a ha hn; exact ⟨1,(.normal,a,W),rfl,e,by rw [ha.2]; exact ha,hn,by rw [ha.2]; exact h⟩
 | exit id =>
  intro e ds W K h a ha hn; exact ⟨1,(.exit id,a,W),rfl,e,by rw [ha.2]; exact ha,hn,by rw [ha.2]; exact h⟩
 | ret =>
  intro e ds W K h a ha hn; exact ⟨1,(.ret,a,W),rfl,e,by rw [ha.2]; exact ha,hn,by rw [ha.2]; exact h⟩
 | region id ops d =>
  intro e ds W K h a ha hn
  cases d with
  | false =>
   obtain ⟨n,o,e',h1,h2,h3,h4⟩:=zCa h ha; exact ⟨n+1,o,h1,e',h2,by rw [h3,hn],h4⟩
  | true =>
   simp only [zAJ] at h
   cases hm:zB1 L (fn+1500000) with
   | false =>
    rw [hm] at h; obtain ⟨n,a',W',e',h1,h2,h3,h4⟩:=zMZ h ha; exact ⟨n+1,(.normal,a',W'),h1,e',by rw [h2.2]; exact h2,by rw [←hn]; exact h3,by rw [h2.2]; exact h4⟩
   | true =>
    rw [hm] at h
    obtain ⟨n,⟨a',W',e',h1,h2,h3,h4⟩ | ⟨ch,W',h1,h4⟩⟩:=zK7 h ha
    ·exact ⟨n+1,(.normal,a',W'),h1,e',by rw [h2.2]; exact h2,by rw [←hn]; exact h3,by rw [h2.2]; exact h4⟩
    ·refine ⟨n+1,(.panic ch,a.bad,W'),h1,Env.bad,⟨fun t=>?_,rfl⟩,hn,by show K (.panic ch) Env.bad a.defers W'; rw [ha.2]; exact h4⟩; show (CAct.bad a).at t=Env.bad t; unfold CAct.bad CAct.at Env.bad; simp only [Tr.get_set,Tr.get_nil,cond_eq_ite,Nat.beq_eq]; split <;> rfl
 | seq x y ihx ihy =>
  intro e ds W K h a ha hn; obtain ⟨n,⟨x1,a1,W1⟩,h1,e1,h2,h3,h4⟩:=ihx h a ha hn
  cases x1 with
  | normal =>
   obtain ⟨m,o,h5,h6⟩:=ihy h4 a1 h2 h3; refine ⟨max n m+1,o,?_,h6⟩; show zHC ((evC P L (max n m)).code ro fn x a W) ((evC P L (max n m)).code ro fn y)=some [o]; rw [zCz (Nat.le_max_left n m) h1]; exact zB0 (zCz (Nat.le_max_right n m) h5)
  | _ =>
   refine ⟨n+1,_,?_,e1,h2,h3,h4⟩; show zHC ((evC P L n).code ro fn x a W) ((evC P L n).code ro fn y)=_; rw [h1]; exact zB0 rfl
 | cond c x y ihx ihy =>
  intro e ds W K h a ha hn; obtain ⟨b,hb,h⟩:=zPv h; have hc:a.eval c=.bool b:=by rw [ha.eval]; exact hb
  cases b with
  | true =>
   obtain ⟨n,o,h1,h2⟩:=ihx h a ha hn; refine ⟨n+1,o,?_,h2⟩; show (match a.eval c with | .bool b=>(evC P L n).code ro fn (cond b x y) a W | _=>none)=_; rw [hc]; exact h1
  | false =>
   obtain ⟨n,o,h1,h2⟩:=ihy h a ha hn; refine ⟨n+1,o,?_,h2⟩; show (match a.eval c with | .bool b=>(evC P L n).code ro fn (cond b x y) a W | _=>none)=_; rw [hc]; exact h1
 | block id b ih =>
  intro e ds W K h a ha hn; obtain ⟨n,⟨x1,a1,W1⟩,h1,e1,h2,h3,h4⟩:=ih h a ha hn
  have key:∀ {r:Exit × CAct × CW} {f:Exit × CAct × CW→zK0},(∀ e a W,f (e,a,W)=match e with
    | .exit id'=>cond (Nat.beq id' id) (some [(.normal,a,W)]) (some [(.exit id',a,W)])
    | e=>some [(e,a,W)])→f (x1,a1,W1)=some [r]→(evC P L (n+1)).code ro fn (.block id b) a W=some [r]:=by
   intro r f hf hr
   show (zBZ ((evC P L n).code ro fn b a W) fun (e,a,W)=>match e with
    | .exit id'=>cond (Nat.beq id' id) (some [(.normal,a,W)]) (some [(.exit id',a,W)])
    | e=>some [(e,a,W)])=_
   rw [h1]; refine zB0 ?_; rw [←hr,hf]
  cases x1 with
  | exit id' =>
   cases hq:Nat.beq id' id with
   | true =>
    simp only [zBm,hq,cond_true] at h4
    exact ⟨n+1,(.normal,a1,W1),key (f:=fun (e,a,W)=>match e with
     | .exit id'=>cond (Nat.beq id' id) (some [(.normal,a,W)]) (some [(.exit id',a,W)])
     | e=>some [(e,a,W)]) (fun e a W=>by cases e <;> rfl) (by simp only [hq,cond_true]),e1,h2,h3,h4⟩
   | false =>
    simp only [zBm,hq,cond_false] at h4
    exact ⟨n+1,(.exit id',a1,W1),key (f:=fun (e,a,W)=>match e with
     | .exit id'=>cond (Nat.beq id' id) (some [(.normal,a,W)]) (some [(.exit id',a,W)])
     | e=>some [(e,a,W)]) (fun e a W=>by cases e <;> rfl) (by simp only [hq,cond_false]),e1,h2,h3,h4⟩
  | _=>exact ⟨n+1,_,key (f:=fun (e,a,W)=>match e with
     | .exit id'=>cond (Nat.beq id' id) (some [(.normal,a,W)]) (some [(.exit id',a,W)])
     | e=>some [(e,a,W)]) (fun e a W=>by cases e <;> rfl) rfl,e1,h2,h3,h4⟩
 | scope b ih =>
  intro e ds W K h a ha hn; obtain ⟨n,o,h1,h2⟩:=ih h a ha hn; exact ⟨n+1,o,h1,h2⟩
 | _=>intro e ds W K h; exact h
theorem zWu {ro:Option Nat} {fn:FuncId} {nt:Nat} {b:Code} {K:Exit→Env→List Deferred→CW→Prop} (Inv:Nat→Env→List Deferred→CW→Prop)
  (hstep:∀ k e ds W,Inv k e ds W→zAJ P L ro fn nt b e ds W fun x e' ds' W'=>match x with
   | .normal=>∃ k',k'<k∧Inv k' e' ds' W'
   | x=>K x e' ds' W'):∀ k e ds W,Inv k e ds W→zCg P L ro fn nt (.loop b) e ds W K:=by
 intro k
 induction k using Nat.strongRecOn with
 | ind k ih =>
  intro e ds W hi a ha hn; obtain ⟨n,⟨x1,a1,W1⟩,h1,e1,h2,h3,h4⟩:=zCE (hstep k e ds W hi) a ha hn
  cases x1 with
  | normal =>
   obtain ⟨k',hk,hi'⟩:=h4; obtain ⟨m,o,h5,h6⟩:=ih k' hk e1 a1.defers W1 hi' a1 h2 h3; refine ⟨max n m+1,o,?_,h6⟩; show zHC ((evC P L (max n m)).code ro fn b a W) ((evC P L (max n m)).code ro fn (.loop b))=some [o]; rw [zCz (Nat.le_max_left n m) h1]; exact zB0 (zCz (Nat.le_max_right n m) h5)
  | _ =>
   refine ⟨n+1,_,?_,e1,h2,h3,h4⟩; show zHC ((evC P L n).code ro fn b a W) ((evC P L n).code ro fn (.loop b))=_; rw [h1]; exact zB0 rfl
def Env.args (args:List Value):Env:=fun t=>match args[t]? with
 | some v=>v
 | none=>undef
theorem zKs (fn:Func) (args:List Value):AE (zDc fn args) (Env.args args) []:=by
 refine ⟨fun t=>?_,rfl⟩; unfold zDc CAct.at Env.args; simp only [Tr.get_putFrom,Nat.zero_le,true_and,Nat.zero_add,Nat.sub_zero,Tr.get_nil]
 by_cases h:t<args.length
 ·rw [if_pos h,List.getElem?_eq_getElem h]; rfl
 ·rw [if_neg h,List.getElem?_eq_none (by omega)]; rfl
def zU1 (P:Program) (r:ResultVar) (e:Env) (W:CW):Option Value:=match r with
 | .tmp t=>some (e t)
 | .cell s ty=>match e s with
  | .pointer (some p)=>zHY P ty p W
  | _=>none
def zFu (P:Program):List ResultVar→Env→CW→Option (List Value)
 | [],_,_=>some []
 | r::rs,e,W=>match zU1 P r e W with
  | some v=>match zFu P rs e W with
   | some vs=>some (v::vs)
   | none=>none
  | none=>none
def zBB (P:Program) (rs:List ResultVar) (e:Env) (W:CW):Option Value:=match zFu P rs e W with
 | some [v]=>some v
 | some vs=>some (.tuple vs.toArray)
 | none=>none
theorem zVI {a:CAct} {e:Env} {ds:List Deferred} (h:AE a e ds) (t:Tmp):(match a.t.get t with | some v=>v | none=>undef)=e t:=by
 rw [←h.1 t]; unfold CAct.at
 cases a.t.get t <;> rfl
theorem zUX {a:CAct} {e:Env} {ds:List Deferred} (h:AE a e ds) {t:Tmp} {p:Addr} (hp:e t=.pointer (some p)):a.t.get t=some (.pointer (some p)):=by
 have:=h.1 t; rw [hp] at this; unfold CAct.at at this
 cases hg:a.t.get t with
 | none=>rw [hg] at this; cases this
 | some v=>rw [hg] at this; exact congrArg some this
theorem zJE {a:CAct} {e:Env} {ds:List Deferred} (ha:AE a e ds) {W:CW}:∀ {rs:List ResultVar} {vs:List Value},zFu P rs e W=some vs→rs.mapM (zDk P a W)=some vs
 | [],vs,h=>by simpa [zFu] using h
 | r::rs,vs,h=>by
  simp only [zFu] at h
  split at h
  ·rename_i v hv
   split at h
   ·rename_i vs' hvs
    cases h
    have h1:zDk P a W r=some v:=by
     unfold zU1 at hv; unfold zDk
     split at hv
     ·rename_i t; show some (match a.t.get t with | some v=>v | none=>undef)=some v; rw [zVI ha]; exact hv
     ·rename_i s ty
      split at hv
      ·rename_i p hp; show (match a.t.get s with | some (.pointer (some p))=>zHY P ty p W | _=>none)=some v; rw [zUX ha hp]; exact hv
      ·cases hv
    simp only [List.mapM_cons,h1,zJE ha hvs]; rfl
   ·cases h
  ·cases h
theorem zGk {fn:Func} {a:CAct} {e:Env} {ds:List Deferred} (ha:AE a e ds) {W:CW} {v:Value} (h:zBB P fn.results.toList e W=some v):zCj P fn a W=some v:=by
 unfold zBB at h; unfold zCj
 cases hr:zFu P fn.results.toList e W with
 | none=>rw [hr] at h; cases h
 | some vs =>
  rw [hr] at h; rw [zJE ha hr]
  match vs,h with
  | [],h=>exact h
  | [v],h=>exact h
  | _::_::_,h=>exact h
def zAE (P:Program) (fn:Func) (Q:Ending→CW→Prop) (x:Exit) (e:Env):List Deferred→CW→Prop
 | [],W=>match x with
  | .normal=>wV (zBB P fn.results.toList e W) fun v=>Q (.returned v) W
  | .ret=>wV (zBB P fn.results.toList e W) fun v=>Q (.returned v) W
  | .panic ch=>Q (.panicked ch) W
  | _=>False
 | d::ds,W=>match d.target with
  | .collected r=>W.obj r=some .deferred∧zAE P fn Q x e ds (W.upd r .dead)
  | _=>False
def behind (P:Program) (R:CRec) (fn:Func) (x:Exit) (a:CAct) (W:CW):zRv:=match x with
 | .normal=>zA0 P R fn a a.defers .returning W
 | .ret=>zA0 P R fn a a.defers .returning W
 | .panic ch=>cond a.isBad (zCw a.defers ch W) (zA0 P R fn a a.defers (.panicking ch) W)
 | _=>none
theorem zJK {fn:Func} {e:Env} {Q:Ending→CW→Prop} {ch:List PanicEntry}:∀ (ds:List Deferred) (W:CW),zAE P fn Q (.panic ch) e ds W→∃ o:Ending × CW,zCw ds ch W=some [o]∧Q o.1 o.2
 | [],W,h=>⟨(.panicked ch,W),rfl,h⟩
 | d::ds,W,h=>by
  obtain ⟨tg,argz⟩:=d
  cases tg with
  | collected r =>
   obtain ⟨ho,h⟩:=h; obtain ⟨o,h1,h2⟩:=zJK ds (W.upd r .dead) h; exact ⟨o,by simp only [zCw,ho]; exact h1,h2⟩
  | _=>exact h.elim
theorem zIB {fn:Func} {a:CAct} {e:Env} {Q:Ending→CW→Prop} {R:CRec} (ha:AE a e a.defers) (x:Exit):∀ (ds:List Deferred) (W:CW),zAE P fn Q x e ds W→∃ o:Ending × CW,(match x with
  | .normal=>zA0 P R fn a ds .returning W
  | .ret=>zA0 P R fn a ds .returning W
  | .panic ch=>zA0 P R fn a ds (.panicking ch) W
  | _=>none)=some [o]∧Q o.1 o.2
 | [],W,h=>by
  have fin:wV (zBB P fn.results.toList e W) (fun v=>Q (.returned v) W)→∃ o:Ending × CW,zA0 P R fn a [] .returning W=some [o]∧Q o.1 o.2:=by
   intro hw
   cases hv:zBB P fn.results.toList e W with
   | none=>rw [hv] at hw; exact hw.elim
   | some v =>
    rw [hv] at hw; exact ⟨(.returned v,W),by simp only [zA0,zGk ha hv],hw⟩
  cases x with
  | normal=>exact fin h
  | ret=>exact fin h
  | panic ch=>exact ⟨(.panicked ch,W),rfl,h⟩
  | exit id=>exact h.elim
  | goto id=>exact h.elim
  | outgrown=>exact h.elim
 | d::ds,W,h=>by
  obtain ⟨tg,argz⟩:=d
  cases tg with
  | collected r =>
   obtain ⟨ho,h⟩:=h; obtain ⟨o,h1,h2⟩:=zIB ha x ds (W.upd r .dead) h; refine ⟨o,?_,h2⟩
   cases x <;> first | (simp only [zA0,ho]; exact h1) | exact h1
  | _=>exact h.elim
theorem zOm {f:FuncId} {fn:Func} {c:Code} {args:List Value} {W:CW} {Q:Ending→CW→Prop} (hL:zB1 L f=true) (hL2:zB1 L (f+1000000)=false) (hL3:zB1 L (f+2000000)=false) (hf:P.funcs[f]?=some fn) (hc:fn.body=some c)
  (hle:Nat.ble args.length fn.ntmps=true) (h:zAJ P L none f fn.ntmps c (Env.args args) [] W (zAE P fn Q)):WCall P L f args W Q:=by
 obtain ⟨n,⟨x,a,W1⟩,h1,e,h2,h3,h4⟩:=zCE h (zDc fn args) (zKs fn args) rfl
 have key:∀ {o:Ending × CW},behind P (evC P L n) fn x a W1=some [o]→(evC P L (n+1)).call f args W=some [o]:=by
  intro o ho; rw [zC6]; simp only [zBD,hL,hL2,hL3,hf,hc,hle,Bool.not_true,cond_false,cond_true,Bool.false_and]; rw [h1]; refine zB0 ?_; rw [←ho]
  cases x <;> rfl
 simp only at h2 h4
 cases hb:a.isBad with
 | false =>
  obtain ⟨o,e1,e2⟩:=zIB (R:=evC P L n) h2 x a.defers W1 h4; exact ⟨n+1,o,key (by unfold behind; cases x <;> first | exact e1 | (simp only [hb,cond_false]; exact e1)),e2⟩
 | true =>
  cases x with
  | panic ch =>
   obtain ⟨o,e1,e2⟩:=zJK a.defers W1 h4; exact ⟨n+1,o,key (by unfold behind; simp only [hb,cond_true]; exact e1),e2⟩
  | _ =>
   obtain ⟨o,e1,e2⟩:=zIB (R:=evC P L n) h2 _ a.defers W1 h4; exact ⟨n+1,o,key (by unfold behind; exact e1),e2⟩
theorem WCall.mono {f:FuncId} {args:List Value} {W:CW} {Q Q':Ending→CW→Prop} (h:WCall P L f args W Q) (hq:∀ e W,Q e W→Q' e W):WCall P L f args W Q':=by
 obtain ⟨n,o,h1,h2⟩:=h; exact ⟨n,o,h1,hq _ _ h2⟩
theorem WRound.mono {l:Nat} {args:List Value} {W:CW} {Q Q':Ending→CW→Prop} (h:WRound P L l args W Q) (hq:∀ e W,Q e W→Q' e W):WRound P L l args W Q':=by
 obtain ⟨n,o,h1,h2⟩:=h; exact ⟨n,o,h1,hq _ _ h2⟩
theorem zFb {f:FuncId} {W:CW} (hL:zB1 L f=true) (hL3:zB1 L (f+2000000)=true) {Q:Ending→CW→Prop} (h:Q (.returned (.bool true)) W):WCall P L f [] W Q:=by
 refine ⟨1,(.returned (.bool true),W),?_,h⟩; rw [zC6]; simp only [zBD,hL,hL3,Bool.not_true,cond_false,List.isEmpty_nil,Bool.and_self,cond_true]
end
end Go.Ce
namespace Go.Ce
open Go.RowKit (Below)
def Tr.sets {α:Type} (t:Tr α):List (Nat × α)→Tr α
 | []=>t
 | p::ps=>(t.set p.1 p.2).sets ps
def Tr.of {α:Type} (l:List (Nat × α)):Tr α:=Tr.nil.sets l
def CW.sets (W:CW) (l:List (Nat × CObj)) (n:Nat):CW:=⟨W.h.sets l,n⟩
def zIo (l:List (Nat × Value)) (n:Nat):CAct:=⟨Tr.of l,n,[]⟩
def steps:Code→List Code
 | .seq x y=>steps x++steps y
 | c=>[c]
def zIy:Code→Nat
 | .seq x y=>zIy x+zIy y+1
 | _=>0
def zAG (P:Program) (f:FuncId):Code:=match P.funcs[f]? with
 | some fn=>match fn.body with
  | some c=>c
  | none=>.skip
 | none=>.skip
def zBd (P:Program) (f:FuncId):List Code:=steps (zAG P f)
def zAt (R:CRec) (ro:Option Nat) (fn:FuncId):List Code→CAct→CW→zK0
 | [],a,W=>some [(.normal,a,W)]
 | c::cs,a,W=>zHC (R.code ro fn c a W) (zAt R ro fn cs)
def zCQ:Code→List (Code × Code)
 | .seq x y=>zCQ x++zCQ y
 | .cond _ x y=>zCQ x++zCQ y
 | .block _ b=>zCQ b
 | .scope b=>zCQ b
 | .loop b=>zCQ b
 | .rangeFunc _ _ a b=>(a,b)::(zCQ a++zCQ b)
 | _=>[]
def rfA (P:Program) (f:FuncId) (k:Nat):Code:=match (zCQ (zAG P f))[k]? with
 | some p=>p.1
 | none=>.skip
def rfB (P:Program) (f:FuncId) (k:Nat):Code:=match (zCQ (zAG P f))[k]? with
 | some p=>p.2
 | none=>.skip
section
variable {P:Program} {L:List FuncId}
theorem zHM {α β:Type} (f:α→Option (List β)):∀ (l m:List α),zC8 f (l++m)=(zC8 f l).bind fun x=>(zC8 f m).bind fun y=>some (x++y)
 | [],m=>by cases h:zC8 f m <;> simp [zC8,h]
 | x::l,m=>by
  simp only [List.cons_append,zC8,zHM f l m]
  cases f x <;> simp
  cases zC8 f l <;> simp
  cases zC8 f m <;> simp
theorem zNd {α β γ:Type} (o:Option (List α)) (f:α→Option (List β)) (g:β→Option (List γ)):zBZ (zBZ o f) g=zBZ o fun x=>zBZ (f x) g:=by
 cases o with
 | none=>rfl
 | some l =>
  simp only [zBZ]
  induction l with
  | nil=>rfl
  | cons x l ih =>
   simp only [zC8]
   cases hx:f x with
   | none=>rfl
   | some y =>
    simp only
    cases hl:zC8 f l with
    | none =>
     rw [hl] at ih; simp only at ih ⊢
     cases zC8 g y with
     | none=>rfl
     | some z=>simp only [←ih]
    | some m =>
     rw [hl] at ih; simp only at ih ⊢; rw [zHM,←ih]
     cases zC8 g y <;> simp
     cases zC8 g m <;> simp
theorem zPh {α:Type} (o:Option (List α)):zBZ o (fun x=>some [x])=o:=by
 cases o with
 | none=>rfl
 | some l =>
  simp only [zBZ]
  induction l with
  | nil=>rfl
  | cons x l ih=>simp [zC8,ih]
theorem zOy (o:zK0) (f g:CAct→CW→zK0):zHC (zHC o f) g=zHC o fun a W=>zHC (f a W) g:=by
 unfold zHC; rw [zNd]; congr 1; funext ⟨e,a,W⟩
 cases e <;> rfl
theorem zQH (o:zK0):zHC o (fun a W=>some [(.normal,a,W)])=o:=by
 unfold zHC
 have:(fun (x:Exit × CAct × CW)=>match x with
  | (e,a,W)=>match e with
   | .normal=>some [(Exit.normal,a,W)]
   | e=>some [(e,a,W)])=fun x=>some [x]:=by
  funext ⟨e,a,W⟩
  cases e <;> rfl
 exact (congrArg (zBZ o) this).trans (zPh o)
theorem zDj {R:CRec} {ro:Option Nat} {fn:FuncId}:∀ (xs ys:List Code) (a:CAct) (W:CW),zAt R ro fn (xs++ys) a W=zHC (zAt R ro fn xs a W) (zAt R ro fn ys)
 | [],ys,a,W=>by
  simp only [List.nil_append,zAt,zHC]; unfold zBZ; simp [zC8]
  cases zAt R ro fn ys a W <;> simp
 | x::xs,ys,a,W=>by
  simp only [List.cons_append,zAt]; rw [zOy]; congr 1; funext a W; exact zDj xs ys a W
theorem zII {n m:Nat} (h:n≤m) {ro:Option Nat} {fn:FuncId}:∀ {cs:List Code} {a:CAct} {W:CW} {o:List (Exit × CAct × CW)},zAt (evC P L n) ro fn cs a W=some o→zAt (evC P L m) ro fn cs a W=some o
 | [],a,W,o,e=>e
 | c::cs,a,W,o,e=>by
  simp only [zAt] at e ⊢; exact zEY (.refl (CRec.base fun _ _=>false)) (fun l hl=>zCz h hl) (fun a W r hr=>zII h hr) e
theorem zQv:∀ (c:Code) {n:Nat} {ro:Option Nat} {fn:FuncId} {a:CAct} {W:CW} {o:List (Exit × CAct × CW)},zAt (evC P L n) ro fn (steps c) a W=some o→(evC P L (n+zIy c)).code ro fn c a W=some o:=by
 intro c
 induction c with
 | seq x y ihx ihy =>
  intro n ro fn a W o h; simp only [steps] at h; rw [zDj] at h; show (evC P L (n+(zIy x+zIy y)+1)).code ro fn (.seq x y) a W=some o; show zHC ((evC P L (n+(zIy x+zIy y))).code ro fn x a W) ((evC P L (n+(zIy x+zIy y))).code ro fn y)=some o; exact zEY (.refl (CRec.base fun _ _=>false)) (fun l hl=>zCz (by omega) (ihx hl)) (fun a W r hr=>zCz (by omega) (ihy hr)) h
 | _ =>
  intro n ro fn a W o h; simp only [steps,zAt] at h; rw [←h]; exact (zQH _).symm
theorem zUi (n:Nat):(evN P L n).Le (evC P L n):=zRW (fun {u v} h=>by rw [zCm 8 u v h]; exact @decide_eq_true _ (Classical.propDecidable _) rfl) n
theorem zQw {n:Nat} {ro:Option Nat} {fn:FuncId}:∀ {cs:List Code} {a:CAct} {W:CW} {o:List (Exit × CAct × CW)},zAt (evN P L n) ro fn cs a W=some o→zAt (evC P L n) ro fn cs a W=some o
 | [],a,W,o,e=>e
 | c::cs,a,W,o,e=>by
  simp only [zAt] at e ⊢; exact zEY (.refl (CRec.base fun _ _=>false)) (fun l hl=>(zUi n).code hl) (fun a W r hr=>zQw hr) e
def FlatAt (P:Program) (L:List FuncId) (f:FuncId) (i:Nat) (a:CAct) (W:CW) (x:Exit) (a':CAct) (W':CW):Prop:=∃ n,zAt (evC P L n) none f ((zBd P f).drop i) a W=some [(x,a',W')]
theorem FlatAt.seg {f:FuncId} {i:Nat} (j n:Nat) {a a1 a2:CAct} {W W1 W2:CW} {x:Exit} (h:zAt (evN P L n) none f (((zBd P f).drop i).take j) a W=some [(.normal,a1,W1)]) (hk:FlatAt P L f (i+j) a1 W1 x a2 W2):FlatAt P L f i a W x a2 W2:=by
 obtain ⟨m,hm⟩:=hk; refine ⟨max n m,?_⟩
 have e:(zBd P f).drop i=((zBd P f).drop i).take j++(zBd P f).drop (i+j):=by
  rw [←List.drop_drop,List.take_append_drop]
 rw [e,zDj,zII (Nat.le_max_left n m) (zQw h)]; show zHC (some [(.normal,a1,W1)]) _=_; unfold zHC; exact zAi _ _ (zII (Nat.le_max_right n m) hm)
theorem FlatAt.end {f:FuncId} {i:Nat} (n:Nat) {a a1:CAct} {W W1:CW} {x:Exit} (h:zAt (evN P L n) none f ((zBd P f).drop i) a W=some [(x,a1,W1)]):FlatAt P L f i a W x a1 W1:=⟨n,zQw h⟩
theorem FlatAt.call {f:FuncId} {fn:Func} {a:CAct} {W W1:CW} {v:Value} {args:List Value} (hL:zB1 L f=true) (hL2:zB1 L (f+1000000)=false) (hL3:zB1 L (f+2000000)=false) (hf:P.funcs[f]?=some fn) (hb:fn.body.isSome=true)
  (hle:Nat.ble args.length fn.ntmps=true) (h:FlatAt P L f 0 (zDc fn args) W .ret a W1) (hd:a.defers=[]) (hv:zCj P fn a W1=some v):∃ n,(evC P L n).call f args W=some [(.returned v,W1)]:=by
 obtain ⟨n,h⟩:=h
 cases hc:fn.body with
 | none=>rw [hc] at hb; cases hb
 | some c =>
  have hbo:zAG P f=c:=by unfold zAG; rw [hf]; simp only [hc]
  rw [List.drop_zero] at h; unfold zBd at h; rw [hbo] at h; have h1:=zQv c h; refine ⟨n+zIy c+1,?_⟩; rw [zC6]; simp only [zBD,hL,hL2,hL3,hf,hc,hle,Bool.not_true,cond_false,cond_true,Bool.false_and]; rw [h1]; refine zAi _ _ ?_; show zA0 P _ fn a a.defers .returning W1=_; rw [hd]; simp only [zA0,hv]
theorem zL9 (hz:ZP P) (hmix:P.follows .mixedOrders=true) (hEN:EN P) (hCK:CK P L) {f:FuncId} {n:Nat} (h:zG8 ((evC P L n).call f [] (W0 0))=true) (w:World) (k:Nat) :
  CallsIn (F0 P) k P f #[] w (fun e w'=>e=.returned (.bool true)∧Below w.heap.size w w'):=by
 have hw:WRel P w (fun _=>none) (W0 0) w:=⟨(fun i x hx=>by cases hx),(fun i o ho=>by cases ho),(fun i o x ho=>by cases ho),(fun i j o u x y ho=>by cases ho),Below.refl' w⟩
 cases ho:(evC P L n).call f [] (W0 0) with
 | none=>rw [ho] at h; cases h
 | some outs =>
  rw [ho] at h; obtain ⟨_,hc⟩:=(zQI (w0:=w) hz hmix hEN hCK n).call ho (args':=#[]) (.nil _) hw; refine (hc k).mono fun e w' hE=>?_; obtain ⟨e0,W2,ρ2,hm,_,hN,hw2⟩:=hE; have:=List.all_eq_true.1 h _ hm; simp only at this
  cases hN with
  | returned hv =>
   split at this
   ·rename_i heq
    cases heq
    cases hv
    exact ⟨rfl,hw2.below⟩
   ·cases this
  | panicked _=>cases this
end
end Go.Ce
namespace Go.Ce
def Env.of (b:Env):List (Nat × Value)→Env
 | []=>b
 | p::l=>fun t=>cond (Nat.beq t p.1) p.2 (Env.of b l t)
theorem eKc (b:Env) (d:Nat) (v:Value) (l:List (Nat × Value)) (t:Nat):Env.of b ((d,v)::l) t=if t=d then v else Env.of b l t:=by
 simp only [Env.of,cond_eq_ite,Nat.beq_eq]
theorem eKn (b:Env) (t:Nat):Env.of b [] t=b t:=rfl
def zDf:Code→List Code
 | .seq x y=>zDf x++zDf y
 | .cond _ x y=>zDf x++zDf y
 | .block _ b=>zDf b
 | .scope b=>zDf b
 | .loop b=>b::zDf b
 | .rangeFunc _ _ a b=>zDf a++zDf b
 | _=>[]
def zAS (P:Program) (f:FuncId) (k:Nat):Code:=match (zDf (zAG P f))[k]? with
 | some c=>c
 | none=>.skip
def mkm (W:CW):Option (Value × CW):=some (.map (some W.sz),W.new (.map [] 0))
def zYf (v:Value) (K:List PanicEntry→Prop):Prop:=match v with
 | .iface t y=>K [{ v:=.iface t y,recovered:=false }]
 | _=>False
section
variable {P:Program} {L:List FuncId}
theorem zAM {f:FuncId} {fn:Func} {args:List Value} {W:CW} {Q:Ending→CW→Prop} (hf:P.funcs[f]?=some fn) (hb:fn.body.isSome=true) (hL:zB1 L f=true) (hL2:zB1 L (f+1000000)=false) (hL3:zB1 L (f+2000000)=false)
  (hle:Nat.ble args.length fn.ntmps=true) (h:zAJ P L none f fn.ntmps (zAG P f) (Env.args args) [] W (zAE P fn Q)):WCall P L f args W Q:=by
 cases hc:fn.body with
 | none=>rw [hc] at hb; cases hb
 | some c =>
  have hbo:zAG P f=c:=by unfold zAG; rw [hf]; simp only [hc]
  rw [hbo] at h; exact zOm hL hL2 hL3 hf hc hle h
end
end Go.Ce
namespace Go.Ce
def pkL:List FuncId:=[16+2000000]++([1500072,1500074,1500121]++(List.range 162).filter fun f=>Nat.ble 3 f && !Nat.beq f 7)
end Go.Ce
namespace Go.Ce
open Go Go.Proofs Go.Proofs.Tryz
def zVL (ro:Option Nat) (K:zAI):zAI:=zA5 (fun e ds W=>WCall prog pkL 16 [] W (zAK (fun v238 W4=>K .ret (Env.of e [(8,v238),(238,v238)]) ds W4) (fun ch5 W5=>K (.panic ch5) e ds W5))) K
def zQ0 (ro:Option Nat) (K:zAI):zAI:=zA5 (fun e ds W=>zCg prog pkL ro 8 239 (.loop (zAS prog 8 0)) (Env.of e [(14,(.int .i64 0))]) ds W (zBm 0 (zVL ro K))) K
def zND (ro:Option Nat) (K:zAI):zAI:=zA5 (fun e ds W=>wI (e 96) ((zQ0 ro K) .ret (Env.of e [(8,(.bool false))]) ds W) ((zQ0 ro K) .normal e ds W)) (zQ0 ro K)
def zFG (E:Env) (x0 x1 x2:Value):Env:=Env.of E [(53,x2),(52,x1),(51,x0)]
def zGI (E:Env) (v54 v55 v56 v57 v59:Value):Env:=Env.of E [(60,v59),(59,v59),(58,v57),(13,v57),(12,v56),(11,v55),(57,v57),(56,v56),(55,v55),(50,v54),(54,v54)]
def zHh (E:Env) (v56 v62:Value):Env:=Env.of E [(64,v62),(63,v62),(62,v62),(60,(.bool false)),(61,v56),(60,(.bool false))]
def zKU (E:Env) (v55 v66 v67:Value):Env:=Env.of E [(69,v67),(68,v67),(67,v67),(64,(.bool false)),(66,v66),(64,(.bool false)),(65,v55),(64,(.bool false))]
def zOF (E:Env) (v55 v71 v72 v73 v76 v77 v78 v79 v80 x0 x1:Value):Env:=Env.of E [(82,v80),(81,v80),(80,v80),(69,(.bool false)),(79,v79),(69,(.bool false)),(78,v78),(69,(.bool false)),(77,v77),(69,(.bool false)),(76,v76),(69,(.bool false)),(75,x1),(69,(.bool false)),(74,x0),(69,(.bool false)),(73,v73),(69,(.bool false)),(72,v72),(69,(.bool false)),(71,v71),(69,(.bool false)),(70,v55),(69,(.bool false))]
def zPK (ro:Option Nat) (K:zAI):zAI:=zA5 (fun e ds W=>WCall prog pkL 19 [(e 0),(e 1),(e 9)] W (zAK (fun v54 W2=>wV (ext v54 0) fun v55=>wV (ext v54 1) fun v56=>wV (ext v54 2) fun v57=>wV (zAL prog .neq 30 true v57 (.int .i64 0)) fun v59=>wI v59 (True∧True∧(zND ro K) .normal (Env.of (zGI (zFG e (e 0) (e 1) (e 9)) v54 v55 v56 v57 v59) [(96,(.bool true)),(95,undef),(82,(.bool true)),(94,undef),(82,(.bool true)),(93,undef),(82,(.bool true)),(92,undef),(82,(.bool true)),(91,undef),(82,(.bool true)),(90,undef),(82,(.bool true)),(89,undef),(82,(.bool true)),(88,undef),(82,(.bool true)),(87,undef),(82,(.bool true)),(86,undef),(82,(.bool true)),(85,undef),(82,(.bool true)),(84,undef),(82,(.bool true)),(83,undef),(82,(.bool true)),(82,(.bool true)),(81,(.bool true)),(80,undef),(69,(.bool true)),(79,undef),(69,(.bool true)),(78,undef),(69,(.bool true)),(77,undef),(69,(.bool true)),(76,undef),(69,(.bool true)),(75,undef),(69,(.bool true)),(74,undef),(69,(.bool true)),(73,undef),(69,(.bool true)),(72,undef),(69,(.bool true)),(71,undef),(69,(.bool true)),(70,undef),(69,(.bool true)),(69,(.bool true)),(68,(.bool true)),(67,undef),(64,(.bool true)),(66,undef),(64,(.bool true)),(65,undef),(64,(.bool true)),(64,(.bool true)),(63,(.bool true)),(62,undef),(60,(.bool true)),(61,undef),(60,(.bool true))]) ds W2) (wV (zAL prog .neq 3 true v56 (.int .i64 1)) fun v62=>wI v62 (True∧True∧(zND ro K) .normal (Env.of (zHh (zGI (zFG e (e 0) (e 1) (e 9)) v54 v55 v56 v57 v59) v56 v62) [(96,(.bool true)),(95,undef),(82,(.bool true)),(94,undef),(82,(.bool true)),(93,undef),(82,(.bool true)),(92,undef),(82,(.bool true)),(91,undef),(82,(.bool true)),(90,undef),(82,(.bool true)),(89,undef),(82,(.bool true)),(88,undef),(82,(.bool true)),(87,undef),(82,(.bool true)),(86,undef),(82,(.bool true)),(85,undef),(82,(.bool true)),(84,undef),(82,(.bool true)),(83,undef),(82,(.bool true)),(82,(.bool true)),(81,(.bool true)),(80,undef),(69,(.bool true)),(79,undef),(69,(.bool true)),(78,undef),(69,(.bool true)),(77,undef),(69,(.bool true)),(76,undef),(69,(.bool true)),(75,undef),(69,(.bool true)),(74,undef),(69,(.bool true)),(73,undef),(69,(.bool true)),(72,undef),(69,(.bool true)),(71,undef),(69,(.bool true)),(70,undef),(69,(.bool true)),(69,(.bool true)),(68,(.bool true)),(67,undef),(64,(.bool true)),(66,undef),(64,(.bool true)),(65,undef),(64,(.bool true))]) ds W2) (wV (zAm prog 24 v55 W2) fun v66=>wV (zAL prog .eql 3 true v66 (.int .i64 0)) fun v67=>wI v67 ((zAm prog 24 v55 W2=some v66∧True)∧True∧(zND ro K) .normal (Env.of (zKU (zHh (zGI (zFG e (e 0) (e 1) (e 9)) v54 v55 v56 v57 v59) v56 v62) v55 v66 v67) [(96,(.bool true)),(95,undef),(82,(.bool true)),(94,undef),(82,(.bool true)),(93,undef),(82,(.bool true)),(92,undef),(82,(.bool true)),(91,undef),(82,(.bool true)),(90,undef),(82,(.bool true)),(89,undef),(82,(.bool true)),(88,undef),(82,(.bool true)),(87,undef),(82,(.bool true)),(86,undef),(82,(.bool true)),(85,undef),(82,(.bool true)),(84,undef),(82,(.bool true)),(83,undef),(82,(.bool true)),(82,(.bool true)),(81,(.bool true)),(80,undef),(69,(.bool true)),(79,undef),(69,(.bool true)),(78,undef),(69,(.bool true)),(77,undef),(69,(.bool true)),(76,undef),(69,(.bool true)),(75,undef),(69,(.bool true)),(74,undef),(69,(.bool true)),(73,undef),(69,(.bool true)),(72,undef),(69,(.bool true)),(71,undef),(69,(.bool true)),(70,undef),(69,(.bool true))]) ds W2) (wV (iad prog 24 v55 (.int .i64 0)) fun v71=>wV (fad prog 56 v71 0) fun v72=>wV (ld prog 9 v72 W2) fun v73=>wV (zAL prog .sub 3 true (e 3) (.int .i64 1)) fun v76=>wV (iad prog 24 (e 2) v76) fun v77=>wV (fad prog 56 v77 0) fun v78=>wV (ld prog 9 v78 W2) fun v79=>wV (zAL prog .neq 9 false v73 v79) fun v80=>wI v80 ((ld prog 9 v78 W2=some v79∧(ld prog 9 v72 W2=some v73∧(zAm prog 24 v55 W2=some v66∧True)))∧True∧(zND ro K) .normal (Env.of (zOF (zKU (zHh (zGI (zFG e (e 0) (e 1) (e 9)) v54 v55 v56 v57 v59) v56 v62) v55 v66 v67) v55 v71 v72 v73 v76 v77 v78 v79 v80 (e 2) (e 3)) [(96,(.bool true)),(95,undef),(82,(.bool true)),(94,undef),(82,(.bool true)),(93,undef),(82,(.bool true)),(92,undef),(82,(.bool true)),(91,undef),(82,(.bool true)),(90,undef),(82,(.bool true)),(89,undef),(82,(.bool true)),(88,undef),(82,(.bool true)),(87,undef),(82,(.bool true)),(86,undef),(82,(.bool true)),(85,undef),(82,(.bool true)),(84,undef),(82,(.bool true)),(83,undef),(82,(.bool true))]) ds W2) (wV (iad prog 24 v55 (.int .i64 0)) fun v84=>wV (fad prog 56 v84 1) fun v85=>wV (ld prog 40 v85 W2) fun v86=>wV (zAm prog 40 v86 W2) fun v87=>wV (zAL prog .sub 3 true (e 3) (.int .i64 1)) fun v90=>wV (iad prog 24 (e 2) v90) fun v91=>wV (fad prog 56 v91 1) fun v92=>wV (ld prog 40 v92 W2) fun v93=>wV (zAm prog 40 v93 W2) fun v94=>wV (zAL prog .neq 3 false v87 v94) fun v95=>(zAm prog 40 v93 W2=some v94∧(ld prog 40 v92 W2=some v93∧(zAm prog 40 v86 W2=some v87∧(ld prog 40 v85 W2=some v86∧(ld prog 9 v78 W2=some v79∧(ld prog 9 v72 W2=some v73∧(zAm prog 24 v55 W2=some v66∧True)))))))∧True∧(zND ro K) .normal (Env.of (zOF (zKU (zHh (zGI (zFG e (e 0) (e 1) (e 9)) v54 v55 v56 v57 v59) v56 v62) v55 v66 v67) v55 v71 v72 v73 v76 v77 v78 v79 v80 (e 2) (e 3)) [(96,v95),(95,v95),(82,(.bool false)),(94,v94),(82,(.bool false)),(93,v93),(82,(.bool false)),(92,v92),(82,(.bool false)),(91,v91),(82,(.bool false)),(90,v90),(82,(.bool false)),(89,(e 3)),(82,(.bool false)),(88,(e 2)),(82,(.bool false)),(87,v87),(82,(.bool false)),(86,v86),(82,(.bool false)),(85,v85),(82,(.bool false)),(84,v84),(82,(.bool false)),(83,v55),(82,(.bool false))]) ds W2))))) (fun ch3 W3=>K (.panic ch3) (zFG e (e 0) (e 1) (e 9)) ds W3))) K
def zLk (ro:Option Nat) (K:zAI):zAI:=zA5 (fun e ds W=>wI (e 48) (WCall prog pkL 16 [] W (zAK (fun v49 W10=>(zPK ro K) .ret (Env.of e [(8,v49),(49,v49)]) ds W10) (fun ch11 W11=>(zPK ro K) (.panic ch11) e ds W11))) ((zPK ro K) .normal e ds W)) (zPK ro K)
def zJV (ro:Option Nat) (K:zAI):zAI:=zA5 (fun e ds W=>WCall prog pkL 17 [(e 0),(e 1),(e 2),(e 3)] W (zAK (fun v40 W0=>wV (ext v40 0) fun v41=>wV (ext v40 1) fun v42=>wV (zAL prog .neq 30 true v42 (.int .i64 0)) fun v44=>wI v44 ((zLk ro K) .normal (Env.of e [(48,(.bool true)),(47,undef),(45,(.bool true)),(46,undef),(45,(.bool true)),(45,v44),(44,v44),(43,v42),(10,v42),(9,v41),(42,v42),(41,v41),(35,v40),(40,v40),(39,(e 3)),(38,(e 2)),(37,(e 1)),(36,(e 0))]) ds W0) (wV (zAL prog .eql 3 true (e 3) (.int .i64 0)) fun v47=>(zLk ro K) .normal (Env.of e [(48,v47),(47,v47),(45,(.bool false)),(46,(e 3)),(45,(.bool false)),(45,v44),(44,v44),(43,v42),(10,v42),(9,v41),(42,v42),(41,v41),(35,v40),(40,v40),(39,(e 3)),(38,(e 2)),(37,(e 1)),(36,(e 0))]) ds W0)) (fun ch1 W1=>K (.panic ch1) (Env.of e [(39,(e 3)),(38,(e 2)),(37,(e 1)),(36,(e 0))]) ds W1))) K
def zGJ (ro:Option Nat) (K:zAI):zAI:=zA5 (fun e ds W=>wI (e 33) (WCall prog pkL 16 [] W (zAK (fun v34 W14=>(zJV ro K) .ret (Env.of e [(8,v34),(34,v34)]) ds W14) (fun ch15 W15=>(zJV ro K) (.panic ch15) e ds W15))) ((zJV ro K) .normal e ds W)) (zJV ro K)
theorem zYr (v0 v1 v2 v3:Value) (K:zAI) (W:CW):zAJ prog pkL none 8 239 (zAG prog 8) (Env.args [v0,v1,v2,v3]) [] W K=(WCall prog pkL 13 [v0] W (zAK (fun v22 W17=>wV (ngt v22) fun v23=>wI v23 ((zGJ none K) .normal (Env.of (Env.args [v0,v1,v2,v3]) [(33,(.bool true)),(32,undef),(29,(.bool true)),(31,undef),(29,(.bool true)),(30,undef),(29,(.bool true)),(29,(.bool true)),(28,(.bool true)),(27,undef),(24,(.bool true)),(26,undef),(24,(.bool true)),(25,undef),(24,(.bool true)),(24,v23),(23,v23),(22,v22),(21,v0),(8,(.bool false))]) [] W17) (WCall prog pkL 14 [v1] W17 (zAK (fun v26 W19=>wV (ngt v26) fun v27=>wI v27 ((zGJ none K) .normal (Env.of (Env.args [v0,v1,v2,v3]) [(33,(.bool true)),(32,undef),(29,(.bool true)),(31,undef),(29,(.bool true)),(30,undef),(29,(.bool true)),(29,v27),(28,v27),(27,v27),(24,(.bool false)),(26,v26),(24,(.bool false)),(25,v1),(24,(.bool false)),(24,v23),(23,v23),(22,v22),(21,v0),(8,(.bool false))]) [] W19) (WCall prog pkL 15 [v2] W19 (zAK (fun v31 W21=>wV (ngt v31) fun v32=>(zGJ none K) .normal (Env.of (Env.args [v0,v1,v2,v3]) [(33,v32),(32,v32),(29,(.bool false)),(31,v31),(29,(.bool false)),(30,v2),(29,(.bool false)),(29,v27),(28,v27),(27,v27),(24,(.bool false)),(26,v26),(24,(.bool false)),(25,v1),(24,(.bool false)),(24,v23),(23,v23),(22,v22),(21,v0),(8,(.bool false))]) [] W21) (fun ch22 W22=>(zGJ none K) (.panic ch22) (Env.of (Env.args [v0,v1,v2,v3]) [(29,(.bool false)),(30,v2),(29,(.bool false)),(29,v27),(28,v27),(27,v27),(24,(.bool false)),(26,v26),(24,(.bool false)),(25,v1),(24,(.bool false)),(24,v23),(23,v23),(22,v22),(21,v0),(8,(.bool false))]) [] W22)))) (fun ch20 W20=>(zGJ none K) (.panic ch20) (Env.of (Env.args [v0,v1,v2,v3]) [(24,(.bool false)),(25,v1),(24,(.bool false)),(24,v23),(23,v23),(22,v22),(21,v0),(8,(.bool false))]) [] W20)))) (fun ch18 W18=>(zGJ none K) (.panic ch18) (Env.of (Env.args [v0,v1,v2,v3]) [(21,v0),(8,(.bool false))]) [] W18))):=by kernel_rfl
def zIO (ro:Option Nat) (K:zAI):zAI:=zA5 (fun e ds W=>wV (zAL prog .add 3 true (e 14) (.int .i64 1)) fun v102=>K .normal (Env.of e [(14,v102),(102,v102),(101,(e 14))]) ds W) K
def zTf (ro:Option Nat) (K:zAI):zAI:=zA5 (fun e ds W=>zCg prog pkL ro 8 239 (.loop (zAS prog 8 2)) (Env.of e [(19,(.int .i64 0))]) ds W (zBm 4 (zBm 1 (zIO ro K)))) (zBm 1 (zIO ro K))
def zOH (ro:Option Nat) (K:zAI):zAI:=zA5 (fun e ds W=>wV (zAm prog 29 (e 15) W) fun v136=>wVW (mks prog 60 v136 v136 W) fun v137 W26=>zCg prog pkL ro 8 239 (.loop (zAS prog 8 1)) (Env.of e [(18,(.int .i64 0)),(17,v137),(137,v137),(136,v136),(135,(e 15))]) ds W26 (zBm 2 (zTf ro K))) (zBm 1 (zIO ro K))
def zQ1 (ro:Option Nat) (K:zAI):zAI:=zA5 (fun e ds W=>wI (e 134) ((zOH ro K) .ret (Env.of e [(8,(.bool false))]) ds W) ((zOH ro K) .normal e ds W)) (zOH ro K)
theorem zW9 (ro:Option Nat) (e:Env) (ds:List Deferred) (K:zAI) (W:CW):zAJ prog pkL ro 8 239 (zAS prog 8 0) e ds W K=(wV (zAm prog 23 (e 1) W) fun v99=>wV (zAL prog .lss 3 false (e 14) v99) fun v100=>wI v100 (wV (iad prog 23 (e 1) (e 14)) fun v105=>wV (fad prog 58 v105 0) fun v106=>wV (ld prog 9 v106 W) fun v107=>wV (iad prog 24 (e 11) (.int .i64 0)) fun v109=>wV (fad prog 56 v109 0) fun v110=>wV (ld prog 9 v110 W) fun v111=>wV (zAL prog .neq 9 false v107 v111) fun v112=>(ld prog 9 v110 W=some v111∧(ld prog 9 v106 W=some v107∧True))∧True∧wI v112 ((zIO ro K) .normal (Env.of e [(112,v112),(111,v111),(110,v110),(109,v109),(108,(e 11)),(107,v107),(106,v106),(105,v105),(104,(e 14)),(103,(e 1)),(100,v100),(99,v99),(98,(e 1)),(97,(e 14))]) ds W) (wV (iad prog 23 (e 1) (e 14)) fun v117=>wV (fad prog 58 v117 0) fun v118=>wV (ld prog 9 v118 W) fun v119=>WCall prog pkL 26 [(e 0),v119] W (zAK (fun v120 W24=>wV (ext v120 0) fun v121=>wV (ext v120 1) fun v122=>wV (zAL prog .neq 30 true v122 (.int .i64 0)) fun v124=>wI v124 ((zQ1 ro K) .normal (Env.of e [(134,(.bool true)),(133,undef),(125,(.bool true)),(132,undef),(125,(.bool true)),(131,undef),(125,(.bool true)),(130,undef),(125,(.bool true)),(129,undef),(125,(.bool true)),(128,undef),(125,(.bool true)),(127,undef),(125,(.bool true)),(126,undef),(125,(.bool true)),(125,v124),(124,v124),(123,v122),(16,v122),(15,v121),(122,v122),(121,v121),(113,v120),(120,v120),(119,v119),(118,v118),(117,v117),(116,(e 14)),(115,(e 1)),(114,(e 0)),(112,v112),(111,v111),(110,v110),(109,v109),(108,(e 11)),(107,v107),(106,v106),(105,v105),(104,(e 14)),(103,(e 1)),(100,v100),(99,v99),(98,(e 1)),(97,(e 14))]) ds W24) (wV (zAm prog 29 v121 W24) fun v127=>wV (iad prog 24 (e 11) (.int .i64 0)) fun v129=>wV (fad prog 56 v129 1) fun v130=>wV (ld prog 40 v130 W24) fun v131=>wV (zAm prog 40 v131 W24) fun v132=>wV (zAL prog .neq 3 false v127 v132) fun v133=>(zQ1 ro K) .normal (Env.of e [(134,v133),(133,v133),(125,(.bool false)),(132,v132),(125,(.bool false)),(131,v131),(125,(.bool false)),(130,v130),(125,(.bool false)),(129,v129),(125,(.bool false)),(128,(e 11)),(125,(.bool false)),(127,v127),(125,(.bool false)),(126,v121),(125,(.bool false)),(125,v124),(124,v124),(123,v122),(16,v122),(15,v121),(122,v122),(121,v121),(113,v120),(120,v120),(119,v119),(118,v118),(117,v117),(116,(e 14)),(115,(e 1)),(114,(e 0)),(112,v112),(111,v111),(110,v110),(109,v109),(108,(e 11)),(107,v107),(106,v106),(105,v105),(104,(e 14)),(103,(e 1)),(100,v100),(99,v99),(98,(e 1)),(97,(e 14))]) ds W24)) (fun ch25 W25=>(zIO ro K) (.panic ch25) (Env.of e [(119,v119),(118,v118),(117,v117),(116,(e 14)),(115,(e 1)),(114,(e 0)),(112,v112),(111,v111),(110,v110),(109,v109),(108,(e 11)),(107,v107),(106,v106),(105,v105),(104,(e 14)),(103,(e 1)),(100,v100),(99,v99),(98,(e 1)),(97,(e 14))]) ds W25)))) (K (.exit 0) (Env.of e [(100,v100),(99,v99),(98,(e 1)),(97,(e 14))]) ds W)):=by kernel_rfl
def zTe (ro:Option Nat) (K:zAI):zAI:=zA5 (fun e ds W=>wV (zAL prog .add 3 true (e 18) (.int .i64 1)) fun v147=>K .normal (Env.of e [(18,v147),(147,v147),(146,(e 18))]) ds W) K
theorem zW8 (ro:Option Nat) (e:Env) (ds:List Deferred) (K:zAI) (W:CW):zAJ prog pkL ro 8 239 (zAS prog 8 1) e ds W K=(wV (iad prog 23 (e 1) (e 14)) fun v141=>wV (fad prog 58 v141 2) fun v142=>wV (ld prog 40 v142 W) fun v143=>wV (zAm prog 40 v143 W) fun v144=>wV (zAL prog .lss 3 false (e 18) v144) fun v145=>wI v145 (wV (iad prog 23 (e 1) (e 14)) fun v151=>wV (fad prog 58 v151 2) fun v152=>wV (ld prog 40 v152 W) fun v153=>wV (iad prog 40 v153 (e 18)) fun v155=>wV (ld prog 3 v155 W) fun v156=>wV (iad prog 60 (e 17) v156) fun v157=>wV (sto prog 4 v157 (.bool true) W) fun W31=>(zTe ro K) .normal (Env.of e [(157,v157),(156,v156),(155,v155),(154,(e 18)),(153,v153),(152,v152),(151,v151),(150,(e 14)),(149,(e 1)),(148,(e 17)),(145,v145),(144,v144),(143,v143),(142,v142),(141,v141),(140,(e 14)),(139,(e 1)),(138,(e 18))]) ds W31) (K (.exit 2) (Env.of e [(145,v145),(144,v144),(143,v143),(142,v142),(141,v141),(140,(e 14)),(139,(e 1)),(138,(e 18))]) ds W)):=by kernel_rfl
def zOG (ro:Option Nat) (K:zAI):zAI:=zA5 (fun e ds W=>wV (zAL prog .add 3 true (e 19) (.int .i64 1)) fun v163=>K .normal (Env.of e [(19,v163),(163,v163),(162,(e 19))]) ds W) K
def zBu (ro:Option Nat) (K:zAI):zAI:=zA5 (fun e ds W=>wI (e 237) ((zOG ro K) .ret (Env.of e [(8,(.bool false))]) ds W) ((zOG ro K) .normal e ds W)) (zBm 5 (zOG ro K))
def zAy (E:Env) (v160 v161 x0 x1:Value):Env:=Env.of E [(161,v161),(160,v160),(159,x0),(158,x1)]
def zA4 (E:Env) (v166 v167 v168 v169 v171 v172 v175 v176 v177 x0 x1 x2 x3:Value):Env:=Env.of E [(178,v177),(177,v177),(176,v176),(175,v175),(174,x1),(173,x0),(20,v172),(172,v172),(171,v171),(170,x1),(169,v169),(168,v168),(167,v167),(166,v166),(165,x3),(164,x2)]
def zCV (E:Env) (v180 v181 v182 v184 v185 v186 x0 x1:Value):Env:=Env.of E [(188,v186),(187,v186),(186,v186),(178,(.bool true)),(185,v185),(178,(.bool true)),(184,v184),(178,(.bool true)),(183,x1),(178,(.bool true)),(182,v182),(178,(.bool true)),(181,v181),(178,(.bool true)),(180,v180),(178,(.bool true)),(179,x0),(178,(.bool true))]
def zCh (E:Env) (v191 v192 x0 x1:Value):Env:=Env.of E [(193,v192),(188,(.bool false)),(192,v192),(188,(.bool false)),(191,v191),(188,(.bool false)),(190,x1),(188,(.bool false)),(189,x0),(188,(.bool false))]
def zD8 (E:Env) (v196 v197 v198 x0 x1:Value):Env:=Env.of E [(200,v198),(188,(.bool false)),(199,v198),(188,(.bool false)),(198,v198),(193,(.bool true)),(197,v197),(193,(.bool true)),(196,v196),(193,(.bool true)),(195,x1),(193,(.bool true)),(194,x0),(193,(.bool true))]
def zHg (E:Env) (v172 v202 v203 v204 v206 v207 v209 x0 x1:Value):Env:=Env.of E [(212,v209),(211,v209),(210,v209),(188,(.bool false)),(209,v209),(200,(.bool true)),(208,v172),(200,(.bool true)),(207,v207),(200,(.bool true)),(206,v206),(200,(.bool true)),(205,x1),(200,(.bool true)),(204,v204),(200,(.bool true)),(203,v203),(200,(.bool true)),(202,v202),(200,(.bool true)),(201,x0),(200,(.bool true))]
def zKT (E:Env) (v215 v216 x0 x1:Value):Env:=Env.of E [(217,v216),(212,(.bool false)),(216,v216),(212,(.bool false)),(215,v215),(212,(.bool false)),(214,x1),(212,(.bool false)),(213,x0),(212,(.bool false))]
def zOE (E:Env) (v220 v221 v222 x0 x1:Value):Env:=Env.of E [(224,v222),(212,(.bool false)),(223,v222),(212,(.bool false)),(222,v222),(217,(.bool true)),(221,v221),(217,(.bool true)),(220,v220),(217,(.bool true)),(219,x1),(217,(.bool true)),(218,x0),(217,(.bool true))]
def zKS (E:Env) (v215 v216 x0 x1:Value):Env:=Env.of E [(217,v216),(212,(.bool false)),(216,v216),(212,(.bool false)),(215,v215),(212,(.bool false)),(214,x1),(212,(.bool false)),(213,x0),(212,(.bool false)),(212,(.bool false)),(211,(.bool false)),(210,(.bool false)),(188,(.bool false)),(209,undef),(200,(.bool false)),(208,undef),(200,(.bool false)),(207,undef),(200,(.bool false)),(206,undef),(200,(.bool false)),(205,undef),(200,(.bool false)),(204,undef),(200,(.bool false)),(203,undef),(200,(.bool false)),(202,undef),(200,(.bool false)),(201,undef),(200,(.bool false))]
def zOD (E:Env) (v220 v221 v222 x0 x1:Value):Env:=Env.of E [(224,v222),(212,(.bool false)),(223,v222),(212,(.bool false)),(222,v222),(217,(.bool true)),(221,v221),(217,(.bool true)),(220,v220),(217,(.bool true)),(219,x1),(217,(.bool true)),(218,x0),(217,(.bool true))]
def zIN (E:Env) (v215 v216 x0 x1:Value):Env:=Env.of E [(217,v216),(212,(.bool false)),(216,v216),(212,(.bool false)),(215,v215),(212,(.bool false)),(214,x1),(212,(.bool false)),(213,x0),(212,(.bool false)),(212,(.bool false)),(211,(.bool false)),(210,(.bool false)),(188,(.bool false)),(209,undef),(200,(.bool false)),(208,undef),(200,(.bool false)),(207,undef),(200,(.bool false)),(206,undef),(200,(.bool false)),(205,undef),(200,(.bool false)),(204,undef),(200,(.bool false)),(203,undef),(200,(.bool false)),(202,undef),(200,(.bool false)),(201,undef),(200,(.bool false)),(200,(.bool false)),(188,(.bool false)),(199,(.bool false)),(188,(.bool false)),(198,undef),(193,(.bool false)),(197,undef),(193,(.bool false)),(196,undef),(193,(.bool false)),(195,undef),(193,(.bool false)),(194,undef),(193,(.bool false))]
def zLj (E:Env) (v220 v221 v222 x0 x1:Value):Env:=Env.of E [(224,v222),(212,(.bool false)),(223,v222),(212,(.bool false)),(222,v222),(217,(.bool true)),(221,v221),(217,(.bool true)),(220,v220),(217,(.bool true)),(219,x1),(217,(.bool true)),(218,x0),(217,(.bool true))]
def zB8 (E:Env) (v191 v192 x0 x1:Value):Env:=Env.of E [(193,v192),(188,(.bool false)),(192,v192),(188,(.bool false)),(191,v191),(188,(.bool false)),(190,x1),(188,(.bool false)),(189,x0),(188,(.bool false)),(188,(.bool false)),(187,(.bool false)),(186,undef),(178,(.bool false)),(185,undef),(178,(.bool false)),(184,undef),(178,(.bool false)),(183,undef),(178,(.bool false)),(182,undef),(178,(.bool false)),(181,undef),(178,(.bool false)),(180,undef),(178,(.bool false)),(179,undef),(178,(.bool false))]
def zDM (E:Env) (v196 v197 v198 x0 x1:Value):Env:=Env.of E [(200,v198),(188,(.bool false)),(199,v198),(188,(.bool false)),(198,v198),(193,(.bool true)),(197,v197),(193,(.bool true)),(196,v196),(193,(.bool true)),(195,x1),(193,(.bool true)),(194,x0),(193,(.bool true))]
def zGH (E:Env) (v172 v202 v203 v204 v206 v207 v209 x0 x1:Value):Env:=Env.of E [(212,v209),(211,v209),(210,v209),(188,(.bool false)),(209,v209),(200,(.bool true)),(208,v172),(200,(.bool true)),(207,v207),(200,(.bool true)),(206,v206),(200,(.bool true)),(205,x1),(200,(.bool true)),(204,v204),(200,(.bool true)),(203,v203),(200,(.bool true)),(202,v202),(200,(.bool true)),(201,x0),(200,(.bool true))]
def zIM (E:Env) (v215 v216 x0 x1:Value):Env:=Env.of E [(217,v216),(212,(.bool false)),(216,v216),(212,(.bool false)),(215,v215),(212,(.bool false)),(214,x1),(212,(.bool false)),(213,x0),(212,(.bool false))]
def zLi (E:Env) (v220 v221 v222 x0 x1:Value):Env:=Env.of E [(224,v222),(212,(.bool false)),(223,v222),(212,(.bool false)),(222,v222),(217,(.bool true)),(221,v221),(217,(.bool true)),(220,v220),(217,(.bool true)),(219,x1),(217,(.bool true)),(218,x0),(217,(.bool true))]
def zIL (E:Env) (v215 v216 x0 x1:Value):Env:=Env.of E [(217,v216),(212,(.bool false)),(216,v216),(212,(.bool false)),(215,v215),(212,(.bool false)),(214,x1),(212,(.bool false)),(213,x0),(212,(.bool false)),(212,(.bool false)),(211,(.bool false)),(210,(.bool false)),(188,(.bool false)),(209,undef),(200,(.bool false)),(208,undef),(200,(.bool false)),(207,undef),(200,(.bool false)),(206,undef),(200,(.bool false)),(205,undef),(200,(.bool false)),(204,undef),(200,(.bool false)),(203,undef),(200,(.bool false)),(202,undef),(200,(.bool false)),(201,undef),(200,(.bool false))]
def zLh (E:Env) (v220 v221 v222 x0 x1:Value):Env:=Env.of E [(224,v222),(212,(.bool false)),(223,v222),(212,(.bool false)),(222,v222),(217,(.bool true)),(221,v221),(217,(.bool true)),(220,v220),(217,(.bool true)),(219,x1),(217,(.bool true)),(218,x0),(217,(.bool true))]
def zIK (E:Env) (v215 v216 x0 x1:Value):Env:=Env.of E [(217,v216),(212,(.bool false)),(216,v216),(212,(.bool false)),(215,v215),(212,(.bool false)),(214,x1),(212,(.bool false)),(213,x0),(212,(.bool false)),(212,(.bool false)),(211,(.bool false)),(210,(.bool false)),(188,(.bool false)),(209,undef),(200,(.bool false)),(208,undef),(200,(.bool false)),(207,undef),(200,(.bool false)),(206,undef),(200,(.bool false)),(205,undef),(200,(.bool false)),(204,undef),(200,(.bool false)),(203,undef),(200,(.bool false)),(202,undef),(200,(.bool false)),(201,undef),(200,(.bool false)),(200,(.bool false)),(188,(.bool false)),(199,(.bool false)),(188,(.bool false)),(198,undef),(193,(.bool false)),(197,undef),(193,(.bool false)),(196,undef),(193,(.bool false)),(195,undef),(193,(.bool false)),(194,undef),(193,(.bool false))]
def zLg (E:Env) (v220 v221 v222 x0 x1:Value):Env:=Env.of E [(224,v222),(212,(.bool false)),(223,v222),(212,(.bool false)),(222,v222),(217,(.bool true)),(221,v221),(217,(.bool true)),(220,v220),(217,(.bool true)),(219,x1),(217,(.bool true)),(218,x0),(217,(.bool true))]
def zOC (E:Env):Env:=Env.of E [(237,(.bool true)),(236,undef),(212,(.bool true)),(235,undef),(234,undef),(233,undef),(232,undef),(231,undef),(230,undef),(229,undef),(228,undef),(227,undef),(226,undef),(225,undef),(224,undef),(212,(.bool true)),(223,undef),(212,(.bool true)),(222,undef),(221,undef),(220,undef),(219,undef),(218,undef),(217,undef),(212,(.bool true)),(216,undef),(212,(.bool true)),(215,undef),(212,(.bool true)),(214,undef),(212,(.bool true)),(213,undef),(212,(.bool true))]
def zFF (E:Env) (v172 v226 v228 v229 v230 v232 v233 v234 v235 x0 x1:Value):Env:=Env.of E [(237,v235),(236,v235),(212,(.bool false)),(235,v235),(224,(.bool true)),(234,v234),(224,(.bool true)),(233,v233),(224,(.bool true)),(232,v232),(224,(.bool true)),(231,x1),(224,(.bool true)),(230,v230),(224,(.bool true)),(229,v229),(224,(.bool true)),(228,v228),(224,(.bool true)),(227,x0),(224,(.bool true)),(226,v226),(224,(.bool true)),(225,v172),(224,(.bool true))]
def zFE (E:Env):Env:=Env.of E [(237,(.bool false)),(236,(.bool false)),(212,(.bool false)),(235,undef),(224,(.bool false)),(234,undef),(224,(.bool false)),(233,undef),(224,(.bool false)),(232,undef),(224,(.bool false)),(231,undef),(224,(.bool false)),(230,undef),(224,(.bool false)),(229,undef),(224,(.bool false)),(228,undef),(224,(.bool false)),(227,undef),(224,(.bool false)),(226,undef),(224,(.bool false)),(225,undef),(224,(.bool false))]
def zFD (E:Env):Env:=Env.of E [(237,(.bool false)),(236,(.bool false)),(212,(.bool false)),(235,undef),(224,(.bool false)),(234,undef),(224,(.bool false)),(233,undef),(224,(.bool false)),(232,undef),(224,(.bool false)),(231,undef),(224,(.bool false)),(230,undef),(224,(.bool false)),(229,undef),(224,(.bool false)),(228,undef),(224,(.bool false)),(227,undef),(224,(.bool false)),(226,undef),(224,(.bool false)),(225,undef),(224,(.bool false)),(224,(.bool false)),(212,(.bool false)),(223,(.bool false)),(212,(.bool false)),(222,undef),(217,(.bool false)),(221,undef),(217,(.bool false)),(220,undef),(217,(.bool false)),(219,undef),(217,(.bool false)),(218,undef),(217,(.bool false))]
theorem zW7 (ro:Option Nat) (e:Env) (ds:List Deferred) (K:zAI) (W:CW):zAJ prog pkL ro 8 239 (zAS prog 8 2) e ds W K=(wV (zAm prog 29 (e 15) W) fun v160=>wV (zAL prog .lss 3 false (e 19) v160) fun v161=>wI v161 (wV (zAL prog .sub 3 true (e 3) (.int .i64 1)) fun v166=>wV (iad prog 24 (e 2) v166) fun v167=>wV (fad prog 56 v167 1) fun v168=>wV (ld prog 40 v168 W) fun v169=>wV (iad prog 40 v169 (e 19)) fun v171=>wV (ld prog 3 v171 W) fun v172=>wV (iad prog 60 (e 17) (e 19)) fun v175=>wV (ld prog 4 v175 W) fun v176=>wV (ngt v176) fun v177=>wI v177 (wV (iad prog 24 (e 11) (.int .i64 0)) fun v180=>wV (fad prog 56 v180 1) fun v181=>wV (ld prog 40 v181 W) fun v182=>wV (iad prog 40 v182 (e 19)) fun v184=>wV (ld prog 3 v184 W) fun v185=>wV (zAL prog .neq 3 true v185 (.int .i64 0)) fun v186=>wI v186 ((zBu ro K) .normal (Env.of (zCV (zA4 (zAy e v160 v161 (e 15) (e 19)) v166 v167 v168 v169 v171 v172 v175 v176 v177 (e 17) (e 19) (e 2) (e 3)) v180 v181 v182 v184 v185 v186 (e 11) (e 19)) [(237,(.bool true)),(236,undef),(212,(.bool true)),(235,undef),(234,undef),(233,undef),(232,undef),(231,undef),(230,undef),(229,undef),(228,undef),(227,undef),(226,undef),(225,undef),(224,undef),(212,(.bool true)),(223,undef),(212,(.bool true)),(222,undef),(221,undef),(220,undef),(219,undef),(218,undef),(217,undef),(212,(.bool true)),(216,undef),(212,(.bool true)),(215,undef),(212,(.bool true)),(214,undef),(212,(.bool true)),(213,undef),(212,(.bool true)),(212,(.bool true)),(211,(.bool true)),(210,undef),(188,(.bool true)),(209,undef),(208,undef),(207,undef),(206,undef),(205,undef),(204,undef),(203,undef),(202,undef),(201,undef),(200,undef),(188,(.bool true)),(199,undef),(188,(.bool true)),(198,undef),(197,undef),(196,undef),(195,undef),(194,undef),(193,undef),(188,(.bool true)),(192,undef),(188,(.bool true)),(191,undef),(188,(.bool true)),(190,undef),(188,(.bool true)),(189,undef),(188,(.bool true))]) ds W) (wV (iad prog 60 (e 17) (e 19)) fun v191=>wV (ld prog 4 v191 W) fun v192=>wI v192 (wV (iad prog 29 (e 15) (e 19)) fun v196=>wV (ld prog 5 v196 W) fun v197=>wV (zAL prog .eql 5 true v197 (.int .u8 1)) fun v198=>wI v198 (wV (iad prog 24 (e 11) (.int .i64 0)) fun v202=>wV (fad prog 56 v202 1) fun v203=>wV (ld prog 40 v203 W) fun v204=>wV (iad prog 40 v204 (e 19)) fun v206=>wV (ld prog 3 v206 W) fun v207=>wV (zAL prog .neq 3 false v207 v172) fun v209=>wI v209 ((zBu ro K) .normal (zOC (zHg (zD8 (zCh (zCV (zA4 (zAy e v160 v161 (e 15) (e 19)) v166 v167 v168 v169 v171 v172 v175 v176 v177 (e 17) (e 19) (e 2) (e 3)) v180 v181 v182 v184 v185 v186 (e 11) (e 19)) v191 v192 (e 17) (e 19)) v196 v197 v198 (e 15) (e 19)) v172 v202 v203 v204 v206 v207 v209 (e 11) (e 19))) ds W) (wV (iad prog 60 (e 17) (e 19)) fun v215=>wV (ld prog 4 v215 W) fun v216=>wI v216 (wV (iad prog 29 (e 15) (e 19)) fun v220=>wV (ld prog 5 v220 W) fun v221=>wV (zAL prog .eql 5 true v221 (.int .u8 2)) fun v222=>wI v222 (wV (zAL prog .eql 3 true v172 (.int .i64 0)) fun v226=>wV (iad prog 24 (e 11) (.int .i64 0)) fun v228=>wV (fad prog 56 v228 1) fun v229=>wV (ld prog 40 v229 W) fun v230=>wV (iad prog 40 v230 (e 19)) fun v232=>wV (ld prog 3 v232 W) fun v233=>wV (zAL prog .eql 3 true v233 (.int .i64 0)) fun v234=>wV (zAL prog .neq 4 false v226 v234) fun v235=>(zBu ro K) .normal (zFF (zOE (zKT (zHg (zD8 (zCh (zCV (zA4 (zAy e v160 v161 (e 15) (e 19)) v166 v167 v168 v169 v171 v172 v175 v176 v177 (e 17) (e 19) (e 2) (e 3)) v180 v181 v182 v184 v185 v186 (e 11) (e 19)) v191 v192 (e 17) (e 19)) v196 v197 v198 (e 15) (e 19)) v172 v202 v203 v204 v206 v207 v209 (e 11) (e 19)) v215 v216 (e 17) (e 19)) v220 v221 v222 (e 15) (e 19)) v172 v226 v228 v229 v230 v232 v233 v234 v235 (e 11) (e 19)) ds W) ((zBu ro K) .normal (zFE (zOE (zKT (zHg (zD8 (zCh (zCV (zA4 (zAy e v160 v161 (e 15) (e 19)) v166 v167 v168 v169 v171 v172 v175 v176 v177 (e 17) (e 19) (e 2) (e 3)) v180 v181 v182 v184 v185 v186 (e 11) (e 19)) v191 v192 (e 17) (e 19)) v196 v197 v198 (e 15) (e 19)) v172 v202 v203 v204 v206 v207 v209 (e 11) (e 19)) v215 v216 (e 17) (e 19)) v220 v221 v222 (e 15) (e 19))) ds W)) ((zBu ro K) .normal (zFD (zKT (zHg (zD8 (zCh (zCV (zA4 (zAy e v160 v161 (e 15) (e 19)) v166 v167 v168 v169 v171 v172 v175 v176 v177 (e 17) (e 19) (e 2) (e 3)) v180 v181 v182 v184 v185 v186 (e 11) (e 19)) v191 v192 (e 17) (e 19)) v196 v197 v198 (e 15) (e 19)) v172 v202 v203 v204 v206 v207 v209 (e 11) (e 19)) v215 v216 (e 17) (e 19))) ds W))) (wV (iad prog 60 (e 17) (e 19)) fun v215=>wV (ld prog 4 v215 W) fun v216=>wI v216 (wV (iad prog 29 (e 15) (e 19)) fun v220=>wV (ld prog 5 v220 W) fun v221=>wV (zAL prog .eql 5 true v221 (.int .u8 2)) fun v222=>wI v222 (wV (zAL prog .eql 3 true v172 (.int .i64 0)) fun v226=>wV (iad prog 24 (e 11) (.int .i64 0)) fun v228=>wV (fad prog 56 v228 1) fun v229=>wV (ld prog 40 v229 W) fun v230=>wV (iad prog 40 v230 (e 19)) fun v232=>wV (ld prog 3 v232 W) fun v233=>wV (zAL prog .eql 3 true v233 (.int .i64 0)) fun v234=>wV (zAL prog .neq 4 false v226 v234) fun v235=>(zBu ro K) .normal (zFF (zOD (zKS (zD8 (zCh (zCV (zA4 (zAy e v160 v161 (e 15) (e 19)) v166 v167 v168 v169 v171 v172 v175 v176 v177 (e 17) (e 19) (e 2) (e 3)) v180 v181 v182 v184 v185 v186 (e 11) (e 19)) v191 v192 (e 17) (e 19)) v196 v197 v198 (e 15) (e 19)) v215 v216 (e 17) (e 19)) v220 v221 v222 (e 15) (e 19)) v172 v226 v228 v229 v230 v232 v233 v234 v235 (e 11) (e 19)) ds W) ((zBu ro K) .normal (zFE (zOD (zKS (zD8 (zCh (zCV (zA4 (zAy e v160 v161 (e 15) (e 19)) v166 v167 v168 v169 v171 v172 v175 v176 v177 (e 17) (e 19) (e 2) (e 3)) v180 v181 v182 v184 v185 v186 (e 11) (e 19)) v191 v192 (e 17) (e 19)) v196 v197 v198 (e 15) (e 19)) v215 v216 (e 17) (e 19)) v220 v221 v222 (e 15) (e 19))) ds W)) ((zBu ro K) .normal (zFD (zKS (zD8 (zCh (zCV (zA4 (zAy e v160 v161 (e 15) (e 19)) v166 v167 v168 v169 v171 v172 v175 v176 v177 (e 17) (e 19) (e 2) (e 3)) v180 v181 v182 v184 v185 v186 (e 11) (e 19)) v191 v192 (e 17) (e 19)) v196 v197 v198 (e 15) (e 19)) v215 v216 (e 17) (e 19))) ds W))) (wV (iad prog 60 (e 17) (e 19)) fun v215=>wV (ld prog 4 v215 W) fun v216=>wI v216 (wV (iad prog 29 (e 15) (e 19)) fun v220=>wV (ld prog 5 v220 W) fun v221=>wV (zAL prog .eql 5 true v221 (.int .u8 2)) fun v222=>wI v222 (wV (zAL prog .eql 3 true v172 (.int .i64 0)) fun v226=>wV (iad prog 24 (e 11) (.int .i64 0)) fun v228=>wV (fad prog 56 v228 1) fun v229=>wV (ld prog 40 v229 W) fun v230=>wV (iad prog 40 v230 (e 19)) fun v232=>wV (ld prog 3 v232 W) fun v233=>wV (zAL prog .eql 3 true v233 (.int .i64 0)) fun v234=>wV (zAL prog .neq 4 false v226 v234) fun v235=>(zBu ro K) .normal (zFF (zLj (zIN (zCh (zCV (zA4 (zAy e v160 v161 (e 15) (e 19)) v166 v167 v168 v169 v171 v172 v175 v176 v177 (e 17) (e 19) (e 2) (e 3)) v180 v181 v182 v184 v185 v186 (e 11) (e 19)) v191 v192 (e 17) (e 19)) v215 v216 (e 17) (e 19)) v220 v221 v222 (e 15) (e 19)) v172 v226 v228 v229 v230 v232 v233 v234 v235 (e 11) (e 19)) ds W) ((zBu ro K) .normal (zFE (zLj (zIN (zCh (zCV (zA4 (zAy e v160 v161 (e 15) (e 19)) v166 v167 v168 v169 v171 v172 v175 v176 v177 (e 17) (e 19) (e 2) (e 3)) v180 v181 v182 v184 v185 v186 (e 11) (e 19)) v191 v192 (e 17) (e 19)) v215 v216 (e 17) (e 19)) v220 v221 v222 (e 15) (e 19))) ds W)) ((zBu ro K) .normal (zFD (zIN (zCh (zCV (zA4 (zAy e v160 v161 (e 15) (e 19)) v166 v167 v168 v169 v171 v172 v175 v176 v177 (e 17) (e 19) (e 2) (e 3)) v180 v181 v182 v184 v185 v186 (e 11) (e 19)) v191 v192 (e 17) (e 19)) v215 v216 (e 17) (e 19))) ds W)))) (wV (iad prog 60 (e 17) (e 19)) fun v191=>wV (ld prog 4 v191 W) fun v192=>wI v192 (wV (iad prog 29 (e 15) (e 19)) fun v196=>wV (ld prog 5 v196 W) fun v197=>wV (zAL prog .eql 5 true v197 (.int .u8 1)) fun v198=>wI v198 (wV (iad prog 24 (e 11) (.int .i64 0)) fun v202=>wV (fad prog 56 v202 1) fun v203=>wV (ld prog 40 v203 W) fun v204=>wV (iad prog 40 v204 (e 19)) fun v206=>wV (ld prog 3 v206 W) fun v207=>wV (zAL prog .neq 3 false v207 v172) fun v209=>wI v209 ((zBu ro K) .normal (zOC (zGH (zDM (zB8 (zA4 (zAy e v160 v161 (e 15) (e 19)) v166 v167 v168 v169 v171 v172 v175 v176 v177 (e 17) (e 19) (e 2) (e 3)) v191 v192 (e 17) (e 19)) v196 v197 v198 (e 15) (e 19)) v172 v202 v203 v204 v206 v207 v209 (e 11) (e 19))) ds W) (wV (iad prog 60 (e 17) (e 19)) fun v215=>wV (ld prog 4 v215 W) fun v216=>wI v216 (wV (iad prog 29 (e 15) (e 19)) fun v220=>wV (ld prog 5 v220 W) fun v221=>wV (zAL prog .eql 5 true v221 (.int .u8 2)) fun v222=>wI v222 (wV (zAL prog .eql 3 true v172 (.int .i64 0)) fun v226=>wV (iad prog 24 (e 11) (.int .i64 0)) fun v228=>wV (fad prog 56 v228 1) fun v229=>wV (ld prog 40 v229 W) fun v230=>wV (iad prog 40 v230 (e 19)) fun v232=>wV (ld prog 3 v232 W) fun v233=>wV (zAL prog .eql 3 true v233 (.int .i64 0)) fun v234=>wV (zAL prog .neq 4 false v226 v234) fun v235=>(zBu ro K) .normal (zFF (zLi (zIM (zGH (zDM (zB8 (zA4 (zAy e v160 v161 (e 15) (e 19)) v166 v167 v168 v169 v171 v172 v175 v176 v177 (e 17) (e 19) (e 2) (e 3)) v191 v192 (e 17) (e 19)) v196 v197 v198 (e 15) (e 19)) v172 v202 v203 v204 v206 v207 v209 (e 11) (e 19)) v215 v216 (e 17) (e 19)) v220 v221 v222 (e 15) (e 19)) v172 v226 v228 v229 v230 v232 v233 v234 v235 (e 11) (e 19)) ds W) ((zBu ro K) .normal (zFE (zLi (zIM (zGH (zDM (zB8 (zA4 (zAy e v160 v161 (e 15) (e 19)) v166 v167 v168 v169 v171 v172 v175 v176 v177 (e 17) (e 19) (e 2) (e 3)) v191 v192 (e 17) (e 19)) v196 v197 v198 (e 15) (e 19)) v172 v202 v203 v204 v206 v207 v209 (e 11) (e 19)) v215 v216 (e 17) (e 19)) v220 v221 v222 (e 15) (e 19))) ds W)) ((zBu ro K) .normal (zFD (zIM (zGH (zDM (zB8 (zA4 (zAy e v160 v161 (e 15) (e 19)) v166 v167 v168 v169 v171 v172 v175 v176 v177 (e 17) (e 19) (e 2) (e 3)) v191 v192 (e 17) (e 19)) v196 v197 v198 (e 15) (e 19)) v172 v202 v203 v204 v206 v207 v209 (e 11) (e 19)) v215 v216 (e 17) (e 19))) ds W))) (wV (iad prog 60 (e 17) (e 19)) fun v215=>wV (ld prog 4 v215 W) fun v216=>wI v216 (wV (iad prog 29 (e 15) (e 19)) fun v220=>wV (ld prog 5 v220 W) fun v221=>wV (zAL prog .eql 5 true v221 (.int .u8 2)) fun v222=>wI v222 (wV (zAL prog .eql 3 true v172 (.int .i64 0)) fun v226=>wV (iad prog 24 (e 11) (.int .i64 0)) fun v228=>wV (fad prog 56 v228 1) fun v229=>wV (ld prog 40 v229 W) fun v230=>wV (iad prog 40 v230 (e 19)) fun v232=>wV (ld prog 3 v232 W) fun v233=>wV (zAL prog .eql 3 true v233 (.int .i64 0)) fun v234=>wV (zAL prog .neq 4 false v226 v234) fun v235=>(zBu ro K) .normal (zFF (zLh (zIL (zDM (zB8 (zA4 (zAy e v160 v161 (e 15) (e 19)) v166 v167 v168 v169 v171 v172 v175 v176 v177 (e 17) (e 19) (e 2) (e 3)) v191 v192 (e 17) (e 19)) v196 v197 v198 (e 15) (e 19)) v215 v216 (e 17) (e 19)) v220 v221 v222 (e 15) (e 19)) v172 v226 v228 v229 v230 v232 v233 v234 v235 (e 11) (e 19)) ds W) ((zBu ro K) .normal (zFE (zLh (zIL (zDM (zB8 (zA4 (zAy e v160 v161 (e 15) (e 19)) v166 v167 v168 v169 v171 v172 v175 v176 v177 (e 17) (e 19) (e 2) (e 3)) v191 v192 (e 17) (e 19)) v196 v197 v198 (e 15) (e 19)) v215 v216 (e 17) (e 19)) v220 v221 v222 (e 15) (e 19))) ds W)) ((zBu ro K) .normal (zFD (zIL (zDM (zB8 (zA4 (zAy e v160 v161 (e 15) (e 19)) v166 v167 v168 v169 v171 v172 v175 v176 v177 (e 17) (e 19) (e 2) (e 3)) v191 v192 (e 17) (e 19)) v196 v197 v198 (e 15) (e 19)) v215 v216 (e 17) (e 19))) ds W))) (wV (iad prog 60 (e 17) (e 19)) fun v215=>wV (ld prog 4 v215 W) fun v216=>wI v216 (wV (iad prog 29 (e 15) (e 19)) fun v220=>wV (ld prog 5 v220 W) fun v221=>wV (zAL prog .eql 5 true v221 (.int .u8 2)) fun v222=>wI v222 (wV (zAL prog .eql 3 true v172 (.int .i64 0)) fun v226=>wV (iad prog 24 (e 11) (.int .i64 0)) fun v228=>wV (fad prog 56 v228 1) fun v229=>wV (ld prog 40 v229 W) fun v230=>wV (iad prog 40 v230 (e 19)) fun v232=>wV (ld prog 3 v232 W) fun v233=>wV (zAL prog .eql 3 true v233 (.int .i64 0)) fun v234=>wV (zAL prog .neq 4 false v226 v234) fun v235=>(zBu ro K) .normal (zFF (zLg (zIK (zB8 (zA4 (zAy e v160 v161 (e 15) (e 19)) v166 v167 v168 v169 v171 v172 v175 v176 v177 (e 17) (e 19) (e 2) (e 3)) v191 v192 (e 17) (e 19)) v215 v216 (e 17) (e 19)) v220 v221 v222 (e 15) (e 19)) v172 v226 v228 v229 v230 v232 v233 v234 v235 (e 11) (e 19)) ds W) ((zBu ro K) .normal (zFE (zLg (zIK (zB8 (zA4 (zAy e v160 v161 (e 15) (e 19)) v166 v167 v168 v169 v171 v172 v175 v176 v177 (e 17) (e 19) (e 2) (e 3)) v191 v192 (e 17) (e 19)) v215 v216 (e 17) (e 19)) v220 v221 v222 (e 15) (e 19))) ds W)) ((zBu ro K) .normal (zFD (zIK (zB8 (zA4 (zAy e v160 v161 (e 15) (e 19)) v166 v167 v168 v169 v171 v172 v175 v176 v177 (e 17) (e 19) (e 2) (e 3)) v191 v192 (e 17) (e 19)) v215 v216 (e 17) (e 19))) ds W)))) (K (.exit 4) (zAy e v160 v161 (e 15) (e 19)) ds W)):=by kernel_rfl
theorem zS7 (Q:Ending→CW→Prop) (e:Env) (W:CW):zAE prog Tryz.f8 Q .ret e [] W=Q (.returned (e 8)) W:=by kernel_rfl
theorem zYq {Q:Ending→CW→Prop} {v0 v1 v2 v3:Value} {W:CW} (h:zAJ prog pkL none 8 239 (zAG prog 8) (Env.args [v0,v1,v2,v3]) [] W (zAE prog Tryz.f8 Q)):WCall prog pkL 8 [v0,v1,v2,v3] W Q:=zAM Tryz.func8 (by kernel_rfl) (by kernel_rfl) (by kernel_rfl) (by kernel_rfl) (by kernel_rfl) h
theorem zXw (v0 v1:Value) (K:zAI) (W:CW):zAJ prog pkL none 26 31 (zAG prog 26) (Env.args [v0,v1]) [] W K=(WCall prog pkL 47 [v0] W (zAK (fun v12 W0=>wV (ext v12 0) fun v13=>wV (ext v12 1) fun v14=>wVW (alc prog 78 W0) fun v6 W2=>wV (sto prog 78 v6 v13 W2) fun W3=>wV (ngt v14) fun v16=>wI v16 (K .ret (Env.of (Env.args [v0,v1]) [(5,(.int .i64 210)),(4,(.slice none 0 0)),(16,v16),(15,v14),(7,v14),(6,v6),(14,v14),(13,v13),(10,v12),(12,v12),(11,v0),(5,(.int .i64 0)),(4,(.slice none 0 0))]) [] W3) (wV (fad prog 78 v6 0) fun v18=>wV (ld prog 75 v18 W3) fun v19=>wV (lkp prog 75 v19 v1 true W3) fun v21=>wV (ext v21 0) fun v22=>wV (ext v21 1) fun v23=>wVW (alc prog 48 W3) fun v8 W4=>wV (sto prog 48 v8 v22 W4) fun W5=>wV (ngt v23) fun v25=>wI v25 (K .ret (Env.of (Env.args [v0,v1]) [(5,(.int .i64 213)),(4,(.slice none 0 0)),(25,v25),(24,v23),(9,v23),(8,v8),(23,v23),(22,v22),(17,v21),(21,v21),(20,v1),(19,v19),(18,v18),(16,v16),(15,v14),(7,v14),(6,v6),(14,v14),(13,v13),(10,v12),(12,v12),(11,v0),(5,(.int .i64 0)),(4,(.slice none 0 0))]) [] W5) (wV (fad prog 78 v6 1) fun v26=>wV (ld prog 76 v26 W5) fun v27=>wV (lkp prog 76 v27 v1 false W5) fun v29=>WCall prog pkL 83 [v29] W5 (zAK (fun v30 W6=>K .ret (Env.of (Env.args [v0,v1]) [(5,(.int .i64 0)),(4,v30),(30,v30),(29,v29),(28,v1),(27,v27),(26,v26),(25,v25),(24,v23),(9,v23),(8,v8),(23,v23),(22,v22),(17,v21),(21,v21),(20,v1),(19,v19),(18,v18),(16,v16),(15,v14),(7,v14),(6,v6),(14,v14),(13,v13),(10,v12),(12,v12),(11,v0),(5,(.int .i64 0)),(4,(.slice none 0 0))]) [] W6) (fun ch7 W7=>K (.panic ch7) (Env.of (Env.args [v0,v1]) [(29,v29),(28,v1),(27,v27),(26,v26),(25,v25),(24,v23),(9,v23),(8,v8),(23,v23),(22,v22),(17,v21),(21,v21),(20,v1),(19,v19),(18,v18),(16,v16),(15,v14),(7,v14),(6,v6),(14,v14),(13,v13),(10,v12),(12,v12),(11,v0),(5,(.int .i64 0)),(4,(.slice none 0 0))]) [] W7))))) (fun ch1 W1=>K (.panic ch1) (Env.of (Env.args [v0,v1]) [(11,v0),(5,(.int .i64 0)),(4,(.slice none 0 0))]) [] W1))):=by kernel_rfl
theorem zRJ (Q:Ending→CW→Prop) (e:Env) (W:CW):zAE prog Tryz.f26 Q .ret e [] W=Q (.returned (.tuple #[e 4,e 5])) W:=by kernel_rfl
theorem zXv {Q:Ending→CW→Prop} {v0 v1:Value} {W:CW} (h:zAJ prog pkL none 26 31 (zAG prog 26) (Env.args [v0,v1]) [] W (zAE prog Tryz.f26 Q)):WCall prog pkL 26 [v0,v1] W Q:=zAM Tryz.func26 (by kernel_rfl) (by kernel_rfl) (by kernel_rfl) (by kernel_rfl) (by kernel_rfl) h
end Go.Ce
namespace Go.Ce
section
variable (P:Program) (L:List FuncId)
def zSw (o:Oper):Bool:=match o.op with
 | .call c=>match c.callee with
  | .builtin b=>match b with
   | .recover=>c.args.toList.isEmpty && c.argTypes.toList.isEmpty
   | _=>false
  | _=>false
 | _=>false
def zW4 (o:Oper):Bool:=match o.op with
 | .alloc _=>true
 | _=>false
def zU2 (u:FrameMode) (K:Value→FrameMode→Prop):Prop:=match u with
 | .panicking ({ v,recovered:=false,goexit:=false }::older)=>K v (.panicking ({ v,recovered:=true }::older))
 | .returning=>K .nilIface .returning
 | _=>False
def zJy (ops:Array Oper):Nat→List Nat→List Oper→Env→FrameMode→CW→(Exit→Env→FrameMode→CW→Prop)→Prop
 | _,_,[],e,u,W,K=>K .normal e u W
 | i,sk,o::rest,e,u,W,K=>zHs sk ops o e fun b e=>cond b
   (cond (zSw o) (zU2 u fun v u=>zJy ops (i+1) sk rest (e.put o.dst v) u W K)
    (cond (zBb P o) (wV (puO P o e.ev) fun v=>zJy ops (i+1) sk rest (e.put o.dst v) u W K)
     (cond (zBs P o) (wV (rdO P o e.ev W) fun v=>zJy ops (i+1) sk rest (e.put o.dst v) u W K)
      (cond (zGt o) (wV (stO P o e.ev W) fun W=>zJy ops (i+1) sk rest (e.put o.dst undef) u W K)
       (cond (zW4 o) (wVW (alO P o e.ev W) fun v W=>zJy ops (i+1) sk rest (e.put o.dst v) u W K) False)))))
   (zJy ops (i+1) (i::sk) rest (e.put o.dst undef) u W K)
def sqS (Y:Env→FrameMode→CW→Prop) (K:Exit→Env→FrameMode→CW→Prop):Exit→Env→FrameMode→CW→Prop
 | .normal,e,u,W=>Y e u W
 | x,e,u,W=>K x e u W
def wS (fn:FuncId) (nt:Nat):Code→Env→FrameMode→CW→(Exit→Env→FrameMode→CW→Prop)→Prop
 | .region _ ops false,e,u,W,K=>zJy P ops 0 [] ops.toList e u W K
 | .seq x y,e,u,W,K=>wS fn nt x e u W (sqS (fun e u W=>wS fn nt y e u W K) K)
 | .cond c x y,e,u,W,K=>wI (e.ev c) (wS fn nt x e u W K) (wS fn nt y e u W K)
 | c,e,u,W,K=>zAJ P L none fn nt c e [] W fun x e ds W=>ds=[]∧K x e u W
end
section
variable {P:Program} {L:List FuncId} {R:CRec} {ops:Array Oper}
theorem zNX {o:Oper} (h:zSw o=true) {e:Operand→Value} {W:CW}:cop P o e W=some [(.recover,W)]:=by
 unfold zSw at h
 split at h
 ·rename_i c hc
  split at h
  ·rename_i b hcc
   split at h
   ·simp only [Bool.and_eq_true] at h; have h1:c.args.toList=[]:=by simpa using h.1
    have h2:c.argTypes.toList=[]:=by simpa using h.2
    simp only [cop,hc,hcc,h1,h2]; rfl
   ·cases h
  ·cases h
 ·cases h
theorem zIY {o:Oper} {rest:List Oper} {a:CAct} {u:FrameMode} {W W1:CW} {v:Value} {x:Exit × CAct × FrameMode × CW} (hw:zBT ops o a=true) (hc:cop P o a.eval W=some [(.value v,W1)]) (h:zBS P R ops rest (a.put o.dst v) u W1=some [x]):zBS P R ops (o::rest) a u W=some [x]:=by
 simp only [zBS,hw,hc]; exact zAi _ _ h
theorem zTC {o:Oper} {rest:List Oper} {a:CAct} {u:FrameMode} {W W1:CW} {x:Exit × CAct × FrameMode × CW} (hw:zBT ops o a=true) (hc:cop P o a.eval W=some [(.skip,W1)]) (h:zBS P R ops rest (a.put o.dst undef) u W1=some [x]):zBS P R ops (o::rest) a u W=some [x]:=by
 simp only [zBS,hw,hc]; exact zAi _ _ h
theorem zTD {o:Oper} {rest:List Oper} {a:CAct} {older:List PanicEntry} {W:CW} {v:Value} {x:Exit × CAct × FrameMode × CW} (hw:zBT ops o a=true) (hc:cop P o a.eval W=some [(.recover,W)]) (h:zBS P R ops rest (a.put o.dst v) (.panicking ({ v,recovered:=true }::older)) W=some [x]):zBS P R ops (o::rest) a (.panicking ({ v,recovered:=false }::older)) W=some [x]:=by
 simp only [zBS,hw,hc]; exact zAi _ _ h
theorem zTE {o:Oper} {rest:List Oper} {a:CAct} {W:CW} {x:Exit × CAct × FrameMode × CW} (hw:zBT ops o a=true) (hc:cop P o a.eval W=some [(.recover,W)]) (h:zBS P R ops rest (a.put o.dst .nilIface) .returning W=some [x]):zBS P R ops (o::rest) a .returning W=some [x]:=by
 simp only [zBS,hw,hc]; exact zAi _ _ h
theorem zBp {K:Exit→Env→FrameMode→CW→Prop}:∀ {rest:List Oper} {i:Nat} {sk:List Nat} {e:Env} {u:FrameMode} {W:CW} {a:CAct},
  zJy P ops i sk rest e u W K→AE a e []→∃ a' e' u' W',zBS P R ops rest a u W=some [(.normal,a',u',W')]∧AE a' e' []∧a'.nt=a.nt∧K .normal e' u' W'
 | [],i,sk,e,u,W,a,h,ha=>⟨a,e,u,W,rfl,ha,rfl,h⟩
 | o::rest,i,sk,e,u,W,a,h,ha=>by
  simp only [zJy] at h; obtain ⟨e1,ha1,h,hwt⟩:=zEp ha h
  cases hw:zBT ops o a with
  | false =>
   rw [hw] at h; obtain ⟨a',e',u',W',h1,h2,h3,h4⟩:=zBp h (ha1.put o.dst undef); exact ⟨a',e',u',W',by simp only [zBS,hw]; exact h1,h2,by rw [h3,CAct.put_nt],h4⟩
  | true =>
   rw [hw] at h; simp only [cond_true] at h
   cases hrec:zSw o with
   | true =>
    rw [hrec] at h; simp only [cond_true] at h; have hc:=zNX (P:=P) hrec (e:=a.eval) (W:=W); unfold zU2 at h
    split at h
    ·obtain ⟨a',e',u',W',h1,h2,h3,h4⟩:=zBp h (ha1.put o.dst _); exact ⟨a',e',u',W',zTD hw hc h1,h2,by rw [h3,CAct.put_nt],h4⟩
    ·obtain ⟨a',e',u',W',h1,h2,h3,h4⟩:=zBp h (ha1.put o.dst _); exact ⟨a',e',u',W',zTE hw hc h1,h2,by rw [h3,CAct.put_nt],h4⟩
    ·exact h.elim
   | false =>
    rw [hrec] at h; simp only [cond_false] at h
    cases hp:zBb P o with
    | true =>
     rw [hp] at h; simp only [cond_true] at h
     cases hx:puO P o e1.ev with
     | none=>rw [hx] at h; exact h.elim
     | some v =>
      rw [hx] at h; obtain ⟨a',e',u',W',h1,h2,h3,h4⟩:=zBp h (ha1.put o.dst v); exact ⟨a',e',u',W',zIY hw (by rw [zL8 hp,ha1.eval,hx]; rfl) h1,h2,by rw [h3,CAct.put_nt],h4⟩
    | false =>
     rw [hp] at h; simp only [cond_false] at h
     cases hr:zBs P o with
     | true =>
      rw [hr] at h; simp only [cond_true] at h
      cases hx:rdO P o e1.ev W with
      | none=>rw [hx] at h; exact h.elim
      | some v =>
       rw [hx] at h; obtain ⟨a',e',u',W',h1,h2,h3,h4⟩:=zBp h (ha1.put o.dst v); exact ⟨a',e',u',W',zIY hw (by rw [zHK hr,ha1.eval,hx]; rfl) h1,h2,by rw [h3,CAct.put_nt],h4⟩
     | false =>
      rw [hr] at h; simp only [cond_false] at h
      cases hs:zGt o with
      | true =>
       rw [hs] at h; simp only [cond_true] at h
       cases hx:stO P o e1.ev W with
       | none=>rw [hx] at h; exact h.elim
       | some W1 =>
        rw [hx] at h; obtain ⟨a',e',u',W',h1,h2,h3,h4⟩:=zBp h (ha1.put o.dst undef); exact ⟨a',e',u',W',zTC hw (by rw [zTn hs,ha1.eval,hx]; rfl) h1,h2,by rw [h3,CAct.put_nt],h4⟩
      | false =>
       rw [hs] at h; simp only [cond_false] at h
       cases hal:zW4 o with
       | false=>rw [hal] at h; exact h.elim
       | true =>
        rw [hal] at h; simp only [cond_true] at h; unfold zW4 at hal
        split at hal
        ·rename_i t ho; have hal2:alO P o e1.ev W=alc P t W:=by simp only [alO,ho]
         rw [hal2] at h
         have hcop:cop P o a.eval W=vwL (alc P t W):=by
          simp only [cop,ho,alc,vwL]
          cases zer P t with
          | none=>rfl
          | some z=>cases siz P t <;> rfl
         cases hx:alc P t W with
         | none=>rw [hx] at h; exact h.elim
         | some y =>
          obtain ⟨v,W1⟩:=y; rw [hx] at h; obtain ⟨a',e',u',W',h1,h2,h3,h4⟩:=zBp h (ha1.put o.dst v); exact ⟨a',e',u',W',zIY hw (by rw [hcop,hx]; rfl) h1,h2,by rw [h3,CAct.put_nt],h4⟩
        ·cases hal
theorem zR8 {fn:FuncId} {nt:Nat}:∀ {c:Code} {e:Env} {u:FrameMode} {W:CW} {K:Exit→Env→FrameMode→CW→Prop} {a:CAct},wS P L fn nt c e u W K→AE a e []→a.nt=nt →
  ∃ n x a' e' u' W',evS P (evC P L n) fn c a u W=some [(x,a',u',W')]∧AE a' e' []∧a'.nt=nt∧K x e' u' W':=by
 intro c
 have base:∀ {c:Code} {e:Env} {u:FrameMode} {W:CW} {K:Exit→Env→FrameMode→CW→Prop} {a:CAct},(∀ n,evS P (evC P L n) fn c a u W=(zBZ ((evC P L n).code none fn c a W) fun (e,a,W)=>some [(e,a,u,W)]))→zAJ P L none fn nt c e [] W (fun x e ds W=>ds=[]∧K x e u W)→AE a e []→a.nt=nt →
   ∃ n x a' e' u' W',evS P (evC P L n) fn c a u W=some [(x,a',u',W')]∧AE a' e' []∧a'.nt=nt∧K x e' u' W':=by
  intro c e u W K a he h ha hn; obtain ⟨n,⟨x,a1,W1⟩,h1,e1,h2,h3,h4,h5⟩:=zCE h a ha hn; refine ⟨n,x,a1,e1,u,W1,?_,by rw [h4] at h2; exact h2,h3,h5⟩; rw [he,h1]; exact zAi _ _ rfl
 induction c with
 | region id ops d =>
  intro e u W K a h ha hn
  cases d with
  | true=>exact base (fun n=>rfl) h ha hn
  | false =>
   obtain ⟨a',e',u',W',h1,h2,h3,h4⟩:=zBp (R:=evC P L 0) h ha; exact ⟨0,.normal,a',e',u',W',h1,h2,by rw [h3,hn],h4⟩
 | seq x y ihx ihy =>
  intro e u W K a h ha hn; obtain ⟨n,x1,a1,e1,u1,W1,h1,h2,h3,h4⟩:=ihx h ha hn
  cases x1 with
  | normal =>
   obtain ⟨m,x2,a2,e2,u2,W2,h5,h6,h7,h8⟩:=ihy h4 h2 h3; refine ⟨max n m,x2,a2,e2,u2,W2,?_,h6,h7,h8⟩; have h1':evS P (evC P L (max n m)) fn x a u W=some [(.normal,a1,u1,W1)]:=zKc (zBf (Nat.le_max_left n m)) h1; have h5':evS P (evC P L (max n m)) fn y a1 u1 W1=some [(x2,a2,u2,W2)]:=zKc (zBf (Nat.le_max_right n m)) h5; simp only [evS,h1']; exact zAi _ _ h5'
  | _ =>
   refine ⟨n,_,a1,e1,u1,W1,?_,h2,h3,h4⟩; simp only [evS,h1]; exact zAi _ _ rfl
 | cond c x y ihx ihy =>
  intro e u W K a h ha hn; obtain ⟨b,hb,h⟩:=zPv h; have hc:a.eval c=.bool b:=by rw [ha.eval]; exact hb
  cases b with
  | true =>
   obtain ⟨n,x1,a1,e1,u1,W1,h1,h2⟩:=ihx h ha hn; exact ⟨n,x1,a1,e1,u1,W1,by simp only [evS,hc]; exact h1,h2⟩
  | false =>
   obtain ⟨n,x1,a1,e1,u1,W1,h1,h2⟩:=ihy h ha hn; exact ⟨n,x1,a1,e1,u1,W1,by simp only [evS,hc]; exact h1,h2⟩
 | _=>intro e u W K a h ha hn; exact base (fun n=>rfl) h ha hn
def zHT (P:Program) (L:List FuncId) (f:FuncId) (args:List Value) (u:FrameMode) (W:CW) (Q:FrameMode→CW→Prop):Prop:=∃ n v u' W',(evC P L n).dcall f args u W=some [(.returned v,u',W')]∧Q u' W'
theorem zK8 {f:FuncId} {fn:Func} {c:Code} {args:List Value} {u:FrameMode} {W:CW} {Q:FrameMode→CW→Prop} (hL:zB1 L f=true) (hf:P.funcs[f]?=some fn) (hc:fn.body=some c) (hle:Nat.ble args.length fn.ntmps=true)
  (h:wS P L f fn.ntmps c (Env.args args) u W fun x e u W=>(x=.normal∨x=.ret)∧(∃ v,zBB P fn.results.toList e W=some v)∧Q u W):zHT P L f args u W Q:=by
 obtain ⟨n,x,a,e,u',W',h1,h2,h3,hx,⟨v,hv⟩,hq⟩:=zR8 h (zKs fn args) rfl; refine ⟨n+1,v,u',W',?_,hq⟩; rw [zC6]; simp only [zBD,hL,hf,hc,hle,Bool.not_true,cond_false,cond_true]; rw [h1]; refine zAi _ _ ?_; have hd:a.defers=[]:=h2.2; have hr:=zGk (e:=e) (ds:=[]) h2 hv; rcases hx with rfl | rfl <;> simp only [hd,List.isEmpty_nil,cond_true,hr]
def wLv (P:Program) (L:List FuncId) (fn:Func) (Q:Ending→CW→Prop) (e:Env):List Deferred→FrameMode→CW→Prop
 | [],u,W=>match u with
  | .returning=>wV (zBB P fn.results.toList e W) fun v=>Q (.returned v) W
  | .panicking ch=>Q (.panicked ch) W
  | .run=>False
 | d::ds,u,W=>match d.target with
  | .fn (.func f) cap=>zHT P L f (d.args.toList++cap.toList) u W fun u' W'=>wLv P L fn Q e ds (settle u') W'
  | _=>False
theorem zF8 {fn:Func} {a:CAct} {e:Env} {Q:Ending→CW→Prop} (ha:AE a e a.defers):∀ (ds:List Deferred) (u:FrameMode) (W:CW),wLv P L fn Q e ds u W→∃ n o,zA0 P (evC P L n) fn a ds u W=some [o]∧Q o.1 o.2
 | [],u,W,h=>by
  cases u with
  | returning =>
   cases hv:zBB P fn.results.toList e W with
   | none=>simp only [wLv,hv] at h; exact h.elim
   | some v =>
    simp only [wLv,hv] at h; exact ⟨0,(.returned v,W),by simp only [zA0,zGk ha hv],h⟩
  | panicking ch=>exact ⟨0,(.panicked ch,W),rfl,h⟩
  | run=>exact h.elim
 | d::ds,u,W,h=>by
  obtain ⟨tg,argz⟩:=d
  cases tg with
  | fn f cap =>
   cases f with
   | func f =>
    obtain ⟨n,v,u',W',h1,h2⟩:=h; obtain ⟨m,o,h3,h4⟩:=zF8 ha ds _ _ h2; refine ⟨max n m,o,?_,h4⟩; have h1':(evC P L (max n m)).dcall f (argz.toList++cap.toList) u W=some [(.returned v,u',W')]:=(zBf (Nat.le_max_left n m)).dcall h1; have h3':zA0 P (evC P L (max n m)) fn a ds (settle u') W'=some [o]:=zBe (zBf (Nat.le_max_right n m)) h3; simp only [zA0]; rw [h1']; exact zAi _ _ h3'
   | _=>exact h.elim
  | _=>exact h.elim
theorem zSA {f:FuncId} {fn:Func} {c:Code} {args:List Value} {W:CW} {Q:Ending→CW→Prop} (hL:zB1 L f=true) (hL2:zB1 L (f+1000000)=false) (hL3:zB1 L (f+2000000)=false) (hf:P.funcs[f]?=some fn) (hc:fn.body=some c)
  (hle:Nat.ble args.length fn.ntmps=true) (h:zAJ P L none f fn.ntmps c (Env.args args) [] W fun x e ds W=>match x with
   | .normal=>wLv P L fn Q e ds .returning W
   | .ret=>wLv P L fn Q e ds .returning W
   | .panic ch=>(∀ k n m,e 0≠.complex k n m)∧wLv P L fn Q e ds (.panicking ch) W
   | _=>False):WCall P L f args W Q:=by
 obtain ⟨n,⟨x,a,W1⟩,h1,e,h2,h3,h4⟩:=zCE h (zDc fn args) (zKs fn args) rfl; simp only at h2 h4
 have key:∀ {m:Nat} {o:Ending × CW},behind P (evC P L (max n m)) fn x a W1=some [o]→(evC P L (max n m+1)).call f args W=some [o]:=by
  intro m o ho; rw [zC6]; simp only [zBD,hL,hL2,hL3,hf,hc,hle,Bool.not_true,cond_false,cond_true,Bool.false_and]; rw [zCz (Nat.le_max_left n m) h1]; refine zB0 ?_; rw [←ho]
  cases x <;> rfl
 cases x with
 | normal =>
  obtain ⟨m,o,e1,e2⟩:=zF8 h2 a.defers .returning W1 h4; exact ⟨_,o,key (m:=m) (zBe (zBf (Nat.le_max_right n m)) e1),e2⟩
 | ret =>
  obtain ⟨m,o,e1,e2⟩:=zF8 h2 a.defers .returning W1 h4; exact ⟨_,o,key (m:=m) (zBe (zBf (Nat.le_max_right n m)) e1),e2⟩
 | panic ch =>
  obtain ⟨hb,h4⟩:=h4; obtain ⟨m,o,e1,e2⟩:=zF8 h2 a.defers (.panicking ch) W1 h4; refine ⟨_,o,key (m:=m) ?_,e2⟩
  have hbad:a.isBad=false:=by
   unfold CAct.isBad
   split
   ·rename_i n m hg
    exfalso
    refine hb .f64 n m ?_; rw [←h2.1 0]; unfold CAct.at
    rw [hg]; rfl
   ·rfl
  show cond a.isBad _ _=_; rw [hbad]; exact zBe (zBf (Nat.le_max_right n m)) e1
 | _=>exact h4.elim
end
end Go.Ce
namespace Go.Ce
open Go Go.Proofs Go.Proofs.Tryz
def zRM (ro:Option Nat) (K:zAI):zAI:=zA5 (fun e ds W=>wV (ld prog 24 (e 12) W) fun v52=>wV (ld prog 24 (e 12) W) fun v53=>wV (zAm prog 24 v53 W) fun v54=>wVW (blt prog .min [3,3] [v54,(.int .i64 1)] W) fun v55 W11=>(((True)∧zAm prog 24 v53 W=some v54)∧(((True)∧ld prog 24 (e 12) W=some v53)∧(((ld prog 24 (e 12) W11=some v52)∧ld prog 24 (e 12) W=some v52)∧True)))∧True∧K .ret (Env.of e [(8,(.int .i64 0)),(7,v55),(6,v52),(55,v55),(54,v54),(53,v53),(52,v52)]) ds W11) K
theorem zXy (v0 v1 v2:Value) (K:zAI) (W:CW):zAJ prog pkL none 19 56 (zAG prog 19) (Env.args [v0,v1,v2]) [] W K=(WCall prog pkL 47 [v0] W (zAK (fun v18 W0=>wV (ext v18 0) fun v19=>wV (ext v18 1) fun v20=>wVW (alc prog 78 W0) fun v9 W2=>wV (sto prog 78 v9 v19 W2) fun W3=>wV (ngt v20) fun v22=>wI v22 (K .ret (Env.of (Env.args [v0,v1,v2]) [(8,(.int .i64 210)),(7,(.int .i64 0)),(6,(.slice none 0 0)),(22,v22),(21,v20),(10,v20),(9,v9),(20,v20),(19,v19),(16,v18),(18,v18),(17,v0),(8,(.int .i64 0)),(7,(.int .i64 0)),(6,(.slice none 0 0))]) [] W3) (wV (ld prog 78 v9 W3) fun v24=>WCall prog pkL 48 [v24,v1] W3 (zAK (fun v26 W4=>wV (ext v26 0) fun v27=>wV (ext v26 1) fun v28=>wVW (alc prog 83 W4) fun v11 W6=>wV (sto prog 83 v11 v27 W6) fun W7=>wV (ngt v28) fun v30=>wI v30 (K .ret (Env.of (Env.args [v0,v1,v2]) [(8,(.int .i64 212)),(7,(.int .i64 0)),(6,(.slice none 0 0)),(30,v30),(29,v28),(10,v28),(11,v11),(28,v28),(27,v27),(23,v26),(26,v26),(25,v1),(24,v24),(22,v22),(21,v20),(10,v20),(9,v9),(20,v20),(19,v19),(16,v18),(18,v18),(17,v0),(8,(.int .i64 0)),(7,(.int .i64 0)),(6,(.slice none 0 0))]) [] W7) (wVW (alc prog 24 W7) fun v12 W8=>wV (some (.func (.func 73) #[] #[v9,v11,v12])) fun v32=>WCall prog pkL 72 [v2,v32] W8 (zAK (fun v33 W9=>wV (zAL prog .neq 30 true v33 (.int .i64 0)) fun v35=>wI v35 (K .ret (Env.of (Env.args [v0,v1,v2]) [(8,v33),(7,(.int .i64 0)),(6,(.slice none 0 0)),(36,v33),(35,v35),(34,v33),(13,v33),(33,v33),(32,v32),(31,v2),(12,v12),(30,v30),(29,v28),(10,v28),(11,v11),(28,v28),(27,v27),(23,v26),(26,v26),(25,v1),(24,v24),(22,v22),(21,v20),(10,v20),(9,v9),(20,v20),(19,v19),(16,v18),(18,v18),(17,v0),(8,(.int .i64 0)),(7,(.int .i64 0)),(6,(.slice none 0 0))]) [] W9) (wV (ld prog 24 v12 W9) fun v37=>wV (zAm prog 24 v37 W9) fun v38=>zCg prog pkL none 19 56 (.loop (zAS prog 19 0)) (Env.of (Env.args [v0,v1,v2]) [(39,(.int .i64 0)),(38,v38),(37,v37),(35,v35),(34,v33),(13,v33),(33,v33),(32,v32),(31,v2),(12,v12),(30,v30),(29,v28),(10,v28),(11,v11),(28,v28),(27,v27),(23,v26),(26,v26),(25,v1),(24,v24),(22,v22),(21,v20),(10,v20),(9,v9),(20,v20),(19,v19),(16,v18),(18,v18),(17,v0),(8,(.int .i64 0)),(7,(.int .i64 0)),(6,(.slice none 0 0))]) [] W9 (zBm 0 (zRM none K)))) (fun ch10 W10=>K (.panic ch10) (Env.of (Env.args [v0,v1,v2]) [(32,v32),(31,v2),(12,v12),(30,v30),(29,v28),(10,v28),(11,v11),(28,v28),(27,v27),(23,v26),(26,v26),(25,v1),(24,v24),(22,v22),(21,v20),(10,v20),(9,v9),(20,v20),(19,v19),(16,v18),(18,v18),(17,v0),(8,(.int .i64 0)),(7,(.int .i64 0)),(6,(.slice none 0 0))]) [] W10)))) (fun ch5 W5=>K (.panic ch5) (Env.of (Env.args [v0,v1,v2]) [(25,v1),(24,v24),(22,v22),(21,v20),(10,v20),(9,v9),(20,v20),(19,v19),(16,v18),(18,v18),(17,v0),(8,(.int .i64 0)),(7,(.int .i64 0)),(6,(.slice none 0 0))]) [] W5)))) (fun ch1 W1=>K (.panic ch1) (Env.of (Env.args [v0,v1,v2]) [(17,v0),(8,(.int .i64 0)),(7,(.int .i64 0)),(6,(.slice none 0 0))]) [] W1))):=by kernel_rfl
def zRL (ro:Option Nat) (K:zAI):zAI:=zA5 (fun e ds W=>wV (zAL prog .add 3 true (e 39) (.int .i64 1)) fun v51=>K .normal (Env.of e [(39,v51),(51,v51)]) ds W) K
theorem zVg (ro:Option Nat) (e:Env) (ds:List Deferred) (K:zAI) (W:CW):zAJ prog pkL ro 19 56 (zAS prog 19 0) e ds W K=(wV (zAL prog .lss 3 false (e 39) (e 38)) fun v40=>wI v40 (wV (iad prog 24 (e 37) (e 39)) fun v42=>wV (ld prog 56 v42 W) fun v43=>wVW (alc prog 56 W) fun v15 W14=>wV (sto prog 56 v15 v43 W14) fun W15=>wV (ld prog 24 (e 12) W15) fun v44=>wV (ld prog 83 (e 11) W15) fun v46=>wV (ld prog 78 (e 9) W15) fun v47=>wV (ld prog 56 v15 W15) fun v48=>WCall prog pkL 77 [v46,v47,v48] W15 (zAK (fun v49 W16=>wV (iad prog 24 v44 (e 39)) fun v50=>wV (sto prog 56 v50 v49 W16) fun W18=>(((True)∧((True)∧ld prog 56 v15 W15=some v48))∧(((True)∧((True)∧ld prog 78 (e 9) W15=some v47))∧(((True)∧((True)∧ld prog 83 (e 11) W15=some v46))∧(((True)∧((ld prog 24 (e 12) W16=some v44)∧ld prog 24 (e 12) W15=some v44))∧True))))∧True∧(zRL ro K) .normal (Env.of e [(50,v50),(49,v49),(48,v48),(47,v47),(46,v46),(45,(e 39)),(44,v44),(14,(e 39)),(15,v15),(43,v43),(42,v42),(41,(e 39)),(40,v40)]) ds W18) (fun ch17 W17=>False))) (K (.exit 0) (Env.of e [(40,v40)]) ds W)):=by kernel_rfl
theorem zRK (Q:Ending→CW→Prop) (e:Env) (W:CW):zAE prog Tryz.f19 Q .ret e [] W=Q (.returned (.tuple #[e 6,e 7,e 8])) W:=by kernel_rfl
theorem zXx {Q:Ending→CW→Prop} {v0 v1 v2:Value} {W:CW} (h:zAJ prog pkL none 19 56 (zAG prog 19) (Env.args [v0,v1,v2]) [] W (zAE prog Tryz.f19 Q)):WCall prog pkL 19 [v0,v1,v2] W Q:=zAM Tryz.func19 (by kernel_rfl) (by kernel_rfl) (by kernel_rfl) (by kernel_rfl) (by kernel_rfl) h
theorem zXO (v0 v1:Value) (K:zAI) (W:CW):zAJ prog pkL none 72 14 (zAG prog 72) (Env.args [v0,v1]) [] W K=(wVW (alc prog 30 W) fun v4 W0=>wV (zAm prog 29 v0 W0) fun v6=>wV (zAL prog .gtr 3 true v6 (.int .i64 100000)) fun v7=>wI v7 (wV (sto prog 30 v4 (.int .i64 2) W0) fun W1=>K .ret (Env.of (Env.args [v0,v1]) [(7,v7),(6,v6),(5,v0),(4,v4)]) [] W1) (wV (bld prog 170 [(0,v0)]) fun v11=>wVW (bxw prog 170 v11 W0) fun v12 W2=>zBq prog pkL v1 [v12] W2 (fun v13 W3=>wV (sto prog 30 v4 (.int .i64 0) W3) fun W5=>K .ret (Env.of (Env.args [v0,v1]) [(13,v13),(12,v12),(11,v11),(10,v0),(9,v1),(8,(.func (.func 109) #[] #[v4])),(7,v7),(6,v6),(5,v0),(4,v4)]) (({ target:=.fn (.func 109) #[v4],args:=#[] }:Deferred)::[]) W5) (fun ch4 W4=>K (.panic ch4) (Env.of (Env.args [v0,v1]) [(12,v12),(11,v11),(10,v0),(9,v1),(8,(.func (.func 109) #[] #[v4])),(7,v7),(6,v6),(5,v0),(4,v4)]) (({ target:=.fn (.func 109) #[v4],args:=#[] }:Deferred)::[]) W4))):=by kernel_rfl
theorem zXN (v0 v1 v2 v3:Value) (K:zAI) (W:CW):zAJ prog pkL none 73 9 (zAG prog 73) (Env.args [v0,v1,v2,v3]) [] W K=(wV (ld prog 78 v1 W) fun v6=>wV (some (.func (.func 75) #[] #[v1,v2])) fun v7=>WCall prog pkL 74 [v0,v6,v7] W (zAK (fun v8 W0=>wV (sto prog 24 v3 v8 W0) fun W2=>K .normal (Env.of (Env.args [v0,v1,v2,v3]) [(8,v8),(7,v7),(6,v6),(5,v0)]) [] W2) (fun ch1 W1=>K (.panic ch1) (Env.of (Env.args [v0,v1,v2,v3]) [(7,v7),(6,v6),(5,v0)]) [] W1))):=by kernel_rfl
theorem zXM {Q:Ending→CW→Prop} {v0 v1 v2 v3:Value} {W:CW} (h:zAJ prog pkL none 73 9 (zAG prog 73) (Env.args [v0,v1,v2,v3]) [] W (zAE prog Tryz.f73 Q)):WCall prog pkL 73 [v0,v1,v2,v3] W Q:=zAM Tryz.func73 (by kernel_rfl) (by kernel_rfl) (by kernel_rfl) (by kernel_rfl) (by kernel_rfl) h
def zD9 (ro:Option Nat) (K:zAI):zAI:=zA5 (fun e ds W=>K .ret (Env.of e [(6,(e 11)),(139,(e 11))]) ds W) K
def zNF (ro:Option Nat) (K:zAI):zAI:=zA5 (fun e ds W=>wV (ld prog 3 (e 10) W) fun v117=>wV (ld prog 3 (e 8) W) fun v118=>wV (zAL prog .eql 3 false v117 v118) fun v119=>wI v119 (wV (zAm prog 51 (e 7) W) fun v123=>wV (zAL prog .eql 3 false (e 9) v123) fun v124=>wI v124 (wV (ld prog 124 (e 3) W) fun v127=>wV (nck v127) fun v128=>wV (fad prog 170 v128 1) fun v129=>wV (ld prog 3 v129 W) fun v130=>wV (ld prog 124 (e 3) W) fun v131=>wV (nck v131) fun v132=>wV (fad prog 170 v132 0) fun v133=>wV (ld prog 29 v133 W) fun v134=>wV (zAm prog 29 v134 W) fun v135=>wV (zAL prog .eql 3 false v130 v135) fun v136=>WCall prog pkL 76 [v136,(.int .i64 4)] W (zAK (fun v138 W11=>(((True)∧zAm prog 29 v134 W=some v135)∧(((True)∧ld prog 29 v133 W=some v134)∧(((True)∧ld prog 124 (e 3) W=some v131)∧(((True)∧ld prog 3 v129 W=some v130)∧(((True)∧ld prog 124 (e 3) W=some v127)∧(((True)∧zAm prog 51 (e 7) W=some v123)∧(((True)∧ld prog 3 (e 8) W=some v118)∧(((True)∧ld prog 3 (e 10) W=some v117)∧True))))))))∧True∧(zD9 ro K) .normal (Env.of e [(138,v138),(137,v136),(136,v136),(126,(.bool true)),(135,v135),(126,(.bool true)),(134,v134),(126,(.bool true)),(133,v133),(126,(.bool true)),(132,v132),(126,(.bool true)),(131,v131),(126,(.bool true)),(130,v130),(126,(.bool true)),(129,v129),(126,(.bool true)),(128,v128),(126,(.bool true)),(127,v127),(126,(.bool true)),(126,v124),(125,v124),(124,v124),(120,(.bool true)),(123,v123),(120,(.bool true)),(122,(e 7)),(120,(.bool true)),(121,(e 9)),(120,(.bool true)),(120,v119),(119,v119),(118,v118),(117,v117)]) ds W11) (fun ch12 W12=>(zAm prog 29 v134 W=some v135∧(ld prog 29 v133 W=some v134∧(ld prog 124 (e 3) W=some v131∧(ld prog 3 v129 W=some v130∧(ld prog 124 (e 3) W=some v127∧(zAm prog 51 (e 7) W=some v123∧(ld prog 3 (e 8) W=some v118∧(ld prog 3 (e 10) W=some v117∧True))))))))∧(zD9 ro K) (.panic ch12) Env.bad ds W12))) (WCall prog pkL 76 [(.bool false),(.int .i64 4)] W (zAK (fun v138 W13=>(((True)∧zAm prog 51 (e 7) W=some v123)∧(((True)∧ld prog 3 (e 8) W=some v118)∧(((True)∧ld prog 3 (e 10) W=some v117)∧True)))∧True∧(zD9 ro K) .normal (Env.of e [(138,v138),(137,(.bool false)),(136,undef),(126,(.bool false)),(135,undef),(126,(.bool false)),(134,undef),(126,(.bool false)),(133,undef),(126,(.bool false)),(132,undef),(126,(.bool false)),(131,undef),(126,(.bool false)),(130,undef),(126,(.bool false)),(129,undef),(126,(.bool false)),(128,undef),(126,(.bool false)),(127,undef),(126,(.bool false)),(126,v124),(125,v124),(124,v124),(120,(.bool true)),(123,v123),(120,(.bool true)),(122,(e 7)),(120,(.bool true)),(121,(e 9)),(120,(.bool true)),(120,v119),(119,v119),(118,v118),(117,v117)]) ds W13) (fun ch14 W14=>(zAm prog 51 (e 7) W=some v123∧(ld prog 3 (e 8) W=some v118∧(ld prog 3 (e 10) W=some v117∧True)))∧(zD9 ro K) (.panic ch14) Env.bad ds W14)))) (WCall prog pkL 76 [(.bool false),(.int .i64 4)] W (zAK (fun v138 W15=>(((True)∧ld prog 3 (e 8) W=some v118)∧(((True)∧ld prog 3 (e 10) W=some v117)∧True))∧True∧(zD9 ro K) .normal (Env.of e [(138,v138),(137,(.bool false)),(136,undef),(126,(.bool false)),(135,undef),(126,(.bool false)),(134,undef),(126,(.bool false)),(133,undef),(126,(.bool false)),(132,undef),(126,(.bool false)),(131,undef),(126,(.bool false)),(130,undef),(126,(.bool false)),(129,undef),(126,(.bool false)),(128,undef),(126,(.bool false)),(127,undef),(126,(.bool false)),(126,(.bool false)),(125,(.bool false)),(124,undef),(120,(.bool false)),(123,undef),(120,(.bool false)),(122,undef),(120,(.bool false)),(121,undef),(120,(.bool false)),(120,v119),(119,v119),(118,v118),(117,v117)]) ds W15) (fun ch16 W16=>(ld prog 3 (e 8) W=some v118∧(ld prog 3 (e 10) W=some v117∧True))∧(zD9 ro K) (.panic ch16) Env.bad ds W16)))) K
theorem zXL (v0 v1 v2:Value) (K:zAI) (W:CW):zAJ prog pkL none 74 140 (zAG prog 74) (Env.args [v0,v1,v2]) [] W K=(wVW (bxw prog 124 v0 W) fun v3 W0=>wVW (bxw prog 78 v1 W0) fun v4 W1=>wV (ld prog 124 v3 W1) fun v19=>WCall prog pkL 92 [v19,v2] W1 (zAK (fun v21 W2=>wV (ld prog 124 v3 W2) fun v22=>WCall prog pkL 110 [v22,(.int .i64 1000)] W2 (zAK (fun v23 W4=>wVW (alc prog 3 W4) fun v8 W6=>wV (sto prog 3 v8 v23 W6) fun W7=>wV (ld prog 3 v8 (W7.new (.cells .nil 1 #[.int .i64 0] 3))) fun v24=>wVW (blt prog .min [3,3] [v24,(.int .i64 1)] (W7.new (.cells .nil 1 #[.int .i64 0] 3))) fun v25 W8=>true=true∧wV (sto prog 3 (.pointer (some ⟨W7.sz,0,none⟩)) v25 W8) fun W9=>(((True)∧((True)∧ld prog 3 v8 (W7.new (.cells .nil 1 #[.int .i64 0] 3))=some v24))∧True)∧(((True)∧((zM7 (.pointer (some ⟨W7.sz,0,none⟩)) ((W7.new (.cells .nil 1 #[.int .i64 0] 3)).obj W7.sz) W8=true)∧zM7 (.pointer (some ⟨W7.sz,0,none⟩)) ((W7.new (.cells .nil 1 #[.int .i64 0] 3)).obj W7.sz) (W7.new (.cells .nil 1 #[.int .i64 0] 3))=true))∧True)∧wV (ld prog 3 v8 W9) fun v26=>zCg prog pkL none 74 140 (.loop (zAS prog 74 0)) (Env.of (Env.args [v0,v1,v2]) [(27,(.int .i64 0)),(26,v26),(11,(.slice none 0 0)),(9,(.int .i64 0)),(10,(.pointer (some ⟨W7.sz,0,none⟩))),(25,v25),(24,v24),(8,v8),(23,v23),(22,v22),(7,v21),(21,v21),(20,v2),(19,v19),(6,(.slice none 0 0)),(4,v4),(3,v3)]) [] W9 (zBm 0 (zNF none K))) (fun ch5 W5=>K (.panic ch5) (Env.of (Env.args [v0,v1,v2]) [(22,v22),(7,v21),(21,v21),(20,v2),(19,v19),(6,(.slice none 0 0)),(4,v4),(3,v3)]) [] W5))) (fun ch3 W3=>K (.panic ch3) (Env.of (Env.args [v0,v1,v2]) [(20,v2),(19,v19),(6,(.slice none 0 0)),(4,v4),(3,v3)]) [] W3))):=by kernel_rfl
def zDN (ro:Option Nat) (K:zAI):zAI:=zA5 (fun e ds W=>wV (zAL prog .add 3 true (e 27) (.int .i64 1)) fun v116=>K .normal (Env.of e [(27,v116),(116,v116)]) ds W) K
def zKW (ro:Option Nat) (K:zAI):zAI:=zA5 (fun e ds W=>wV (ld prog 56 (e 14) W) fun v113=>wVW (bsl prog 24 1 [(0,v113)] W) fun v114 W28=>wVW (app prog [24,24] (e 11) v114 W28) fun v115 W29=>(zDN ro K) .normal (Env.of e [(11,v115),(115,v115),(114,v114),(113,v113),(112,(e 11))]) ds W29) (zBm 1 (zDN ro K))
def zFl (ro:Option Nat) (K:zAI):zAI:=zA5 (fun e ds W=>wVW (mks prog 40 (e 15) (e 15) W) fun v67 W26=>wV (fad prog 56 (e 14) 1) fun v68=>wV (sto prog 40 v68 v67 W26) fun W27=>wV (ld prog 78 (e 4) W27) fun v69=>wV (ld prog 56 (e 14) W27) fun v70=>WCall prog pkL 62 [v69,v70] W27 (zAK (fun v71 W31=>zCg prog pkL ro 74 140 (.rangeFunc (.tmp 71) #[72,73] (rfA prog 74 0) (rfB prog 74 0)) (Env.of e [(71,v71),(70,v70),(69,v69),(68,v68),(67,v67),(66,(e 15))]) ds W31 (zBm 2 (zKW ro K))) (fun ch32 W32=>(zKW ro K) (.panic ch32) (Env.of e [(70,v70),(69,v69),(68,v68),(67,v67),(66,(e 15))]) ds W32))) (zBm 1 (zDN ro K))
def zKV (ro:Option Nat) (K:zAI):zAI:=zA5 (fun e ds W=>wV (iad prog 51 (e 7) (e 13)) fun v48=>wV (ld prog 9 v48 W) fun v49=>wV (bld prog 56 [(0,v49)]) fun v50=>wVW (alc prog 56 W) fun v14 W24=>wV (sto prog 56 v14 v50 W24) fun W25=>wV (fad prog 78 (e 4) 1) fun v51=>wV (ld prog 76 v51 W25) fun v52=>wV (fad prog 56 v14 0) fun v53=>wV (ld prog 9 v53 W25) fun v54=>wV (lkp prog 76 v52 v54 false W25) fun v55=>wV (zAm prog 29 v55 W25) fun v56=>wV (fad prog 78 (e 4) 0) fun v57=>wV (ld prog 75 v57 W25) fun v58=>wV (fad prog 56 v14 0) fun v59=>wV (ld prog 9 v59 W25) fun v60=>wV (lkp prog 75 v58 v60 false W25) fun v61=>wV (fld prog 48 v61 3) fun v62=>wV (zAL prog .neq 5 true v62 (.int .u8 0)) fun v63=>wI v63 (wV (ld prog 124 (e 3) W25) fun v64=>WCall prog pkL 110 [v64,(.int .i64 200)] W25 (zAK (fun v65 W34=>(zFl ro K) .normal (Env.of e [(15,v65),(65,v65),(64,v64),(63,v63),(62,v62),(61,v61),(60,v60),(59,v59),(58,v58),(57,v57),(15,v56),(56,v56),(55,v55),(54,v54),(53,v53),(52,v52),(51,v51),(14,v14),(50,v50),(49,v49),(48,v48),(47,(e 13)),(46,(e 7))]) ds W34) (fun ch35 W35=>(zFl ro K) (.panic ch35) (Env.of e [(64,v64),(63,v63),(62,v62),(61,v61),(60,v60),(59,v59),(58,v58),(57,v57),(15,v56),(56,v56),(55,v55),(54,v54),(53,v53),(52,v52),(51,v51),(14,v14),(50,v50),(49,v49),(48,v48),(47,(e 13)),(46,(e 7))]) ds W35))) ((zFl ro K) .normal (Env.of e [(63,v63),(62,v62),(61,v61),(60,v60),(59,v59),(58,v58),(57,v57),(15,v56),(56,v56),(55,v55),(54,v54),(53,v53),(52,v52),(51,v51),(14,v14),(50,v50),(49,v49),(48,v48),(47,(e 13)),(46,(e 7))]) ds W25)) (zBm 1 (zDN ro K))
theorem zVN (ro:Option Nat) (e:Env) (ds:List Deferred) (K:zAI) (W:CW):zAJ prog pkL ro 74 140 (zAS prog 74 0) e ds W K=(wV (zAL prog .lss 3 false (e 27) (e 26)) fun v28=>wI v28 (wV (ld prog 3 (e 10) W) fun v31=>wV (zAL prog .lss 3 false (e 27) v31) fun v32=>WCall prog pkL 76 [v32,(.int .i64 4)] W (zAK (fun v33 W19=>wV (ld prog 124 (e 3) W19) fun v34=>wV (zAm prog 51 (e 7) W19) fun v37=>wV (zAL prog .sub 3 true v37 (.int .i64 1)) fun v38=>wVW (blt prog .min [3,3] [(e 9),v38] W19) fun v39 W21=>WCall prog pkL 110 [v34,v39] W21 (zAK (fun v40 W22=>wV (zAL prog .eql 3 false v40 (e 9)) fun v43=>wI v43 (wV (zAL prog .add 3 true (e 9) (.int .i64 1)) fun v45=>(zKV ro K) .normal (Env.of e [(9,v45),(45,v45),(44,(e 9)),(43,v43),(42,(e 9)),(41,v40),(13,v40),(40,v40),(39,v39),(38,v38),(37,v37),(36,(e 7)),(35,(e 9)),(34,v34),(33,v33),(32,v32),(31,v31),(30,(e 27)),(12,(e 27)),(29,(e 27)),(28,v28)]) ds W22) ((zKV ro K) .normal (Env.of e [(43,v43),(42,(e 9)),(41,v40),(13,v40),(40,v40),(39,v39),(38,v38),(37,v37),(36,(e 7)),(35,(e 9)),(34,v34),(33,v33),(32,v32),(31,v31),(30,(e 27)),(12,(e 27)),(29,(e 27)),(28,v28)]) ds W22)) (fun ch23 W23=>(zDN ro K) (.panic ch23) (Env.of e [(39,v39),(38,v38),(37,v37),(36,(e 7)),(35,(e 9)),(34,v34),(33,v33),(32,v32),(31,v31),(30,(e 27)),(12,(e 27)),(29,(e 27)),(28,v28)]) ds W23))) (fun ch20 W20=>(zDN ro K) (.panic ch20) (Env.of e [(32,v32),(31,v31),(30,(e 27)),(12,(e 27)),(29,(e 27)),(28,v28)]) ds W20))) (K (.exit 0) (Env.of e [(28,v28)]) ds W)):=by kernel_rfl
theorem zVP (ro:Option Nat) (e:Env) (ds:List Deferred) (K:zAI) (W:CW):zAJ prog pkL ro 74 140 (rfA prog 74 0) e ds W K=(K .normal (Env.of e [(17,(e 73)),(16,(e 72))]) ds W):=by kernel_rfl
theorem zVO (ro:Option Nat) (e:Env) (ds:List Deferred) (K:zAI) (W:CW):zAJ prog pkL ro 74 140 (rfB prog 74 0) e ds W K=(wV (zAL prog .eql 5 true (e 17) (.int .u8 2)) fun v75=>wI v75 (wV (fad prog 56 (e 14) 1) fun v76=>wV (ld prog 40 v76 W) fun v77=>wV (ld prog 124 (e 3) W) fun v79=>wV (ld prog 3 (e 10) W) fun v80=>wV (zAL prog .add 3 true v80 (.int .i64 1)) fun v81=>wV (ld prog 3 (e 8) W) fun v82=>wVW (blt prog .min [3,3] [v81,v82] W) fun v83 W37=>WCall prog pkL 110 [v79,v83] W37 (zAK (fun v84 W38=>wV (iad prog 40 v77 (e 16)) fun v85=>wV (sto prog 3 v85 v84 W38) fun W40=>(((True)∧((True)∧((True)∧ld prog 3 (e 8) W=some v82)))∧(((True)∧((True)∧((True)∧ld prog 3 (e 10) W=some v80)))∧(((True)∧((True)∧((ld prog 124 (e 3) W37=some v79)∧ld prog 124 (e 3) W=some v79)))∧(((True)∧((ld prog 40 v76 W38=some v77)∧((ld prog 40 v76 W37=some v77)∧ld prog 40 v76 W=some v77)))∧True))))∧True∧wV (ld prog 3 (e 10) W40) fun v86=>wV (fad prog 56 (e 14) 1) fun v87=>wV (ld prog 40 v87 W40) fun v88=>wV (iad prog 40 v88 (e 16)) fun v90=>wV (ld prog 3 v90 W40) fun v91=>wVW (blt prog .max [3,3] [v86,v91] W40) fun v92 W41=>wV (sto prog 3 (e 10) v92 W41) fun W42=>(((True)∧((True)∧ld prog 3 v90 W40=some v91))∧(((True)∧((True)∧ld prog 40 v87 W40=some v88))∧(((True)∧((True)∧ld prog 3 (e 10) W40=some v86))∧True)))∧True∧K .normal (Env.of e [(92,v92),(91,v91),(90,v90),(89,(e 16)),(88,v88),(87,v87),(86,v86),(85,v85),(84,v84),(83,v83),(82,v82),(81,v81),(80,v80),(79,v79),(78,(e 16)),(77,v77),(76,v76),(75,v75),(74,(e 17))]) ds W42) (fun ch39 W39=>(((True)∧ld prog 3 (e 8) W=some v82)∧(((True)∧ld prog 3 (e 10) W=some v80)∧(((ld prog 124 (e 3) W37=some v79)∧ld prog 124 (e 3) W=some v79)∧(((ld prog 40 v76 W37=some v77)∧ld prog 40 v76 W=some v77)∧True))))∧K (.panic ch39) Env.bad ds W39))) (wV (ld prog 124 (e 3) W) fun v93=>WCall prog pkL 110 [v93,(.int .i64 2000000000)] W (zAK (fun v94 W43=>wV (fad prog 56 (e 14) 1) fun v95=>wV (ld prog 40 v95 W43) fun v96=>wV (zAL prog .quo 3 true v94 (.int .i64 2)) fun v99=>wV (iad prog 40 v96 (e 16)) fun v100=>wV (sto prog 3 v100 v99 W43) fun W45=>wV (zAL prog .rem 3 true v94 (.int .i64 2)) fun v102=>wV (zAL prog .eql 3 true v102 (.int .i64 1)) fun v103=>wI v103 (wV (fad prog 56 (e 14) 1) fun v104=>wV (ld prog 40 v104 W45) fun v105=>wV (zAL prog .add 3 true v94 (.int .i64 1)) fun v108=>wV (neg v108) fun v109=>wV (zAL prog .quo 3 true v109 (.int .i64 2)) fun v110=>wV (iad prog 40 v105 (e 16)) fun v111=>wV (sto prog 3 v111 v110 W45) fun W46=>K .normal (Env.of e [(111,v111),(110,v110),(109,v109),(108,v108),(107,v94),(106,(e 16)),(105,v105),(104,v104),(103,v103),(102,v102),(101,v94),(100,v100),(99,v99),(98,v94),(97,(e 16)),(96,v96),(95,v95),(18,v94),(94,v94),(93,v93),(75,v75),(74,(e 17))]) ds W46) (K .normal (Env.of e [(103,v103),(102,v102),(101,v94),(100,v100),(99,v99),(98,v94),(97,(e 16)),(96,v96),(95,v95),(18,v94),(94,v94),(93,v93),(75,v75),(74,(e 17))]) ds W45)) (fun ch44 W44=>K (.panic ch44) (Env.of e [(93,v93),(75,v75),(74,(e 17))]) ds W44)))):=by kernel_rfl
theorem zQ4 (Q:Ending→CW→Prop) (e:Env) (W:CW):zAE prog Tryz.f74 Q .ret e [] W=Q (.returned (e 6)) W:=by kernel_rfl
theorem zXK {Q:Ending→CW→Prop} {v0 v1 v2:Value} {W:CW} (h:zAJ prog pkL none 74 140 (zAG prog 74) (Env.args [v0,v1,v2]) [] W (zAE prog Tryz.f74 Q)):WCall prog pkL 74 [v0,v1,v2] W Q:=zAM Tryz.func74 (by kernel_rfl) (by kernel_rfl) (by kernel_rfl) (by kernel_rfl) (by kernel_rfl) h
theorem zXJ (v0 v1 v2:Value) (K:zAI) (W:CW):zAJ prog pkL none 75 27 (zAG prog 75) (Env.args [v0,v1,v2]) [] W K=(wV (fad prog 78 v1 0) fun v9=>wV (ld prog 75 v9 W) fun v10=>wV (lkp prog 75 v10 v0 true W) fun v12=>wV (ext v12 0) fun v13=>wV (ext v12 1) fun v14=>wVW (alc prog 48 W) fun v4 W0=>wV (sto prog 48 v4 v13 W0) fun W1=>WCall prog pkL 76 [v14,(.int .i64 213)] W1 (zAK (fun v16 W2=>wV (fad prog 83 v2 0) fun v18=>wV (ld prog 81 v18 W2) fun v19=>wV (lkp prog 81 v19 v0 true W2) fun v21=>wV (ext v21 0) fun v22=>wV (ext v21 1) fun v23=>wVW (alc prog 58 W2) fun v6 W4=>wV (sto prog 58 v6 v22 W4) fun W5=>wV (ngt v23) fun v25=>WCall prog pkL 76 [v25,(.int .i64 214)] W5 (zAK (fun v26 W6=>K .normal (Env.of (Env.args [v0,v1,v2]) [(26,v26),(25,v25),(24,v23),(7,v23),(6,v6),(23,v23),(22,v22),(17,v21),(21,v21),(20,v0),(19,v19),(18,v18),(16,v16),(15,v14),(5,v14),(4,v4),(14,v14),(13,v13),(8,v12),(12,v12),(11,v0),(10,v10),(9,v9)]) [] W6) (fun ch7 W7=>K (.panic ch7) (Env.of (Env.args [v0,v1,v2]) [(25,v25),(24,v23),(7,v23),(6,v6),(23,v23),(22,v22),(17,v21),(21,v21),(20,v0),(19,v19),(18,v18),(16,v16),(15,v14),(5,v14),(4,v4),(14,v14),(13,v13),(8,v12),(12,v12),(11,v0),(10,v10),(9,v9)]) [] W7))) (fun ch3 W3=>K (.panic ch3) (Env.of (Env.args [v0,v1,v2]) [(15,v14),(5,v14),(4,v4),(14,v14),(13,v13),(8,v12),(12,v12),(11,v0),(10,v10),(9,v9)]) [] W3))):=by kernel_rfl
theorem zXI {Q:Ending→CW→Prop} {v0 v1 v2:Value} {W:CW} (h:zAJ prog pkL none 75 27 (zAG prog 75) (Env.args [v0,v1,v2]) [] W (zAE prog Tryz.f75 Q)):WCall prog pkL 75 [v0,v1,v2] W Q:=zAM Tryz.func75 (by kernel_rfl) (by kernel_rfl) (by kernel_rfl) (by kernel_rfl) (by kernel_rfl) h
theorem zXH (v0 v1:Value) (K:zAI) (W:CW):zAJ prog pkL none 76 9 (zAG prog 76) (Env.args [v0,v1]) [] W K=(wV (ngt v0) fun v5=>wI v5 (wV (bld prog 167 [(0,v1)]) fun v7=>wV (mki prog 167 v7) fun v8=>zYf v8 fun ch0=>K (.panic ch0) (Env.of (Env.args [v0,v1]) [(8,v8),(7,v7),(6,v1),(5,v5),(4,v0)]) [] W) (K .normal (Env.of (Env.args [v0,v1]) [(5,v5),(4,v0)]) [] W)):=by kernel_rfl
theorem zXG {Q:Ending→CW→Prop} {v0 v1:Value} {W:CW} (h:zAJ prog pkL none 76 9 (zAG prog 76) (Env.args [v0,v1]) [] W (zAE prog Tryz.f76 Q)):WCall prog pkL 76 [v0,v1] W Q:=zAM Tryz.func76 (by kernel_rfl) (by kernel_rfl) (by kernel_rfl) (by kernel_rfl) (by kernel_rfl) h
def zQ3 (ro:Option Nat) (K:zAI):zAI:=zA5 (fun e ds W=>wV (ld prog 56 (e 9) W) fun v51=>wV (sto prog 56 (e 6) v51 W) fun W9=>K .ret (Env.of e [(51,v51)]) ds W9) K
theorem zXF (v0 v1 v2:Value) (K:zAI) (W:CW):zAJ prog pkL none 77 52 (zAG prog 77) (Env.args [v0,v1,v2]) [] W K=(wVW (bxw prog 83 v0 W) fun v3 W0=>wVW (bxw prog 78 v1 W0) fun v4 W1=>wVW (bxw prog 56 v2 W1) fun v5 W2=>wVW (alc prog 56 W2) fun v6 W3=>wV (fad prog 83 v3 1) fun v13=>wV (ld prog 81 v13 W3) fun v14=>wV (fad prog 56 v5 0) fun v15=>wV (ld prog 9 v15 W3) fun v16=>wV (lkp prog 81 v14 v16 true W3) fun v17=>wV (ext v17 0) fun v18=>wV (ext v17 1) fun v19=>wVW (alc prog 58 W3) fun v7 W4=>wV (sto prog 58 v7 v18 W4) fun W5=>wV (ngt v19) fun v21=>wI v21 (wV (ld prog 56 v5 W5) fun v22=>wV (sto prog 56 v6 v22 W5) fun W6=>K .ret (Env.of (Env.args [v0,v1,v2]) [(22,v22),(21,v21),(20,v19),(8,v19),(7,v7),(19,v19),(18,v18),(12,v17),(17,v17),(16,v16),(15,v15),(14,v14),(13,v13),(6,v6),(5,v5),(4,v4),(3,v3)]) [] W6) (wV (fad prog 58 v7 0) fun v23=>wV (ld prog 9 v23 (W5.new (.cells .nil 2 #[.string ⟨#[]⟩,.slice none 0 0] 56))) fun v24=>wV (fad prog 78 v4 1) fun v25=>wV (ld prog 76 v25 (W5.new (.cells .nil 2 #[.string ⟨#[]⟩,.slice none 0 0] 56))) fun v26=>wV (fad prog 58 v7 0) fun v27=>wV (ld prog 9 v27 (W5.new (.cells .nil 2 #[.string ⟨#[]⟩,.slice none 0 0] 56))) fun v28=>wV (lkp prog 76 v26 v28 false (W5.new (.cells .nil 2 #[.string ⟨#[]⟩,.slice none 0 0] 56))) fun v29=>wV (zAm prog 29 v29 (W5.new (.cells .nil 2 #[.string ⟨#[]⟩,.slice none 0 0] 56))) fun v30=>wVW (mks prog 40 v30 v30 (W5.new (.cells .nil 2 #[.string ⟨#[]⟩,.slice none 0 0] 56))) fun v31 W7=>wV (bld prog 56 [(0,v24),(1,v31)]) fun v32=>true=true∧wV (sto prog 56 (.pointer (some ⟨W5.sz,0,none⟩)) v32 W7) fun W8=>(((True)∧((True)∧zAm prog 29 v29 (W5.new (.cells .nil 2 #[.string ⟨#[]⟩,.slice none 0 0] 56))=some v30))∧(((True)∧((True)∧lkp prog 76 v26 v28 false (W5.new (.cells .nil 2 #[.string ⟨#[]⟩,.slice none 0 0] 56))=some v29))∧(((True)∧((True)∧ld prog 9 v27 (W5.new (.cells .nil 2 #[.string ⟨#[]⟩,.slice none 0 0] 56))=some v28))∧(((True)∧((True)∧ld prog 76 v25 (W5.new (.cells .nil 2 #[.string ⟨#[]⟩,.slice none 0 0] 56))=some v26))∧(((True)∧((ld prog 9 v23 W7=some v24)∧ld prog 9 v23 (W5.new (.cells .nil 2 #[.string ⟨#[]⟩,.slice none 0 0] 56))=some v24))∧True)))))∧(((True)∧((zM7 (.pointer (some ⟨W5.sz,0,none⟩)) ((W5.new (.cells .nil 2 #[.string ⟨#[]⟩,.slice none 0 0] 56)).obj W5.sz) W7=true)∧zM7 (.pointer (some ⟨W5.sz,0,none⟩)) ((W5.new (.cells .nil 2 #[.string ⟨#[]⟩,.slice none 0 0] 56)).obj W5.sz) (W5.new (.cells .nil 2 #[.string ⟨#[]⟩,.slice none 0 0] 56))=true))∧True)∧wV (fad prog 58 v7 2) fun v33=>wV (ld prog 40 v33 W8) fun v34=>wV (zAm prog 40 v34 W8) fun v35=>zCg prog pkL none 77 52 (.loop (zAS prog 77 0)) (Env.of (Env.args [v0,v1,v2]) [(36,(.int .i64 0)),(35,v35),(34,v34),(33,v33),(9,(.pointer (some ⟨W5.sz,0,none⟩))),(32,v32),(31,v31),(30,v30),(29,v29),(28,v28),(27,v27),(26,v26),(25,v25),(24,v24),(23,v23),(21,v21),(20,v19),(8,v19),(7,v7),(19,v19),(18,v18),(12,v17),(17,v17),(16,v16),(15,v15),(14,v14),(13,v13),(6,v6),(5,v5),(4,v4),(3,v3)]) [] W8 (zBm 0 (zQ3 none K)))):=by kernel_rfl
def zQ2 (ro:Option Nat) (K:zAI):zAI:=zA5 (fun e ds W=>wV (zAL prog .add 3 true (e 36) (.int .i64 1)) fun v50=>K .normal (Env.of e [(36,v50),(50,v50)]) ds W) K
theorem zVM (ro:Option Nat) (e:Env) (ds:List Deferred) (K:zAI) (W:CW):zAJ prog pkL ro 77 52 (zAS prog 77 0) e ds W K=(wV (zAL prog .lss 3 false (e 36) (e 35)) fun v37=>wI v37 (wV (iad prog 40 (e 34) (e 36)) fun v39=>wV (ld prog 3 v39 W) fun v40=>wV (fad prog 56 (e 9) 1) fun v41=>wV (ld prog 40 v41 W) fun v42=>wV (fad prog 56 (e 5) 1) fun v44=>wV (ld prog 40 v44 W) fun v45=>wV (iad prog 40 v45 (e 36)) fun v47=>wV (ld prog 3 v47 W) fun v48=>wV (iad prog 40 v42 v40) fun v49=>wV (sto prog 3 v49 v48 W) fun W12=>(((True)∧ld prog 3 v47 W=some v48)∧(((True)∧ld prog 40 v44 W=some v45)∧(((True)∧ld prog 40 v41 W=some v42)∧True)))∧True∧(zQ2 ro K) .normal (Env.of e [(49,v49),(48,v48),(47,v47),(46,(e 36)),(45,v45),(44,v44),(43,v40),(42,v42),(41,v41),(11,v40),(10,(e 36)),(40,v40),(39,v39),(38,(e 36)),(37,v37)]) ds W12) (K (.exit 0) (Env.of e [(37,v37)]) ds W)):=by kernel_rfl
theorem zXE {Q:Ending→CW→Prop} {v0 v1 v2:Value} {W:CW} (h:zAJ prog pkL none 77 52 (zAG prog 77) (Env.args [v0,v1,v2]) [] W (zAE prog Tryz.f77 Q)):WCall prog pkL 77 [v0,v1,v2] W Q:=zAM Tryz.func77 (by kernel_rfl) (by kernel_rfl) (by kernel_rfl) (by kernel_rfl) (by kernel_rfl) h
def zGG (ro:Option Nat) (K:zAI):zAI:=zA5 (fun e ds W=>K .ret (Env.of e [(4,(e 5)),(37,(e 5))]) ds W) K
theorem zW6 (v0 v1:Value) (K:zAI) (W:CW):zAJ prog pkL none 92 38 (zAG prog 92) (Env.args [v0,v1]) [] W K=(WCall prog pkL 110 [v0,(.int .i64 128)] W (zAK (fun v8 W0=>wV (zAL prog .eql 3 true v8 (.int .i64 1)) fun v9=>WCall prog pkL 76 [v9,(.int .i64 4)] W0 (zAK (fun v10 W2=>WCall prog pkL 110 [v0,(.int .i64 100)] W2 (zAK (fun v12 W5=>zCg prog pkL none 92 38 (.loop (zAS prog 92 0)) (Env.of (Env.args [v0,v1]) [(13,(.int .i64 0)),(12,v12),(11,v0),(5,(.slice none 0 0)),(10,v10),(9,v9),(8,v8),(7,v0),(4,(.slice none 0 0))]) [] W5 (zBm 0 (zGG none K))) (fun ch6 W6=>(zGG none K) (.panic ch6) (Env.of (Env.args [v0,v1]) [(11,v0),(5,(.slice none 0 0)),(10,v10),(9,v9),(8,v8),(7,v0),(4,(.slice none 0 0))]) [] W6))) (fun ch3 W3=>K (.panic ch3) (Env.of (Env.args [v0,v1]) [(9,v9),(8,v8),(7,v0),(4,(.slice none 0 0))]) [] W3))) (fun ch1 W1=>K (.panic ch1) (Env.of (Env.args [v0,v1]) [(7,v0),(4,(.slice none 0 0))]) [] W1))):=by kernel_rfl
def zEt (ro:Option Nat) (K:zAI):zAI:=zA5 (fun e ds W=>wV (zAL prog .add 3 true (e 13) (.int .i64 1)) fun v36=>K .normal (Env.of e [(13,v36),(36,v36)]) ds W) K
def zD7 (ro:Option Nat) (K:zAI):zAI:=zA5 (fun e ds W=>zBq prog pkL (e 1) [(e 6)] W (fun v31 W12=>wVW (bsl prog 51 1 [(0,(e 6))] W12) fun v34 W14=>wVW (app prog [51,51] (e 5) v34 W14) fun v35 W15=>(zEt ro K) .normal (Env.of e [(5,v35),(35,v35),(34,v34),(33,(e 6)),(32,(e 5)),(31,v31),(30,(e 6)),(29,(e 1))]) ds W15) (fun ch13 W13=>(zEt ro K) (.panic ch13) (Env.of e [(30,(e 6)),(29,(e 1))]) ds W13)) (zBm 1 (zEt ro K))
theorem zVK (ro:Option Nat) (e:Env) (ds:List Deferred) (K:zAI) (W:CW):zAJ prog pkL ro 92 38 (zAS prog 92 0) e ds W K=(wV (zAL prog .lss 3 false (e 13) (e 12)) fun v14=>wI v14 (WCall prog pkL 110 [(e 0),(.int .i64 60)] W (zAK (fun v17 W8=>WCall prog pkL 121 [(e 0),v17] W8 (zAK (fun v18 W10=>wV (cvb prog 29 9 v18 W10) fun v19=>WCall prog pkL 101 [v19] W10 (zAK (fun v21 W17=>wI v21 (WCall prog pkL 54 [(e 5),v19] W17 (zAK (fun v25 W19=>wV (ngt v25) fun v26=>WCall prog pkL 76 [v26,(.int .i64 4)] W19 (zAK (fun v28 W21=>(zD7 ro K) .normal (Env.of e [(28,v28),(27,v26),(26,v26),(22,(.bool true)),(25,v25),(22,(.bool true)),(24,v19),(22,(.bool true)),(23,(e 5)),(22,(.bool true)),(22,v21),(21,v21),(20,v19),(6,v19),(19,v19),(18,v18),(17,v17),(16,(e 0)),(15,(e 0)),(14,v14)]) ds W21) (fun ch22 W22=>(zD7 ro K) (.panic ch22) (Env.of e [(27,v26),(26,v26),(22,(.bool true)),(25,v25),(22,(.bool true)),(24,v19),(22,(.bool true)),(23,(e 5)),(22,(.bool true)),(22,v21),(21,v21),(20,v19),(6,v19),(19,v19),(18,v18),(17,v17),(16,(e 0)),(15,(e 0)),(14,v14)]) ds W22))) (fun ch20 W20=>(zD7 ro K) (.panic ch20) (Env.of e [(22,(.bool true)),(24,v19),(22,(.bool true)),(23,(e 5)),(22,(.bool true)),(22,v21),(21,v21),(20,v19),(6,v19),(19,v19),(18,v18),(17,v17),(16,(e 0)),(15,(e 0)),(14,v14)]) ds W20))) (WCall prog pkL 76 [(.bool false),(.int .i64 4)] W17 (zAK (fun v28 W23=>(zD7 ro K) .normal (Env.of e [(28,v28),(27,(.bool false)),(26,undef),(22,(.bool false)),(25,undef),(22,(.bool false)),(24,undef),(22,(.bool false)),(23,undef),(22,(.bool false)),(22,v21),(21,v21),(20,v19),(6,v19),(19,v19),(18,v18),(17,v17),(16,(e 0)),(15,(e 0)),(14,v14)]) ds W23) (fun ch24 W24=>(zD7 ro K) (.panic ch24) (Env.of e [(27,(.bool false)),(26,undef),(22,(.bool false)),(25,undef),(22,(.bool false)),(24,undef),(22,(.bool false)),(23,undef),(22,(.bool false)),(22,v21),(21,v21),(20,v19),(6,v19),(19,v19),(18,v18),(17,v17),(16,(e 0)),(15,(e 0)),(14,v14)]) ds W24)))) (fun ch18 W18=>(zD7 ro K) (.panic ch18) (Env.of e [(20,v19),(6,v19),(19,v19),(18,v18),(17,v17),(16,(e 0)),(15,(e 0)),(14,v14)]) ds W18))) (fun ch11 W11=>(zEt ro K) (.panic ch11) (Env.of e [(17,v17),(16,(e 0)),(15,(e 0)),(14,v14)]) ds W11))) (fun ch9 W9=>(zEt ro K) (.panic ch9) (Env.of e [(16,(e 0)),(15,(e 0)),(14,v14)]) ds W9))) (K (.exit 0) (Env.of e [(14,v14)]) ds W)):=by kernel_rfl
theorem zQz (Q:Ending→CW→Prop) (e:Env) (W:CW):zAE prog Tryz.f92 Q .ret e [] W=Q (.returned (e 4)) W:=by kernel_rfl
theorem zW5 {Q:Ending→CW→Prop} {v0 v1:Value} {W:CW} (h:zAJ prog pkL none 92 38 (zAG prog 92) (Env.args [v0,v1]) [] W (zAE prog Tryz.f92 Q)):WCall prog pkL 92 [v0,v1] W Q:=zAM Tryz.func92 (by kernel_rfl) (by kernel_rfl) (by kernel_rfl) (by kernel_rfl) (by kernel_rfl) h
theorem zTk (v0:Value) (u:FrameMode) (K:Exit→Env→FrameMode→CW→Prop) (W:CW):wS prog pkL 109 17 (zAG prog 109) (Env.args [v0]) u W K=(zU2 u fun v4 u0=>wV (zAL prog .neq 20 true v4 (.nilIface)) fun v6=>wI v6 (wV (tas prog 167 v4 true) fun v9=>wV (ext v9 0) fun v10=>wV (ext v9 1) fun v11=>wVW (alc prog 167 W) fun v2 W1=>wV (sto prog 167 v2 v10 W1) fun W2=>wV (ngt v11) fun v13=>wI v13 (False) ((([]:List Deferred)=[]∧wV (fad prog 167 v2 0) fun v15=>wV (ld prog 30 v15 W2) fun v16=>wV (sto prog 30 v0 v16 W2) fun W3=>K .normal (Env.of (Env.args [v0]) [(16,v16),(15,v15),(13,v13),(12,v11),(3,v11),(2,v2),(11,v11),(10,v10),(7,v9),(9,v9),(8,v4),(6,v6),(5,v4),(1,v4),(4,v4)]) u0 W3))) ((([]:List Deferred)=[]∧K .normal (Env.of (Env.args [v0]) [(6,v6),(5,v4),(1,v4),(4,v4)]) u0 W))):=by kernel_rfl
def zFp (ro:Option Nat) (K:zAI):zAI:=zA5 (fun e ds W=>wV (zAL prog .leq 3 false (e 5) (e 1)) fun v37=>WCall prog pkL 76 [v37,(.int .i64 4)] W (zAK (fun v38 W0=>K .ret (Env.of e [(4,(e 5)),(39,(e 5)),(38,v38),(37,v37),(36,(e 1)),(35,(e 5))]) ds W0) (fun ch1 W1=>K (.panic ch1) (Env.of e [(37,v37),(36,(e 1)),(35,(e 5))]) ds W1))) K
theorem zV5 (v0 v1:Value) (K:zAI) (W:CW):zAJ prog pkL none 110 40 (zAG prog 110) (Env.args [v0,v1]) [] W K=(zCg prog pkL none 110 40 (.loop (zAS prog 110 0)) (Env.of (Env.args [v0,v1]) [(6,(.int .i64 0)),(5,(.int .i64 0)),(4,(.int .i64 0))]) [] W (zBm 0 (zFp none K))):=by kernel_rfl
def zFo (ro:Option Nat) (K:zAI):zAI:=zA5 (fun e ds W=>K (.exit 0) e ds W) (zBm 2 (zBm 1 K))
theorem zUh (ro:Option Nat) (e:Env) (ds:List Deferred) (K:zAI) (W:CW):zAJ prog pkL ro 110 40 (zAS prog 110 0) e ds W K=(WCall prog pkL 121 [(e 0),(.int .i64 1)] W (zAK (fun v9 W3=>wV (iad prog 29 v9 (.int .i64 0)) fun v10=>wV (ld prog 5 v10 W3) fun v11=>wV (cvw prog 5 3 v11) fun v12=>wV (zAL prog .rem 3 true v12 (.int .i64 128)) fun v15=>wV (zAL prog .shl 3 false v15 (e 6)) fun v17=>wV (zAL prog .or 3 false (e 5) v17) fun v18=>wV (zAL prog .add 3 true (e 6) (.int .i64 7)) fun v20=>wV (zAL prog .lss 3 true v12 (.int .i64 128)) fun v23=>wI v23 (wV (zAL prog .gtr 3 true v12 (.int .i64 0)) fun v25=>wI v25 (WCall prog pkL 76 [(.bool true),(.int .i64 4)] W3 (zAK (fun v30 W6=>(zFo ro K) .normal (Env.of e [(30,v30),(29,(.bool true)),(28,undef),(26,(.bool true)),(27,undef),(26,(.bool true)),(26,v25),(25,v25),(24,v12),(21,v23),(23,v23),(22,v12),(6,v20),(20,v20),(19,(e 6)),(5,v18),(18,v18),(17,v17),(16,(e 6)),(15,v15),(14,v12),(13,(e 5)),(7,v12),(12,v12),(11,v11),(10,v10),(9,v9),(8,(e 0))]) ds W6) (fun ch7 W7=>(zFo ro K) (.panic ch7) (Env.of e [(29,(.bool true)),(28,undef),(26,(.bool true)),(27,undef),(26,(.bool true)),(26,v25),(25,v25),(24,v12),(21,v23),(23,v23),(22,v12),(6,v20),(20,v20),(19,(e 6)),(5,v18),(18,v18),(17,v17),(16,(e 6)),(15,v15),(14,v12),(13,(e 5)),(7,v12),(12,v12),(11,v11),(10,v10),(9,v9),(8,(e 0))]) ds W7))) (wV (zAL prog .eql 3 true v20 (.int .i64 7)) fun v28=>WCall prog pkL 76 [v28,(.int .i64 4)] W3 (zAK (fun v30 W8=>(zFo ro K) .normal (Env.of e [(30,v30),(29,v28),(28,v28),(26,(.bool false)),(27,v20),(26,(.bool false)),(26,v25),(25,v25),(24,v12),(21,v23),(23,v23),(22,v12),(6,v20),(20,v20),(19,(e 6)),(5,v18),(18,v18),(17,v17),(16,(e 6)),(15,v15),(14,v12),(13,(e 5)),(7,v12),(12,v12),(11,v11),(10,v10),(9,v9),(8,(e 0))]) ds W8) (fun ch9 W9=>(zFo ro K) (.panic ch9) (Env.of e [(29,v28),(28,v28),(26,(.bool false)),(27,v20),(26,(.bool false)),(26,v25),(25,v25),(24,v12),(21,v23),(23,v23),(22,v12),(6,v20),(20,v20),(19,(e 6)),(5,v18),(18,v18),(17,v17),(16,(e 6)),(15,v15),(14,v12),(13,(e 5)),(7,v12),(12,v12),(11,v11),(10,v10),(9,v9),(8,(e 0))]) ds W9)))) (wV (zAL prog .gtr 3 true v20 (.int .i64 40)) fun v33=>wI v33 (WCall prog pkL 76 [(.bool false),(.int .i64 4)] W3 (zAK (fun v34 W10=>K .normal (Env.of e [(34,v34),(31,v33),(33,v33),(32,v20),(21,v23),(23,v23),(22,v12),(6,v20),(20,v20),(19,(e 6)),(5,v18),(18,v18),(17,v17),(16,(e 6)),(15,v15),(14,v12),(13,(e 5)),(7,v12),(12,v12),(11,v11),(10,v10),(9,v9),(8,(e 0))]) ds W10) (fun ch11 W11=>K (.panic ch11) (Env.of e [(31,v33),(33,v33),(32,v20),(21,v23),(23,v23),(22,v12),(6,v20),(20,v20),(19,(e 6)),(5,v18),(18,v18),(17,v17),(16,(e 6)),(15,v15),(14,v12),(13,(e 5)),(7,v12),(12,v12),(11,v11),(10,v10),(9,v9),(8,(e 0))]) ds W11))) (K .normal (Env.of e [(31,v33),(33,v33),(32,v20),(21,v23),(23,v23),(22,v12),(6,v20),(20,v20),(19,(e 6)),(5,v18),(18,v18),(17,v17),(16,(e 6)),(15,v15),(14,v12),(13,(e 5)),(7,v12),(12,v12),(11,v11),(10,v10),(9,v9),(8,(e 0))]) ds W3))) (fun ch4 W4=>K (.panic ch4) (Env.of e [(8,(e 0))]) ds W4))):=by kernel_rfl
theorem zPR (Q:Ending→CW→Prop) (e:Env) (W:CW):zAE prog Tryz.f110 Q .ret e [] W=Q (.returned (e 4)) W:=by kernel_rfl
theorem zV4 {Q:Ending→CW→Prop} {v0 v1:Value} {W:CW} (h:zAJ prog pkL none 110 40 (zAG prog 110) (Env.args [v0,v1]) [] W (zAE prog Tryz.f110 Q)):WCall prog pkL 110 [v0,v1] W Q:=zAM Tryz.func110 (by kernel_rfl) (by kernel_rfl) (by kernel_rfl) (by kernel_rfl) (by kernel_rfl) h
theorem zVx (v0 v1:Value) (K:zAI) (W:CW):zAJ prog pkL none 121 45 (zAG prog 121) (Env.args [v0,v1]) [] W K=(wV (nck v0) fun v6=>wV (fad prog 170 v6 0) fun v7=>wV (ld prog 29 v7 W) fun v8=>wV (zAm prog 29 v8 W) fun v9=>wV (nck v0) fun v11=>wV (fad prog 170 v11 1) fun v12=>wV (ld prog 3 v12 W) fun v13=>wV (zAL prog .sub 3 false v9 v13) fun v14=>wV (zAL prog .geq 3 false v14 v1) fun v16=>WCall prog pkL 76 [v16,(.int .i64 4)] W (zAK (fun v17 W0=>(((True)∧ld prog 3 v12 W=some v13)∧(((True)∧zAm prog 29 v8 W=some v9)∧(((True)∧ld prog 29 v7 W=some v8)∧True)))∧True∧wV (nck v0) fun v19=>wV (fad prog 170 v19 1) fun v20=>wV (ld prog 3 v20 W0) fun v21=>wV (zAL prog .add 3 false v21 v1) fun v23=>wV (nck v0) fun v24=>wV (fad prog 170 v24 1) fun v25=>wV (sto prog 3 v25 v23 W0) fun W2=>wV (nck v0) fun v27=>wV (fad prog 170 v27 0) fun v28=>wV (ld prog 29 v28 W2) fun v29=>wV (nck v0) fun v31=>wV (fad prog 170 v31 1) fun v32=>wV (ld prog 3 v32 W2) fun v33=>wV (zAL prog .sub 3 false v33 v1) fun v35=>wV (nck v0) fun v37=>wV (fad prog 170 v37 1) fun v38=>wV (ld prog 3 v38 W2) fun v39=>wV (nck v0) fun v41=>wV (fad prog 170 v41 1) fun v42=>wV (ld prog 3 v42 W2) fun v43=>wV (slc prog 29 v29 (some v35) (some v39) (some v43) W2) fun v44=>(slc prog 29 v29 (some v35) (some v39) (some v43) W2=some v44∧(ld prog 3 v42 W2=some v43∧(ld prog 3 v38 W2=some v39∧(ld prog 3 v32 W2=some v33∧(ld prog 29 v28 W2=some v29∧True)))))∧True∧K .ret (Env.of (Env.args [v0,v1]) [(4,v44),(44,v44),(43,v43),(42,v42),(41,v41),(40,v0),(39,v39),(38,v38),(37,v37),(36,v0),(35,v35),(34,v1),(33,v33),(32,v32),(31,v31),(30,v0),(29,v29),(28,v28),(27,v27),(26,v0),(25,v25),(24,v24),(23,v23),(22,v1),(21,v21),(20,v20),(19,v19),(18,v0),(17,v17),(16,v16),(15,v1),(14,v14),(13,v13),(12,v12),(11,v11),(10,v0),(9,v9),(8,v8),(7,v7),(6,v6),(5,v0),(4,(.slice none 0 0))]) [] W2) (fun ch1 W1=>(ld prog 3 v12 W=some v13∧(zAm prog 29 v8 W=some v9∧(ld prog 29 v7 W=some v8∧True)))∧K (.panic ch1) Env.bad [] W1))):=by kernel_rfl
theorem zPP (Q:Ending→CW→Prop) (e:Env) (W:CW):zAE prog Tryz.f121 Q .ret e [] W=Q (.returned (e 4)) W:=by kernel_rfl
theorem zVw {Q:Ending→CW→Prop} {v0 v1:Value} {W:CW} (h:zAJ prog pkL none 121 45 (zAG prog 121) (Env.args [v0,v1]) [] W (zAE prog Tryz.f121 Q)):WCall prog pkL 121 [v0,v1] W Q:=zAM Tryz.func121 (by kernel_rfl) (by kernel_rfl) (by kernel_rfl) (by kernel_rfl) (by kernel_rfl) h
end Go.Ce
namespace Go.Ce
open Go Go.Proofs Go.Proofs.Tryz
end Go.Ce
namespace Go.Ce
open Go Go.Proofs Go.Proofs.Tryz
def zNS (ro:Option Nat) (K:zAI):zAI:=zA5 (fun e ds W=>K .ret e ds W) K
theorem zWF (v0 v1 v2:Value) (K:zAI) (W:CW):zAJ prog pkL none 103 15 (zAG prog 103) (Env.args [v0,v1,v2]) [] W K=(wV (zAL prog .geq 3 false v0 v1) fun v9=>wI v9 (wV (zAL prog .leq 3 false v0 v2) fun v13=>(zNS none K) .normal (Env.of (Env.args [v0,v1,v2]) [(6,v13),(14,v13),(13,v13),(10,(.bool true)),(12,v2),(10,(.bool true)),(11,v0),(10,(.bool true)),(10,v9),(9,v9),(8,v1),(7,v0),(6,(.bool false))]) [] W) ((zNS none K) .normal (Env.of (Env.args [v0,v1,v2]) [(6,(.bool false)),(14,(.bool false)),(13,undef),(10,(.bool false)),(12,undef),(10,(.bool false)),(11,undef),(10,(.bool false)),(10,v9),(9,v9),(8,v1),(7,v0),(6,(.bool false))]) [] W)):=by kernel_rfl
theorem zPU (Q:Ending→CW→Prop) (e:Env) (W:CW):zAE prog Tryz.f103 Q .ret e [] W=Q (.returned (e 6)) W:=by kernel_rfl
theorem zWE {Q:Ending→CW→Prop} {v0 v1 v2:Value} {W:CW} (h:zAJ prog pkL none 103 15 (zAG prog 103) (Env.args [v0,v1,v2]) [] W (zAE prog Tryz.f103 Q)):WCall prog pkL 103 [v0,v1,v2] W Q:=zAM Tryz.func103 (by kernel_rfl) (by kernel_rfl) (by kernel_rfl) (by kernel_rfl) (by kernel_rfl) h
def zNT (ro:Option Nat) (K:zAI):zAI:=zA5 (fun e ds W=>K .ret e ds W) K
theorem zWL (v0:Value) (K:zAI) (W:CW):zAJ prog pkL none 100 9 (zAG prog 100) (Env.args [v0]) [] W K=(wV (zAL prog .eql 5 true v0 (.int .u8 1)) fun v4=>wI v4 ((zNT none K) .normal (Env.of (Env.args [v0]) [(2,(.bool true)),(8,(.bool true)),(7,undef),(5,(.bool true)),(6,undef),(5,(.bool true)),(5,v4),(4,v4),(3,v0),(2,(.bool false))]) [] W) (wV (zAL prog .eql 5 true v0 (.int .u8 2)) fun v7=>(zNT none K) .normal (Env.of (Env.args [v0]) [(2,v7),(8,v7),(7,v7),(5,(.bool false)),(6,v0),(5,(.bool false)),(5,v4),(4,v4),(3,v0),(2,(.bool false))]) [] W)):=by kernel_rfl
theorem zPV (Q:Ending→CW→Prop) (e:Env) (W:CW):zAE prog Tryz.f100 Q .ret e [] W=Q (.returned (e 2)) W:=by kernel_rfl
theorem zWK {Q:Ending→CW→Prop} {v0:Value} {W:CW} (h:zAJ prog pkL none 100 9 (zAG prog 100) (Env.args [v0]) [] W (zAE prog Tryz.f100 Q)):WCall prog pkL 100 [v0] W Q:=zAM Tryz.func100 (by kernel_rfl) (by kernel_rfl) (by kernel_rfl) (by kernel_rfl) (by kernel_rfl) h
def zGy (ro:Option Nat) (K:zAI):zAI:=zA5 (fun e ds W=>K .ret e ds W) K
theorem zWJ (v0:Value) (K:zAI) (W:CW):zAJ prog pkL none 101 12 (zAG prog 101) (Env.args [v0]) [] W K=(wV (zAm prog 9 v0 W) fun v4=>WCall prog pkL 103 [v4,(.int .i64 1),(.int .i64 60)] W (zAK (fun v5 W1=>wI v5 (wVW (cvs prog 9 29 v0 W1) fun v8 W3=>WCall prog pkL 123 [v8,(.func (.func 124) #[] #[])] W3 (zAK (fun v9 W4=>wV (ngt v9) fun v10=>(zGy none K) .normal (Env.of (Env.args [v0]) [(2,v10),(11,v10),(10,v10),(6,(.bool true)),(9,v9),(6,(.bool true)),(8,v8),(6,(.bool true)),(7,v0),(6,(.bool true)),(6,v5),(5,v5),(4,v4),(3,v0),(2,(.bool false))]) [] W4) (fun ch5 W5=>(zGy none K) (.panic ch5) (Env.of (Env.args [v0]) [(6,(.bool true)),(8,v8),(6,(.bool true)),(7,v0),(6,(.bool true)),(6,v5),(5,v5),(4,v4),(3,v0),(2,(.bool false))]) [] W5))) ((zGy none K) .normal (Env.of (Env.args [v0]) [(2,(.bool false)),(11,(.bool false)),(10,undef),(6,(.bool false)),(9,undef),(6,(.bool false)),(8,undef),(6,(.bool false)),(7,undef),(6,(.bool false)),(6,v5),(5,v5),(4,v4),(3,v0),(2,(.bool false))]) [] W1)) (fun ch2 W2=>(zGy none K) (.panic ch2) (Env.of (Env.args [v0]) [(4,v4),(3,v0),(2,(.bool false))]) [] W2))):=by kernel_rfl
theorem zJl (Q:Ending→CW→Prop) (e:Env) (W:CW):zAE prog Tryz.f101 Q .ret e [] W=Q (.returned (e 2)) W:=by kernel_rfl
theorem zWI {Q:Ending→CW→Prop} {v0:Value} {W:CW} (h:zAJ prog pkL none 101 12 (zAG prog 101) (Env.args [v0]) [] W (zAE prog Tryz.f101 Q)):WCall prog pkL 101 [v0] W Q:=zAM Tryz.func101 (by kernel_rfl) (by kernel_rfl) (by kernel_rfl) (by kernel_rfl) (by kernel_rfl) h
theorem zVv (v0 v1:Value) (K:zAI) (W:CW):zAJ prog pkL none 123 9 (zAG prog 123) (Env.args [v0,v1]) [] W K=(WCall prog pkL 140 [v0,v1] W (zAK (fun v7 W0=>wV (zAL prog .geq 3 true v7 (.int .i64 0)) fun v8=>K .ret (Env.of (Env.args [v0,v1]) [(4,v8),(8,v8),(7,v7),(6,v1),(5,v0),(4,(.bool false))]) [] W0) (fun ch1 W1=>K (.panic ch1) (Env.of (Env.args [v0,v1]) [(6,v1),(5,v0),(4,(.bool false))]) [] W1))):=by kernel_rfl
theorem zPO (Q:Ending→CW→Prop) (e:Env) (W:CW):zAE prog Tryz.f123 Q .ret e [] W=Q (.returned (e 4)) W:=by kernel_rfl
theorem zVu {Q:Ending→CW→Prop} {v0 v1:Value} {W:CW} (h:zAJ prog pkL none 123 9 (zAG prog 123) (Env.args [v0,v1]) [] W (zAE prog Tryz.f123 Q)):WCall prog pkL 123 [v0,v1] W Q:=zAM Tryz.func123 (by kernel_rfl) (by kernel_rfl) (by kernel_rfl) (by kernel_rfl) (by kernel_rfl) h
def zNO (ro:Option Nat) (K:zAI):zAI:=zA5 (fun e ds W=>K .ret (Env.of e [(4,(.int .i64 (-1)))]) ds W) K
theorem zVl (v0 v1:Value) (K:zAI) (W:CW):zAJ prog pkL none 140 19 (zAG prog 140) (Env.args [v0,v1]) [] W K=(wV (zAm prog 29 v0 W) fun v7=>zCg prog pkL none 140 19 (.loop (zAS prog 140 0)) (Env.of (Env.args [v0,v1]) [(8,(.int .i64 0)),(7,v7),(6,v0),(4,(.int .i64 0))]) [] W (zBm 0 (zNO none K))):=by kernel_rfl
def zIU (ro:Option Nat) (K:zAI):zAI:=zA5 (fun e ds W=>wV (zAL prog .add 3 true (e 8) (.int .i64 1)) fun v18=>K .normal (Env.of e [(8,v18),(18,v18)]) ds W) K
theorem zUb (ro:Option Nat) (e:Env) (ds:List Deferred) (K:zAI) (W:CW):zAJ prog pkL ro 140 19 (zAS prog 140 0) e ds W K=(wV (zAL prog .lss 3 false (e 8) (e 7)) fun v9=>wI v9 (wV (iad prog 29 (e 0) (e 8)) fun v14=>wV (ld prog 5 v14 W) fun v15=>zBq prog pkL (e 1) [v15] W (fun v16 W2=>wI v16 ((zIU ro K) .ret (Env.of e [(4,(e 8)),(17,(e 8)),(16,v16),(15,v15),(14,v14),(13,(e 8)),(12,(e 0)),(11,(e 1)),(5,(e 8)),(10,(e 8)),(9,v9)]) ds W2) ((zIU ro K) .normal (Env.of e [(16,v16),(15,v15),(14,v14),(13,(e 8)),(12,(e 0)),(11,(e 1)),(5,(e 8)),(10,(e 8)),(9,v9)]) ds W2)) (fun ch3 W3=>(zIU ro K) (.panic ch3) (Env.of e [(15,v15),(14,v14),(13,(e 8)),(12,(e 0)),(11,(e 1)),(5,(e 8)),(10,(e 8)),(9,v9)]) ds W3)) (K (.exit 0) (Env.of e [(9,v9)]) ds W)):=by kernel_rfl
theorem zJc (Q:Ending→CW→Prop) (e:Env) (W:CW):zAE prog Tryz.f140 Q .ret e [] W=Q (.returned (e 4)) W:=by kernel_rfl
theorem zVk {Q:Ending→CW→Prop} {v0 v1:Value} {W:CW} (h:zAJ prog pkL none 140 19 (zAG prog 140) (Env.args [v0,v1]) [] W (zAE prog Tryz.f140 Q)):WCall prog pkL 140 [v0,v1] W Q:=zAM Tryz.func140 (by kernel_rfl) (by kernel_rfl) (by kernel_rfl) (by kernel_rfl) (by kernel_rfl) h
def zNQ (ro:Option Nat) (K:zAI):zAI:=zA5 (fun e ds W=>K .ret e ds W) K
theorem zVt (v0:Value) (K:zAI) (W:CW):zAJ prog pkL none 124 9 (zAG prog 124) (Env.args [v0]) [] W K=(wV (zAL prog .lss 5 true v0 (.int .u8 33)) fun v4=>wI v4 ((zNQ none K) .normal (Env.of (Env.args [v0]) [(2,(.bool true)),(8,(.bool true)),(7,undef),(5,(.bool true)),(6,undef),(5,(.bool true)),(5,v4),(4,v4),(3,v0),(2,(.bool false))]) [] W) (wV (zAL prog .gtr 5 true v0 (.int .u8 126)) fun v7=>(zNQ none K) .normal (Env.of (Env.args [v0]) [(2,v7),(8,v7),(7,v7),(5,(.bool false)),(6,v0),(5,(.bool false)),(5,v4),(4,v4),(3,v0),(2,(.bool false))]) [] W)):=by kernel_rfl
theorem zPN (Q:Ending→CW→Prop) (e:Env) (W:CW):zAE prog Tryz.f124 Q .ret e [] W=Q (.returned (e 2)) W:=by kernel_rfl
theorem zVs {Q:Ending→CW→Prop} {v0:Value} {W:CW} (h:zAJ prog pkL none 124 9 (zAG prog 124) (Env.args [v0]) [] W (zAE prog Tryz.f124 Q)):WCall prog pkL 124 [v0] W Q:=zAM Tryz.func124 (by kernel_rfl) (by kernel_rfl) (by kernel_rfl) (by kernel_rfl) (by kernel_rfl) h
theorem zWH (v0 v1:Value) (K:zAI) (W:CW):zAJ prog pkL none 102 17 (zAG prog 102) (Env.args [v0,v1]) [] W K=(wVW (bxw prog 78 v0 W) fun v2 W0=>wVW (mkm W0) fun v9 W1=>wVW (alc prog 181 W1) fun v6 W2=>wV (sto prog 181 v6 v9 W2) fun W3=>wVW (mkm W3) fun v10 W4=>wVW (alc prog 181 W4) fun v7 W5=>wV (sto prog 181 v7 v10 W5) fun W6=>wVW (alc prog 161 W6) fun v8 W7=>wV (some (.func (.func 125) #[] #[v2,v6,v8,v7])) fun v11=>wV (sto prog 161 v8 v11 W7) fun W8=>wV (ld prog 161 v8 W8) fun v12=>zBq prog pkL v12 [v1] W8 (fun v14 W9=>wV (ext v14 0) fun v15=>wV (ext v14 1) fun v16=>K .ret (Env.of (Env.args [v0,v1]) [(5,v16),(4,v15),(16,v16),(15,v15),(14,v14),(13,v1),(12,v12),(11,v11),(8,v8),(7,v7),(10,v10),(6,v6),(9,v9),(5,(.bool false)),(4,(.slice none 0 0)),(2,v2)]) [] W9) (fun ch10 W10=>K (.panic ch10) (Env.of (Env.args [v0,v1]) [(13,v1),(12,v12),(11,v11),(8,v8),(7,v7),(10,v10),(6,v6),(9,v9),(5,(.bool false)),(4,(.slice none 0 0)),(2,v2)]) [] W10)):=by kernel_rfl
theorem zJk (Q:Ending→CW→Prop) (e:Env) (W:CW):zAE prog Tryz.f102 Q .ret e [] W=Q (.returned (.tuple #[e 4,e 5])) W:=by kernel_rfl
theorem zWG {Q:Ending→CW→Prop} {v0 v1:Value} {W:CW} (h:zAJ prog pkL none 102 17 (zAG prog 102) (Env.args [v0,v1]) [] W (zAE prog Tryz.f102 Q)):WCall prog pkL 102 [v0,v1] W Q:=zAM Tryz.func102 (by kernel_rfl) (by kernel_rfl) (by kernel_rfl) (by kernel_rfl) (by kernel_rfl) h
def zEw (ro:Option Nat) (K:zAI):zAI:=zA5 (fun e ds W=>wV (zAm prog 29 (e 10) W) fun v82=>wV (zAL prog .leq 3 true v82 (.int .i64 60)) fun v83=>K .ret (Env.of e [(7,v83),(6,(e 10)),(83,v83),(82,v82),(81,(e 10)),(80,(e 10))]) ds W) K
def zCy (ro:Option Nat) (K:zAI):zAI:=zA5 (fun e ds W=>wV (fad prog 48 (e 8) 2) fun v48=>wV (ld prog 45 v48 W) fun v49=>wV (zAm prog 45 v49 W) fun v50=>zCg prog pkL ro 125 84 (.loop (zAS prog 125 0)) (Env.of e [(51,(.int .i64 0)),(50,v50),(49,v49),(48,v48)]) ds W (zBm 0 (zEw ro K))) K
def zGw (ro:Option Nat) (K:zAI):zAI:=zA5 (fun e ds W=>wV (ld prog 181 (e 2) W) fun v27=>wV (mup prog 181 v27 (e 0) (.bool true) W) fun W2=>wV (fad prog 48 (e 8) 1) fun v29=>wV (ld prog 9 v29 W2) fun v30=>wV (zAL prog .neq 9 true v30 (.string ⟨#[]⟩)) fun v31=>wI v31 (wV (fad prog 78 (e 1) 0) fun v32=>wV (ld prog 75 v32 W2) fun v33=>wV (fad prog 48 (e 8) 1) fun v34=>wV (ld prog 9 v34 W2) fun v35=>wV (lkp prog 75 v33 v35 false W2) fun v36=>wV (fld prog 48 v36 3) fun v37=>wV (zAL prog .neq 5 true v37 (.int .u8 0)) fun v38=>wI v38 ((zCy ro K) .ret (Env.of e [(7,(.bool false)),(6,(.slice none 0 0)),(38,v38),(37,v37),(36,v36),(35,v35),(34,v34),(33,v33),(32,v32),(31,v31),(30,v30),(29,v29),(10,(.slice none 0 0)),(28,(e 0)),(27,v27)]) ds W2) (wV (ld prog 161 (e 3) W2) fun v40=>wV (fad prog 48 (e 8) 1) fun v41=>wV (ld prog 9 v41 W2) fun v42=>zBq prog pkL v40 [v42] W2 (fun v43 W5=>wV (ext v43 0) fun v44=>wV (ext v43 1) fun v45=>wV (ngt v45) fun v47=>wI v47 ((zCy ro K) .ret (Env.of e [(7,(.bool false)),(6,(.slice none 0 0)),(47,v47),(46,v45),(9,v45),(10,v44),(45,v45),(44,v44),(39,v43),(43,v43),(42,v42),(41,v41),(40,v40),(38,v38),(37,v37),(36,v36),(35,v35),(34,v34),(33,v33),(32,v32),(31,v31),(30,v30),(29,v29),(10,(.slice none 0 0)),(28,(e 0)),(27,v27)]) ds W5) ((zCy ro K) .normal (Env.of e [(47,v47),(46,v45),(9,v45),(10,v44),(45,v45),(44,v44),(39,v43),(43,v43),(42,v42),(41,v41),(40,v40),(38,v38),(37,v37),(36,v36),(35,v35),(34,v34),(33,v33),(32,v32),(31,v31),(30,v30),(29,v29),(10,(.slice none 0 0)),(28,(e 0)),(27,v27)]) ds W5)) (fun ch6 W6=>(zCy ro K) (.panic ch6) (Env.of e [(42,v42),(41,v41),(40,v40),(38,v38),(37,v37),(36,v36),(35,v35),(34,v34),(33,v33),(32,v32),(31,v31),(30,v30),(29,v29),(10,(.slice none 0 0)),(28,(e 0)),(27,v27)]) ds W6))) ((zCy ro K) .normal (Env.of e [(31,v31),(30,v30),(29,v29),(10,(.slice none 0 0)),(28,(e 0)),(27,v27)]) ds W2)) K
def zKa (ro:Option Nat) (K:zAI):zAI:=zA5 (fun e ds W=>wI (e 26) ((zGw ro K) .ret (Env.of e [(7,(.bool false)),(6,(.slice none 0 0))]) ds W) ((zGw ro K) .normal e ds W)) (zGw ro K)
theorem zVr (v0 v1 v2 v3 v4:Value) (K:zAI) (W:CW):zAJ prog pkL none 125 84 (zAG prog 125) (Env.args [v0,v1,v2,v3,v4]) [] W K=(wV (fad prog 78 v1 0) fun v14=>wV (ld prog 75 v14 W) fun v15=>wV (lkp prog 75 v15 v0 true W) fun v17=>wV (ext v17 0) fun v18=>wV (ext v17 1) fun v19=>wVW (alc prog 48 W) fun v8 W0=>wV (sto prog 48 v8 v18 W0) fun W1=>wV (ngt v19) fun v21=>wI v21 ((zKa none K) .normal (Env.of (Env.args [v0,v1,v2,v3,v4]) [(26,(.bool true)),(25,undef),(22,(.bool true)),(24,undef),(22,(.bool true)),(23,undef),(22,(.bool true)),(22,v21),(21,v21),(20,v19),(9,v19),(8,v8),(19,v19),(18,v18),(13,v17),(17,v17),(16,v0),(15,v15),(14,v14),(7,(.bool false)),(6,(.slice none 0 0))]) [] W1) (wV (ld prog 181 v2 W1) fun v23=>wV (lkp prog 181 v23 v0 false W1) fun v25=>(zKa none K) .normal (Env.of (Env.args [v0,v1,v2,v3,v4]) [(26,v25),(25,v25),(22,(.bool false)),(24,v0),(22,(.bool false)),(23,v23),(22,(.bool false)),(22,v21),(21,v21),(20,v19),(9,v19),(8,v8),(19,v19),(18,v18),(13,v17),(17,v17),(16,v0),(15,v15),(14,v14),(7,(.bool false)),(6,(.slice none 0 0))]) [] W1)):=by kernel_rfl
def zKZ (ro:Option Nat) (K:zAI):zAI:=zA5 (fun e ds W=>wV (zAL prog .add 3 true (e 51) (.int .i64 1)) fun v79=>K .normal (Env.of e [(51,v79),(79,v79)]) ds W) K
def zGK (ro:Option Nat) (K:zAI):zAI:=zA5 (fun e ds W=>wV (ld prog 181 (e 4) W) fun v71=>wV (fad prog 72 (e 12) 0) fun v72=>wV (ld prog 9 v72 W) fun v73=>wV (mup prog 181 v71 v73 (.bool true) W) fun W12=>wV (fad prog 72 (e 12) 1) fun v75=>wV (ld prog 5 v75 W12) fun v76=>wVW (bsl prog 29 1 [(0,v76)] W12) fun v77 W13=>wVW (app prog [29,29] (e 10) v77 W13) fun v78 W14=>(zKZ ro K) .normal (Env.of e [(10,v78),(78,v78),(77,v77),(76,v76),(75,v75),(74,(e 10)),(73,v73),(72,v72),(71,v71)]) ds W14) (zBm 1 (zKZ ro K))
def zEB (ro:Option Nat) (K:zAI):zAI:=zA5 (fun e ds W=>wI (e 70) ((zGK ro K) .ret (Env.of e [(7,(.bool false)),(6,(.slice none 0 0))]) ds W) ((zGK ro K) .normal e ds W)) (zGK ro K)
theorem zUd (ro:Option Nat) (e:Env) (ds:List Deferred) (K:zAI) (W:CW):zAJ prog pkL ro 125 84 (zAS prog 125 0) e ds W K=(wV (zAL prog .lss 3 false (e 51) (e 50)) fun v52=>wI v52 (wV (iad prog 45 (e 49) (e 51)) fun v53=>wV (ld prog 72 v53 W) fun v54=>wVW (alc prog 72 W) fun v12 W10=>wV (sto prog 72 v12 v54 W10) fun W11=>wV (fad prog 72 v12 0) fun v55=>wV (ld prog 9 v55 W11) fun v56=>WCall prog pkL 101 [v56] W11 (zAK (fun v57 W17=>wV (ngt v57) fun v58=>wI v58 ((zEB ro K) .normal (Env.of e [(70,(.bool true)),(69,undef),(65,(.bool true)),(68,undef),(65,(.bool true)),(67,undef),(65,(.bool true)),(66,undef),(65,(.bool true)),(65,(.bool true)),(64,(.bool true)),(63,undef),(59,(.bool true)),(62,undef),(59,(.bool true)),(61,undef),(59,(.bool true)),(60,undef),(59,(.bool true)),(59,v58),(58,v58),(57,v57),(56,v56),(55,v55),(12,v12),(54,v54),(53,v53),(52,v52)]) ds W17) (wV (fad prog 72 v12 1) fun v60=>wV (ld prog 5 v60 W17) fun v61=>WCall prog pkL 100 [v61] W17 (zAK (fun v62 W19=>wV (ngt v62) fun v63=>wI v63 ((zEB ro K) .normal (Env.of e [(70,(.bool true)),(69,undef),(65,(.bool true)),(68,undef),(65,(.bool true)),(67,undef),(65,(.bool true)),(66,undef),(65,(.bool true)),(65,v63),(64,v63),(63,v63),(59,(.bool false)),(62,v62),(59,(.bool false)),(61,v61),(59,(.bool false)),(60,v60),(59,(.bool false)),(59,v58),(58,v58),(57,v57),(56,v56),(55,v55),(12,v12),(54,v54),(53,v53),(52,v52)]) ds W19) (wV (ld prog 181 (e 4) W19) fun v66=>wV (fad prog 72 v12 0) fun v67=>wV (ld prog 9 v67 W19) fun v68=>wV (lkp prog 181 v66 v68 false W19) fun v69=>(zEB ro K) .normal (Env.of e [(70,v69),(69,v69),(65,(.bool false)),(68,v68),(65,(.bool false)),(67,v67),(65,(.bool false)),(66,v66),(65,(.bool false)),(65,v63),(64,v63),(63,v63),(59,(.bool false)),(62,v62),(59,(.bool false)),(61,v61),(59,(.bool false)),(60,v60),(59,(.bool false)),(59,v58),(58,v58),(57,v57),(56,v56),(55,v55),(12,v12),(54,v54),(53,v53),(52,v52)]) ds W19)) (fun ch20 W20=>(zEB ro K) (.panic ch20) (Env.of e [(59,(.bool false)),(61,v61),(59,(.bool false)),(60,v60),(59,(.bool false)),(59,v58),(58,v58),(57,v57),(56,v56),(55,v55),(12,v12),(54,v54),(53,v53),(52,v52)]) ds W20)))) (fun ch18 W18=>(zEB ro K) (.panic ch18) (Env.of e [(56,v56),(55,v55),(12,v12),(54,v54),(53,v53),(52,v52)]) ds W18))) (K (.exit 0) (Env.of e [(52,v52)]) ds W)):=by kernel_rfl
theorem zJi (Q:Ending→CW→Prop) (e:Env) (W:CW):zAE prog Tryz.f125 Q .ret e [] W=Q (.returned (.tuple #[e 6,e 7])) W:=by kernel_rfl
theorem zVq {Q:Ending→CW→Prop} {v0 v1 v2 v3 v4:Value} {W:CW} (h:zAJ prog pkL none 125 84 (zAG prog 125) (Env.args [v0,v1,v2,v3,v4]) [] W (zAE prog Tryz.f125 Q)):WCall prog pkL 125 [v0,v1,v2,v3,v4] W Q:=zAM Tryz.func125 (by kernel_rfl) (by kernel_rfl) (by kernel_rfl) (by kernel_rfl) (by kernel_rfl) h
end Go.Ce
namespace Go.Ce
theorem zAp (W:CW) (o:CObj) (b:Nat):(W.new o).obj b=if b=W.sz then some o else W.obj b:=by
 unfold CW.new CW.obj; simp only [Tr.get_set]
theorem zCv (W:CW) (i:Nat) (o:CObj) (b:Nat):(W.upd i o).obj b=if b=i then some o else W.obj b:=by
 unfold CW.upd CW.obj; simp only [Tr.get_set]
theorem zDG (W:CW) (o:CObj):(W.new o).sz=W.sz+1:=rfl
theorem zTb (W:CW) (i:Nat) (o:CObj):(W.upd i o).sz=W.sz:=rfl
def CW.cell (W:CW) (b k:Nat):Option Value:=match W.obj b with
 | some (.cells c n z _)=>if k<n then some (zBh c z k) else none
 | some (.fixed f n _)=>if k<n then some (f k) else none
 | _=>none
def Top (W:CW):Prop:=∀ i o,W.obj i=some o→i<W.sz
structure Kp (W W':CW):Prop where
 sz:W.sz≤W'.sz
 obj:∀ b,b<W.sz→W'.obj b=W.obj b
structure Upd (b:Nat) (W W':CW):Prop where
 sz:W'.sz=W.sz
 obj:∀ i,i≠b→W'.obj i=W.obj i
theorem Kp.refl (W:CW):Kp W W:=⟨Nat.le_refl _,fun _ _=>rfl⟩
theorem Kp.trans {A B C:CW} (h:Kp A B) (k:Kp B C):Kp A C:=⟨Nat.le_trans h.sz k.sz,fun b hb=>(k.obj b (Nat.lt_of_lt_of_le hb h.sz)).trans (h.obj b hb)⟩
theorem Kp.new {W:CW} (o:CObj):Kp W (W.new o):=⟨Nat.le_succ _,fun b hb=>by rw [zAp,if_neg (Nat.ne_of_lt hb)]⟩
theorem Kp.upd {A B C:CW} {b:Nat} (h:Kp A B) (hb:A.sz≤b) (k:Upd b B C):Kp A C:=⟨by rw [k.sz]; exact h.sz,fun i hi=>(k.obj i (by omega)).trans (h.obj i hi)⟩
theorem Top.new {W:CW} (h:Top W) (o:CObj):Top (W.new o):=by
 intro i u hu; rw [zAp] at hu; rw [zDG]
 split at hu
 ·omega
 ·have:=h i u hu; omega
theorem Top.upd {W W':CW} {b:Nat} (h:Top W) (hb:b<W.sz) (k:Upd b W W'):Top W':=by
 intro i u hu; rw [k.sz]
 by_cases e:i=b
 ·omega
 ·rw [k.obj i e] at hu; exact h i u hu
theorem Upd.of (W:CW) (b:Nat) (o:CObj):Upd b W (W.upd b o):=⟨rfl,fun i hi=>by rw [zCv,if_neg hi]⟩
theorem zNZ {W:CW} (h:Top W) {b k:Nat} {v:Value} (hc:W.cell b k=some v):b<W.sz:=by
 unfold CW.cell at hc
 cases ho:W.obj b with
 | none=>rw [ho] at hc; cases hc
 | some o=>exact h b o ho
theorem zG4 {W W':CW} {b:Nat} (h:W'.obj b=W.obj b) (k:Nat):W'.cell b k=W.cell b k:=by unfold CW.cell; rw [h]
theorem Kp.cell {W W':CW} (h:Kp W W') (ht:Top W) {b k:Nat} {v:Value} (hc:W.cell b k=some v):W'.cell b k=some v:=by
 rw [zG4 (h.obj b (zNZ ht hc))]; exact hc
theorem Upd.cell {W W':CW} {i:Nat} (h:Upd i W W') {b:Nat} (hb:b≠i) (k:Nat):W'.cell b k=W.cell b k:=zG4 (h.obj b hb) k
def Blk (W:CW) (b:Nat) (e:TypeId) (vs:List Value):Prop:=∃ c n z,W.obj b=some (.cells c n z e)∧vs.length=n∧∀ k v,vs[k]?=some v→zBh c z k=v
theorem Blk.cell {W:CW} {b:Nat} {e:TypeId} {vs:List Value} (h:Blk W b e vs) {k:Nat} {v:Value} (hk:vs[k]?=some v):W.cell b k=some v:=by
 obtain ⟨c,n,z,ho,hn,hv⟩:=h; unfold CW.cell; rw [ho]; have:k<n:=by rw [←hn]; exact (List.getElem?_eq_some_iff.1 hk).1
 simp only [if_pos this,hv k v hk]
theorem Blk.congr {W W':CW} {b:Nat} {e:TypeId} {vs:List Value} (h:Blk W b e vs) (ho:W'.obj b=W.obj b):Blk W' b e vs:=by
 obtain ⟨c,n,z,h1,h2⟩:=h; exact ⟨c,n,z,ho.trans h1,h2⟩
theorem Blk.lt {W:CW} (ht:Top W) {b:Nat} {e:TypeId} {vs:List Value} (h:Blk W b e vs):b<W.sz:=by
 obtain ⟨c,n,z,h1,h2⟩:=h; exact ht _ _ h1
theorem Blk.ext {W W':CW} {b:Nat} {e:TypeId} {vs:List Value} (h:Blk W b e vs) (ht:Top W) (k:Kp W W'):Blk W' b e vs:=h.congr (k.obj b (h.lt ht))
section
variable {P:Program}
theorem zAB {t:TypeId} (h:agg? P t=some false) {a:Addr} {W:CW} {v:Value} (hc:W.cell a.block a.off=some v):ld P t (.pointer (some a)) W=some v:=by
 unfold CW.cell at hc; unfold ld zHY; simp only
 split at hc
 ·rename_i c n z e ho; rw [ho]; simp only [h,cond_eq_ite]
  split at hc
  ·rename_i hlt; rw [if_pos (show Nat.blt a.off n=true from Nat.ble_eq_true_of_le hlt)]; exact hc
  ·cases hc
 ·rename_i f n e ho; rw [ho]; simp only [h,cond_eq_ite]
  split at hc
  ·rename_i hlt; rw [if_pos (show Nat.blt a.off n=true from Nat.ble_eq_true_of_le hlt)]; exact hc
  ·cases hc
 ·cases hc
theorem zDY {c:Tr Value} {z:Array Value}:∀ {vs:List Value} {k:Nat},(∀ j v,vs[j]?=some v→zBh c z (k+j)=v)→zAh c z vs.length k=vs
 | [],_,_=>rfl
 | v::vs,k,h=>by
  simp only [List.length_cons,zAh]; have e:=h 0 v rfl; rw [Nat.add_zero] at e; rw [e,zDY fun j w hj=>?_]; have:=h (j+1) w (by simpa using hj); rw [show k+1+j=k+(j+1) by omega]; exact this
theorem zGn {f:Nat→Value}:∀ {vs:List Value} {k:Nat},(∀ j v,vs[j]?=some v→f (k+j)=v)→zCG f vs.length k=vs
 | [],_,_=>rfl
 | v::vs,k,h=>by
  simp only [List.length_cons,zCG]; have e:=h 0 v rfl; rw [Nat.add_zero] at e; rw [e,zGn fun j w hj=>?_]; have:=h (j+1) w (by simpa using hj); rw [show k+1+j=k+(j+1) by omega]; exact this
def Cells (W:CW) (b k:Nat) (vs:List Value):Prop:=∀ j v,vs[j]?=some v→W.cell b (k+j)=some v
theorem Cells.ext {W W':CW} {b k:Nat} {vs:List Value} (h:Cells W b k vs) (ht:Top W) (hx:Kp W W'):Cells W' b k vs:=fun j v hj=>hx.cell ht (h j v hj)
theorem Blk.cells {W:CW} {b:Nat} {e:TypeId} {vs:List Value} (h:Blk W b e vs):Cells W b 0 vs:=fun j v hj=>by rw [Nat.zero_add]; exact h.cell hj
theorem zA8 {t:TypeId} {m:Nat} (h:agg? P t=some true) (hs:siz P t=some m) {a:Addr} {W:CW} {vs:List Value} (hl:vs.length=m) (hm:0<m) (hc:Cells W a.block a.off vs):ld P t (.pointer (some a)) W=some (.agg vs.toArray):=by
 obtain ⟨l,hl'⟩:∃ l,l+1=m:=⟨m-1,by omega⟩
 have hlast:∃ v,vs[l]?=some v:=⟨vs[l]'(by omega),List.getElem?_eq_getElem _⟩
 obtain ⟨v,hv⟩:=hlast; have hcl:=hc l v hv; unfold CW.cell at hcl; unfold ld zHY; simp only
 split at hcl
 ·rename_i c n z e ho
  split at hcl
  ·rename_i hlt; rw [ho]; simp only [h,hs,cond_eq_ite]; rw [if_pos (Nat.ble_eq_true_of_le (by omega)),←hl,zDY fun j w hj=>?_]; have:=hc j w hj; unfold CW.cell at this; rw [ho] at this; simp only at this
   split at this
   ·exact Option.some.inj this
   ·cases this
  ·cases hcl
 ·rename_i f n e ho
  split at hcl
  ·rename_i hlt; rw [ho]; simp only [h,hs,cond_eq_ite]; rw [if_pos (Nat.ble_eq_true_of_le (by omega)),←hl,zGn fun j w hj=>?_]; have:=hc j w hj; unfold CW.cell at this; rw [ho] at this; simp only at this
   split at this
   ·exact Option.some.inj this
   ·cases this
  ·cases hcl
 ·cases hcl
theorem zAu {α:Type} {x:Option α} {v:α} {K:α→Prop} (h:x=some v) (hk:K v):wV x K:=by rw [h]; exact hk
theorem zDV {x:Option (Value × CW)} {v:Value} {W:CW} {K:Value→CW→Prop} (h:x=some (v,W)) (hk:K v W):wVW x K:=by rw [h]; exact hk
theorem zFa {t:TypeId} {n:Nat} {z:Value} (hz:zer P t=some z) (hs:siz P t=some n) {W:CW} {K:Value→CW→Prop} (ht:Top W)
  (hk:∀ W1,Kp W W1→Top W1→W1.sz=W.sz+1→Blk W1 W.sz t z.cells.toList→K (.pointer (some ⟨W.sz,0,none⟩)) W1):wVW (alc P t W) K:=by
 refine zDV (by unfold alc; rw [hz,hs]) (hk _ (.new _) (ht.new _) rfl ⟨.nil,_,_,by rw [zAp,if_pos rfl],by simp,fun k v hv=>?_⟩); have hlt:=(List.getElem?_eq_some_iff.1 hv).1; simp only [Array.length_toList] at hlt; unfold zBh; simp only [Tr.get_nil]; rw [Nat.mod_eq_of_lt hlt]; rw [Array.getElem?_toList] at hv; simp only [Array.getD_eq_getD_getElem?,hv,Option.getD_some]
theorem zDC {t:TypeId} {n:Nat} (hs:siz P t=some n) {v:Value} {W:CW} {K:Value→CW→Prop} (ht:Top W)
  (hk:∀ W1,Kp W W1→Top W1→W1.sz=W.sz+1→Blk W1 W.sz t v.cells.toList→K (.pointer (some ⟨W.sz,0,none⟩)) W1):wVW (bxw P t v W) K:=by
 refine zDV (by unfold bxw; rw [hs]; rfl) (hk _ (.new _) (ht.new _) rfl ⟨_,_,_,by rw [zAp,if_pos rfl],by simp,fun k w hv=>?_⟩); have hlt:=(List.getElem?_eq_some_iff.1 hv).1; rw [zBL _ _ _ hlt,List.getD_eq_getElem?_getD,hv]; rfl
def zDz (vs:List Value) (k:Nat) (ws:List Value):List Value:=vs.take k++ws++vs.drop (k+ws.length)
theorem zLM {vs ws:List Value} {k:Nat} (h:k+ws.length≤vs.length):(zDz vs k ws).length=vs.length:=by
 simp only [zDz,List.length_append,List.length_take,List.length_drop]; omega
theorem zDq {vs ws:List Value} {k:Nat} (h:k+ws.length≤vs.length) (j:Nat):(zDz vs k ws)[j]?=if k≤j∧j<k+ws.length then ws[j-k]? else vs[j]?:=by
 have h1:(vs.take k).length=k:=by rw [List.length_take]; omega
 simp only [zDz,List.append_assoc]
 by_cases h2:j<k
 ·rw [List.getElem?_append_left (by omega),if_neg (by omega),List.getElem?_take,if_pos h2]
 ·rw [List.getElem?_append_right (by omega),h1]
  by_cases h3:j<k+ws.length
  ·rw [List.getElem?_append_left (by omega),if_pos ⟨by omega,h3⟩]
  ·rw [List.getElem?_append_right (by omega),if_neg (by omega),List.getElem?_drop]; congr 1; omega
theorem Blk.put {W:CW} {b:Nat} {e:TypeId} {vs ws:List Value} {k:Nat} (h:Blk W b e vs) (hk:k+ws.length≤vs.length):∃ c n z,W.obj b=some (.cells c n z e)∧vs.length=n∧Blk (W.upd b (.cells (c.putFrom k ws) n z e)) b e (zDz vs k ws):=by
 obtain ⟨c,n,z,ho,hn,hv⟩:=h; refine ⟨c,n,z,ho,hn,_,_,_,by rw [zCv,if_pos rfl],by rw [zLM hk,hn],fun j v hj=>?_⟩; rw [zDq hk] at hj; unfold zBh; rw [Tr.get_putFrom]
 split at hj
 ·rename_i h1; rw [if_pos h1,hj]
 ·rename_i h1; rw [if_neg h1]; exact hv j v hj
theorem zAX {t:TypeId} (hs:siz P t=some 1) {a:Addr} {v:Value} (h1:zAg v=true) {W:CW} {e:TypeId} {vs:List Value} (hb:Blk W a.block e vs) (ha:a.off<vs.length) {K:CW→Prop}
  (hk:∀ W1,Upd a.block W W1→Blk W1 a.block e (zDz vs a.off [v])→K W1):wV (sto P t (.pointer (some a)) v W) K:=by
 obtain ⟨c,n,z,ho,hn,hb'⟩:=hb.put (k:=a.off) (ws:=[v]) (by simp only [List.length_singleton]; omega); refine zAu ?_ (hk _ (Upd.of _ _ _) hb'); have:sto P t (.pointer (some a)) v W=zFW P t a v W:=rfl; rw [this]; unfold zFW; rw [ho]; have hlt:Nat.blt a.off n=true:=Nat.ble_eq_true_of_le (by omega)
 cases v <;> first | (cases h1; done) | (simp only [hs,hlt,Nat.beq_refl,Bool.and_self,cond_true,Tr.putFrom])
theorem zB6 {t:TypeId} {m:Nat} (hs:siz P t=some m) {a:Addr} {ws:List Value} (h1:ws.all zAg=true) (hm:ws.length=m) {W:CW} {e:TypeId} {vs:List Value} (hb:Blk W a.block e vs) (ha:a.off+m≤vs.length) {K:CW→Prop}
  (hk:∀ W1,Upd a.block W W1→Blk W1 a.block e (zDz vs a.off ws)→K W1):wV (sto P t (.pointer (some a)) (.agg ws.toArray) W) K:=by
 obtain ⟨c,n,z,ho,hn,hb'⟩:=hb.put (k:=a.off) (ws:=ws) (by omega); refine zAu ?_ (hk _ (Upd.of _ _ _) hb'); have:sto P t (.pointer (some a)) (.agg ws.toArray) W=zFW P t a (.agg ws.toArray) W:=rfl; rw [this]; unfold zFW; rw [ho]; have hlt:Nat.ble (a.off+m) n=true:=Nat.ble_eq_true_of_le (by omega); simp only [hs,hlt,hm,List.size_toArray,Nat.beq_refl,Bool.and_self,Bool.true_and,cond_true,h1]
end
end Go.Ce
namespace Go.Ce
theorem zAA {α:Type} (v:α) (K:α→Prop):wV (some v) K=K v:=rfl
theorem zR7 (v:Value) (W:CW) (K:Value→CW→Prop):wVW (some (v,W)) K=K v W:=rfl
theorem zAn (X Y:Prop):wI (.bool true) X Y=X:=rfl
theorem zAP (X Y:Prop):wI (.bool false) X Y=Y:=rfl
theorem zAR (b:Bool):ngt (.bool b)=some (.bool (!b)):=rfl
theorem qKn (Y:Env→List Deferred→CW→Prop) (K:zAI) (e:Env) (ds:List Deferred) (W:CW):zA5 Y K .normal e ds W=Y e ds W:=rfl
theorem qKr (Y:Env→List Deferred→CW→Prop) (K:zAI) (e:Env) (ds:List Deferred) (W:CW):zA5 Y K .ret e ds W=K .ret e ds W:=rfl
theorem qKx (Y:Env→List Deferred→CW→Prop) (K:zAI) (i:Nat) (e:Env) (ds:List Deferred) (W:CW):zA5 Y K (.exit i) e ds W=K (.exit i) e ds W:=rfl
theorem qKp (Y:Env→List Deferred→CW→Prop) (K:zAI) (ch:List PanicEntry) (e:Env) (ds:List Deferred) (W:CW):zA5 Y K (.panic ch) e ds W=K (.panic ch) e ds W:=rfl
theorem bKn (i:Nat) (K:zAI) (e:Env) (ds:List Deferred) (W:CW):zBm i K .normal e ds W=K .normal e ds W:=rfl
theorem bKr (i:Nat) (K:zAI) (e:Env) (ds:List Deferred) (W:CW):zBm i K .ret e ds W=K .ret e ds W:=rfl
theorem bKp (i:Nat) (K:zAI) (ch:List PanicEntry) (e:Env) (ds:List Deferred) (W:CW):zBm i K (.panic ch) e ds W=K (.panic ch) e ds W:=rfl
theorem bKx (i j:Nat) (K:zAI) (e:Env) (ds:List Deferred) (W:CW):zBm i K (.exit j) e ds W=if j=i then K .normal e ds W else K (.exit j) e ds W:=by
 simp only [zBm,cond_eq_ite,Nat.beq_eq]
theorem eKa (vs:List Value) (t:Nat):Env.args vs t=(vs[t]?).getD undef:=by
 unfold Env.args
 cases vs[t]? <;> rfl
def zOu (I:Nat→Env→List Deferred→CW→Prop) (k:Nat) (K:zAI):zAI:=fun x e ds W=>match x with
 | .normal=>∃ k',k'<k∧I k' e ds W
 | x=>K x e ds W
theorem tKn (I:Nat→Env→List Deferred→CW→Prop) (k:Nat) (K:zAI) (e:Env) (ds:List Deferred) (W:CW):zOu I k K .normal e ds W=∃ k',k'<k∧I k' e ds W:=rfl
theorem tKr (I:Nat→Env→List Deferred→CW→Prop) (k:Nat) (K:zAI) (e:Env) (ds:List Deferred) (W:CW):zOu I k K .ret e ds W=K .ret e ds W:=rfl
theorem tKx (I:Nat→Env→List Deferred→CW→Prop) (k:Nat) (K:zAI) (i:Nat) (e:Env) (ds:List Deferred) (W:CW):zOu I k K (.exit i) e ds W=K (.exit i) e ds W:=rfl
theorem tKp (I:Nat→Env→List Deferred→CW→Prop) (k:Nat) (K:zAI) (ch:List PanicEntry) (e:Env) (ds:List Deferred) (W:CW):zOu I k K (.panic ch) e ds W=K (.panic ch) e ds W:=rfl
theorem zPt {P:Program} {L:List FuncId} {ro:Option Nat} {fn:FuncId} {nt:Nat} {b:Code} {K:zAI} (I:Nat→Env→List Deferred→CW→Prop) (k:Nat) {e:Env} {ds:List Deferred} {W:CW} (h0:I k e ds W)
  (hstep:∀ k e ds W,I k e ds W→zAJ P L ro fn nt b e ds W (zOu I k K)):zCg P L ro fn nt (.loop b) e ds W K :=
 zWu I (fun k e ds W hi=>hstep k e ds W hi) k e ds W h0
def zI3 (v:Value) (W:CW):Ending→CW→Prop:=fun e W'=>e=.returned v∧W'=W
theorem zB2 {P:Program} {L:List FuncId} {f:FuncId} {args:List Value} {W:CW} {K:Value→CW→Prop} {KP:List PanicEntry→CW→Prop} {v:Value} (h:WCall P L f args W (zI3 v W)) (hk:K v W):WCall P L f args W (zAK K KP) :=
 h.mono fun e W' ⟨he,hw⟩=>by subst he; subst hw; exact hk
theorem zDd {P:Program} {L:List FuncId} {f:FuncId} {first cap:Array Value} {args:List Value} {W:CW} {K:Value→CW→Prop} {KP:List PanicEntry→CW→Prop} {fn:Func} (hf:P.funcs[f]?=some fn) (hb:fn.body.isNone=false)
  (h:WCall P L f (first.toList++args++cap.toList) W (zAK K KP)):zBq P L (.func (.func f) first cap) args W K KP:=by
 unfold zBq zFN; simp only; have:zE1 P f (first.toList++args++cap.toList) W=none:=by unfold zE1; rw [hf]; simp only [hb,cond_false]
 rw [this]; exact h
def IsSl {α:Type} (n:Nat) (R:Nat→Nat→α→Prop) (v:Value) (l:List α):Prop:=∃ a cap,v=.slice a l.length cap∧∀ i x,l[i]?=some x→∃ p,a=some p∧R p.block (p.off+i*n) x
section
variable {P:Program} {t:TypeId} {k:Bool}
theorem zAz (kk:IntKind) (a b:Int):zAL P .eql t k (.int kk a) (.int kk b)=some (.bool (a == b)):=by simp [zAL,zOV]
theorem zBW (kk:IntKind) (a b:Int):zAL P .neq t k (.int kk a) (.int kk b)=some (.bool (a != b)):=by simp [zAL,zOV]
theorem zAZ (kk:IntKind) (a b:Int):zAL P .lss t k (.int kk a) (.int kk b)=some (.bool (decide (a<b))):=by simp [zAL,zOV]
theorem zEI (kk:IntKind) (a b:Int):zAL P .leq t k (.int kk a) (.int kk b)=some (.bool (decide (a≤b))):=by simp [zAL,zOV]
theorem zBO (kk:IntKind) (a b:Int):zAL P .gtr t k (.int kk a) (.int kk b)=some (.bool (decide (a>b))):=by simp [zAL,zOV]
theorem zEJ (kk:IntKind) (a b:Int):zAL P .geq t k (.int kk a) (.int kk b)=some (.bool (decide (a≥b))):=by simp [zAL,zOV]
theorem zAW (kk:IntKind) (a b:Int):zAL P .add t k (.int kk a) (.int kk b)=some (.int kk (kk.wrap (a+b))):=by simp [zAL,zOV]
theorem zCD (kk:IntKind) (a b:Int):zAL P .sub t k (.int kk a) (.int kk b)=some (.int kk (kk.wrap (a-b))):=by simp [zAL,zOV]
theorem zOX (kk:IntKind) (a b:Int):zAL P .mul t k (.int kk a) (.int kk b)=some (.int kk (kk.wrap (a*b))):=by simp [zAL,zOV]
theorem zOW (kk:IntKind) (a b:Int) (h:b≠0):zAL P .quo t k (.int kk a) (.int kk b)=some (.int kk (kk.wrap (a.tdiv b))):=by simp [zAL,zOV,beq_false_of_ne h]
theorem zKl (kk:IntKind) (a b:Int) (h:b≠0):zAL P .rem t k (.int kk a) (.int kk b)=some (.int kk (a.tmod b)):=by simp [zAL,zOV,beq_false_of_ne h]
theorem zMH (a b:ByteArray):zAL P .eql t k (.string a) (.string b)=some (.bool (bEq (sb a) (sb b))):=rfl
theorem zIi (a b:ByteArray):zAL P .neq t k (.string a) (.string b)=some (.bool (!bEq (sb a) (sb b))):=rfl
theorem zMG (a b:ByteArray):zAL P .geq t k (.string a) (.string b)=some (.bool (!bLt (sb a) (sb b))):=rfl
theorem zOb:∀ l:List UInt8,bEq l l=true
 | []=>rfl
 | a::l=>by simp only [bEq,Nat.beq_refl,zOb l,Bool.and_self]
theorem bEq_iff {a b:ByteArray}:bEq (sb a) (sb b)=true↔a=b:=⟨zGV,fun h=>by rw [h]; exact zOb _⟩
theorem zG7 (a b:ByteArray):bEq (sb a) (sb b)=decide (a=b):=by
 cases h:bEq (sb a) (sb b) with
 | true=>exact (decide_eq_true (zGV h)).symm
 | false=>exact (decide_eq_false fun e=>by rw [bEq_iff.2 e] at h; cases h).symm
theorem zAT {el:TypeId} (u:P.underlying t=some (.slice el)) (a:Option Addr) (n c:Nat) (W:CW):zAm P t (.slice a n c) W=some (.int .i64 n):=by unfold zAm; rw [u]
theorem zFJ (u:P.underlying t=some .string) (s:ByteArray) (W:CW):zAm P t (.string s) W=some (.int .i64 s.size):=by unfold zAm; rw [u]
theorem zAb {el:TypeId} {n:Nat} (u:P.underlying t=some (.slice el)) (hs:siz P el=some n) {a:Addr} {len cap:Nat} {kk:IntKind} {i:Nat} (hi:i<len):iad P t (.slice (some a) len cap) (.int kk i)=some (.pointer (some ⟨a.block,a.off+i*n,none⟩)):=by
 unfold iad; simp only [u,zCc,hs]; simp only [cond_eq_ite]; rw [if_pos (by simp only [Bool.and_eq_true,decide_eq_true_eq]; omega)]; simp
theorem zBU {x:Int} (h1:-9223372036854775808≤x) (h2:x≤9223372036854775807):IntKind.i64.wrap x=x:=by
 unfold IntKind.wrap; simp [IntKind.bits,IntKind.signed]; omega
end
theorem gKz {α:Type} (a:α) (l:List α):(a::l)[0]?=some a:=rfl
theorem gKs {α:Type} (a:α) (l:List α) (i:Nat):(a::l)[i+1]?=l[i]?:=rfl
theorem dKs {α:Type} (a b:α):(some a).getD b=a:=rfl
end Go.Ce
namespace Go.Ce
open Go Go.Proofs Go.Proofs.Tryz
structure Fld where
 name:ByteArray
 kind:Int
structure Shp where
 name:ByteArray
 super:ByteArray
 fields:List Fld
 elem:Int
structure Spc where
 type:ByteArray
 to:ByteArray
 map:List Int
structure Thg where
 type:ByteArray
 vals:List Int
def RInt (W:CW) (b o:Nat) (x:Int):Prop:=W.cell b o=some (.int .i64 x)∧-9223372036854775808≤x∧x≤9223372036854775807
structure RFld (W:CW) (b o:Nat) (x:Fld):Prop where
 name:W.cell b o=some (.string x.name)
 kind:W.cell b (o+1)=some (.int .u8 x.kind)
 lo:0≤x.kind
 hi:x.kind<256
structure RShp (W:CW) (b o:Nat) (x:Shp):Prop where
 name:W.cell b o=some (.string x.name)
 super:W.cell b (o+1)=some (.string x.super)
 fields:∃ v,W.cell b (o+2)=some v∧IsSl 2 (RFld W) v x.fields
 elem:W.cell b (o+3)=some (.int .u8 x.elem)
 binds:∃ a l k,W.cell b (o+4)=some (.slice a l k)
 lo:0≤x.elem
 hi:x.elem<256
def ElOk (W:CW) (el:TypeId) (v:Value):Prop:=∀ a l c,v=.slice a l c→zL0 W a el=true∧l≤c
theorem ElOk.of {W W':CW} {el:TypeId} {v:Value} (h:ElOk W el v) (ho:∀ b o,W.obj b=some o→(∃ c n z e,o=.cells c n z e)∨(∃ f n e,o=.fixed f n e)→W'.obj b=some o):ElOk W' el v:=by
 intro a l c hv; obtain ⟨h1,h2⟩:=h a l c hv; refine ⟨?_,h2⟩
 cases a with
 | none=>rfl
 | some a =>
  unfold zL0 at h1 ⊢; simp only [Bool.or_eq_true] at h1 ⊢
  rcases h1 with h1 | h1
  ·exact .inl h1
  ·right
   cases hb:W.obj a.block with
   | none=>rw [hb] at h1; cases h1
   | some o =>
    rw [hb] at h1
    cases o with
    | cells c n z e=>rw [ho _ _ hb (.inl ⟨_,_,_,_,rfl⟩)]; exact h1
    | fixed f n e=>rw [ho _ _ hb (.inr ⟨_,_,_,rfl⟩)]; exact h1
    | _=>cases h1
theorem ElOk.kp {W W':CW} {el:TypeId} {v:Value} (h:ElOk W el v) (ht:Top W) (k:Kp W W'):ElOk W' el v:=h.of fun b o hb _=>by rw [k.obj b (ht _ _ hb)]; exact hb
structure RSpc (W:CW) (b o:Nat) (x:Spc):Prop where
 type:W.cell b o=some (.string x.type)
 to:W.cell b (o+1)=some (.string x.to)
 map:∃ v,W.cell b (o+2)=some v∧IsSl 1 (RInt W) v x.map∧ElOk W 3 v
structure RThg (W:CW) (b o:Nat) (x:Thg):Prop where
 type:W.cell b o=some (.string x.type)
 vals:∃ v,W.cell b (o+1)=some v∧IsSl 1 (RInt W) v x.vals
theorem u9:prog.underlying 9=some .string:=by kernel_rfl
theorem u22:prog.underlying 22=some (.slice 48):=by kernel_rfl
theorem u23:prog.underlying 23=some (.slice 58):=by kernel_rfl
theorem u24:prog.underlying 24=some (.slice 56):=by kernel_rfl
theorem u29:prog.underlying 29=some (.slice 5):=by kernel_rfl
theorem u40:prog.underlying 40=some (.slice 3):=by kernel_rfl
theorem u45:prog.underlying 45=some (.slice 72):=by kernel_rfl
theorem u51:prog.underlying 51=some (.slice 9):=by kernel_rfl
theorem s3:siz prog 3=some 1:=by kernel_rfl
theorem s5:siz prog 5=some 1:=by kernel_rfl
theorem s9:siz prog 9=some 1:=by kernel_rfl
theorem s48:siz prog 48=some 5:=by kernel_rfl
theorem s56:siz prog 56=some 2:=by kernel_rfl
theorem s58:siz prog 58=some 3:=by kernel_rfl
theorem s72:siz prog 72=some 2:=by kernel_rfl
theorem a3:agg? prog 3=some false:=by kernel_rfl
theorem a5:agg? prog 5=some false:=by kernel_rfl
theorem a9:agg? prog 9=some false:=by kernel_rfl
theorem a29:agg? prog 29=some false:=by kernel_rfl
theorem a40:agg? prog 40=some false:=by kernel_rfl
theorem a45:agg? prog 45=some false:=by kernel_rfl
theorem a48:agg? prog 48=some true:=by kernel_rfl
theorem a56:agg? prog 56=some true:=by kernel_rfl
theorem a58:agg? prog 58=some true:=by kernel_rfl
theorem a72:agg? prog 72=some true:=by kernel_rfl
theorem zGv (a:Addr):fad prog 48 (.pointer (some a)) 0=some (.pointer (some ⟨a.block,a.off,none⟩)):=by kernel_rfl
theorem zNC (a:Addr):fad prog 48 (.pointer (some a)) 1=some (.pointer (some ⟨a.block,a.off+1,none⟩)):=by kernel_rfl
theorem zIJ (a:Addr):fad prog 48 (.pointer (some a)) 2=some (.pointer (some ⟨a.block,a.off+2,none⟩)):=by kernel_rfl
theorem zNB (a:Addr):fad prog 48 (.pointer (some a)) 3=some (.pointer (some ⟨a.block,a.off+3,none⟩)):=by kernel_rfl
theorem zNA (a:Addr):fad prog 72 (.pointer (some a)) 0=some (.pointer (some ⟨a.block,a.off,none⟩)):=by kernel_rfl
theorem zQy (a:Addr):fad prog 72 (.pointer (some a)) 1=some (.pointer (some ⟨a.block,a.off+1,none⟩)):=by kernel_rfl
theorem zCU (a:Addr):fad prog 56 (.pointer (some a)) 0=some (.pointer (some ⟨a.block,a.off,none⟩)):=by kernel_rfl
theorem zCH (a:Addr):fad prog 56 (.pointer (some a)) 1=some (.pointer (some ⟨a.block,a.off+1,none⟩)):=by kernel_rfl
theorem zEs (a:Addr):fad prog 58 (.pointer (some a)) 0=some (.pointer (some ⟨a.block,a.off,none⟩)):=by kernel_rfl
theorem zEr (a:Addr):fad prog 58 (.pointer (some a)) 1=some (.pointer (some ⟨a.block,a.off+1,none⟩)):=by kernel_rfl
theorem zFk (a:Addr):fad prog 58 (.pointer (some a)) 2=some (.pointer (some ⟨a.block,a.off+2,none⟩)):=by kernel_rfl
end Go.Ce
namespace Go.Ce
open Go Go.Proofs Go.Proofs.Tryz
theorem zQr (n a b:Int) (W:CW):WCall prog pkL 103 [.int .i64 n,.int .i64 a,.int .i64 b] W (zI3 (.bool (decide (a≤n) && decide (n≤b))) W):=by
 refine zWE ?_; rw [zWF]; simp only [zEJ,zEI,zAA]; refine zAH (fun h=>?_) (fun h=>?_) <;> simp only [zNS,qKn,zPU,eKc] <;> refine ⟨?_,rfl⟩ <;> simp at h <;> simp [h]
 omega
theorem zLc (n:Int) (W:CW):WCall prog pkL 100 [.int .u8 n] W (zI3 (.bool (n == 1 || n == 2)) W):=by
 refine zWK ?_; rw [zWL]; simp only [zAz,zAA]; refine zAH (fun h=>?_) (fun h=>?_) <;> simp only [zNT,qKn,zPV,eKc] <;> refine ⟨?_,rfl⟩ <;> simp [h]
theorem zLb (n:Int) (W:CW):WCall prog pkL 124 [.int .u8 n] W (zI3 (.bool (decide (n<33) || decide (n>126))) W):=by
 refine zVs ?_; rw [zVt]; simp only [zAZ,zBO,zAA]; refine zAH (fun h=>?_) (fun h=>?_) <;> simp only [zNQ,qKn,zPN,eKc] <;> refine ⟨?_,rfl⟩ <;> simp [h]
end Go.Ce
namespace Go.Ce
def zUv (T:Tr Value) (t:Nat):Value:=match T.get t with | some v=>v | none=>undef
theorem zNe (a:CAct) (t:Nat):a.at t=zUv a.t t:=by
 unfold CAct.at zUv
 cases a.t.get t <;> rfl
def LoopAt (W:CW) (l:Nat) (st:LoopState) (pend:Option Code) (fn:FuncId) (e:Env) (nt:Nat) (ps:Array Tmp) (A B:Code) (d:Nat):Prop :=
 ∃ T:Tr Value,W.obj l=some (.loop st pend fn T nt ps A B d)∧∀ t,zUv T t=e t
theorem LoopAt.congr {W W':CW} {l:Nat} {st:LoopState} {pend:Option Code} {fn:FuncId} {e:Env} {nt:Nat} {ps:Array Tmp} {A B:Code} {d:Nat} (h:LoopAt W l st pend fn e nt ps A B d) (ho:W'.obj l=W.obj l):LoopAt W' l st pend fn e nt ps A B d:=by
 obtain ⟨T,h1,h2⟩:=h; exact ⟨T,ho.trans h1,h2⟩
def Env.sets (e:Env):List (Tmp × Value)→Env
 | []=>e
 | p::ps=>Env.sets (fun t=>if t=p.1 then p.2 else e t) ps
theorem zQG:∀ (ps:List (Tmp × Value)) (T:Tr Value) (e:Env),(∀ t,zUv T t=e t) →
  ∀ t,zUv (ps.foldl (fun t (p:Tmp × Value)=>t.set p.1 p.2) T) t=e.sets ps t
 | [],T,e,h=>h
 | p::ps,T,e,h=>by
  intro t; refine zQG ps (T.set p.1 p.2) _ (fun t=>?_) t; unfold zUv; rw [Tr.get_set]
  by_cases ht:t=p.1
  ·rw [if_pos ht,if_pos ht]
  ·rw [if_neg ht,if_neg ht]; exact h t
def zYt (l:Nat) (Q:Ending→CW→Prop):zAI:=fun x _ ds W=>∃ st pend fn e nt ps A B d,LoopAt W l st pend fn e nt ps A B d∧match x with
 | .normal=>∀ W',Upd l W W'→LoopAt W' l .ready none fn e nt ps A B d→Q (.returned (.bool true)) W'
 | .ret=>∀ W',Upd l W W'→LoopAt W' l .done (some .ret) fn e nt ps A B d→Q (.returned (.bool false)) W'
 | .exit id=>∀ W',Upd l W W'→LoopAt W' l .done (some (.exit id)) fn e nt ps A B d→Q (.returned (.bool false)) W'
 | .panic ch=>ds=[]∧Q (.panicked ch) W
 | _=>False
section
variable {P:Program} {L:List FuncId}
theorem zPr {l:Nat} {args:List Value} {W:CW} {Q:Ending→CW→Prop} {pend:Option Code} {fn:FuncId} {e:Env} {nt:Nat} {ps:Array Tmp} {A B:Code} {d:Nat} (hl:LoopAt W l .ready pend fn e nt ps A B d) (hn:args.length=ps.size)
  (h:zAJ P L (some l) fn nt A (e.sets (ps.toList.zip args)) [] W fun x e1 ds W1=>x=.normal∧∃ pend1 e2 nt1 ps1 A1 B1 d1,LoopAt W1 l .ready pend1 fn e2 nt1 ps1 A1 B1 d1∧∀ W2,Upd l W1 W2→LoopAt W2 l .busy pend1 fn e2 nt1 ps1 A1 B1 d1→zAJ P L (some l) fn nt B e1 ds W2 (zYt l Q)):WRound P L l args W Q:=by
 obtain ⟨T,ho,hT⟩:=hl
 let a0:CAct:=⟨(ps.toList.zip args).foldl (fun t (p:Tmp × Value)=>t.set p.1 p.2) T,nt,[]⟩
 have hae:AE a0 (e.sets (ps.toList.zip args)) []:=⟨fun t=>by rw [zNe]; exact zQG _ T e hT t,rfl⟩
 obtain ⟨n,⟨x1,a1,W1⟩,h1,e1,h2,h3,h4⟩:=zCE h a0 hae rfl; simp only at h2 h3 h4; obtain ⟨rfl,pend1,e2,nt1,ps1,A1,B1,d1,hl1,h4⟩:=h4; obtain ⟨T1,ho1,hT1⟩:=hl1; obtain ⟨m,⟨x2,a2,W2⟩,h5,e3,h6,h7,h8⟩:=zCE (h4 _ (Upd.of W1 l (.loop .busy pend1 fn T1 nt1 ps1 A1 B1 d1)) ⟨T1,by rw [zCv,if_pos rfl],hT1⟩) a1 h2 h3; simp only at h8; obtain ⟨st,pend2,fn2,e4,nt2,ps2,A2,B2,d2,hl2,h8⟩:=h8; obtain ⟨T2,ho2,hT2⟩:=hl2; have up1:(evC P L (max n m)).code (some l) fn A a0 W=some [(.normal,a1,W1)]:=zCz (Nat.le_max_left n m) h1; have up2:(evC P L (max n m)).code (some l) fn B a1 (W1.upd l (.loop .busy pend1 fn T1 nt1 ps1 A1 B1 d1))=some [(x2,a2,W2)]:=zCz (Nat.le_max_right n m) h5
 have key:∀ {o:Ending × CW},(match x2 with
   | .normal=>zRX l none W2
   | .ret=>zRX l (some .ret) W2
   | .exit id=>zRX l (some (.exit id)) W2
   | .panic ch=>cond a2.defers.isEmpty (some [(.panicked ch,W2)]) none
   | _=>none)=some [o]→(evC P L (max n m+1)).round l args W=some [o]:=by
  intro o hx; rw [zC6]; simp only [zBD,ho]; have hq:Nat.beq args.length ps.size=true:=by rw [hn]; exact Nat.beq_refl _
  rw [hq]; simp only [cond_true]; rw [show (evC P L (max n m)).code (some l) fn A ⟨(ps.toList.zip args).foldl (fun t (p:Tmp × Value)=>t.set p.1 p.2) T,nt,[]⟩ W=some [(.normal,a1,W1)] from up1]; refine zAi _ _ ?_; simp only [ho1]; rw [up2]; refine zAi _ _ ?_; rw [←hx]
  cases x2 <;> rfl
 cases x2 with
 | normal=>exact ⟨_,(.returned (.bool true),W2.upd l (.loop .ready none fn2 T2 nt2 ps2 A2 B2 d2)),key (by simp only [zRX,ho2]; rfl),h8 _ (Upd.of _ _ _) ⟨T2,by rw [zCv,if_pos rfl],hT2⟩⟩
 | ret=>exact ⟨_,(.returned (.bool false),W2.upd l (.loop .done (some .ret) fn2 T2 nt2 ps2 A2 B2 d2)),key (by simp only [zRX,ho2]; rfl),h8 _ (Upd.of _ _ _) ⟨T2,by rw [zCv,if_pos rfl],hT2⟩⟩
 | exit id=>exact ⟨_,(.returned (.bool false),W2.upd l (.loop .done (some (.exit id)) fn2 T2 nt2 ps2 A2 B2 d2)),key (by simp only [zRX,ho2]; rfl),h8 _ (Upd.of _ _ _) ⟨T2,by rw [zCv,if_pos rfl],hT2⟩⟩
 | panic ch =>
  obtain ⟨hd,hq⟩:=h8; exact ⟨_,(.panicked ch,W2),key (by simp only [hd]; rfl),hq⟩
 | goto id=>exact h8.elim
 | outgrown=>exact h8.elim
def zRt (l:Nat) (e:Env) (ds:List Deferred) (K:zAI):Ending→CW→Prop:=fun en W=>(∃ v,en=.returned v)∧∃ st pend fn e0 nt ps A B d,LoopAt W l st pend fn e0 nt ps A B d∧st≠.busy∧∀ W',Upd l W W'→match pend with
 | none=>K .normal e ds W'
 | some .ret=>K .ret e ds W'
 | some (.exit id)=>K (.exit id) e ds W'
 | _=>False
def zFA (r:Nat):Deferred:={ target:=.collected r,args:=#[] }
def zJ9 (pend:Option Code) (a:CAct) (W:CW):zK0:=match pend with
 | none=>some [(.normal,a,W)]
 | some .ret=>some [(.ret,a,W)]
 | some (.exit id)=>some [(.exit id,a,W)]
 | _=>none
theorem zO2 {ro:Option Nat} {fn:FuncId} {nt:Nat} {f:Operand} {ps:Array Tmp} {A B:Code} {e:Env} {ds:List Deferred} {W W1:CW} {K:zAI} {dl:Nat} {mk:List Deferred} {g:FuncId} {args:List Value} (har:zMP ro W=some (dl,mk,W1))
  (hf:zFN (e.ev f) [.func (.yield W1.sz) #[] #[]]=some (.enter g args))
  (h:∀ W2,Upd W1.sz (W1.new .deferred) W2→LoopAt W2 W1.sz .ready none fn e nt ps A B dl→WCall P L g args W2 (zRt W1.sz e (mk++ds) K)):zCg P L ro fn nt (.rangeFunc f ps A B) e ds W K:=by
 intro a ha hn; have h0:W1.new (.loop .ready none fn a.t a.nt ps A B dl)=(W1.new .deferred).upd W1.sz (.loop .ready none fn a.t a.nt ps A B dl)∨True:=.inr trivial; have hu:Upd W1.sz (W1.new .deferred) (W1.new (.loop .ready none fn a.t a.nt ps A B dl)):=⟨rfl,fun i hi=>by rw [zAp,zAp,if_neg hi,if_neg hi]⟩
 have hl:LoopAt (W1.new (.loop .ready none fn a.t a.nt ps A B dl)) W1.sz .ready none fn e nt ps A B dl:=⟨a.t,by rw [zAp,if_pos rfl,hn],fun t=>(zNe a t).symm.trans (ha.1 t)⟩
 obtain ⟨n,⟨en,W3⟩,h1,⟨v,hv⟩,st,pend,fn',e0,nt',ps',A',B',d',⟨T,ho,hT⟩,hst,hk⟩:=h _ hu hl; simp only at hv; subst hv; have hput:AE ({ a with defers:=mk++a.defers }:CAct) e (mk++ds):=⟨ha.1,by rw [ha.2]⟩
 have key:∀ {o:Exit × CAct × CW},zJ9 pend { a with defers:=mk++a.defers } (W3.upd W1.sz (.loop .exhausted pend fn' T nt' ps' A' B' d'))=some [o]→(evC P L (n+1)).code ro fn (.rangeFunc f ps A B) a W=some [o]:=by
  intro o hx; rw [zC6]; show zAv P (evC P L n) ro fn (.rangeFunc f ps A B) a W=some [o]; unfold zAv; simp only [har,ha.eval,hf]; rw [h1]; refine zAi _ _ ?_; simp only [ho]; rw [←hx]
  cases st <;> first | exact (hst rfl).elim | (cases pend with | none=>rfl | some c=>cases c <;> rfl)
 have hk:=hk _ (Upd.of W3 W1.sz (.loop .exhausted pend fn' T nt' ps' A' B' d'))
 have fin:∀ x:Exit,zJ9 pend { a with defers:=mk++a.defers } (W3.upd W1.sz (.loop .exhausted pend fn' T nt' ps' A' B' d'))=some [(x,({ a with defers:=mk++a.defers }:CAct),W3.upd W1.sz (.loop .exhausted pend fn' T nt' ps' A' B' d'))]→K x e (mk++ds) (W3.upd W1.sz (.loop .exhausted pend fn' T nt' ps' A' B' d'))→zUq P L ro fn (.rangeFunc f ps A B) a W fun x a' W'=>∃ e',AE a' e' a'.defers∧a'.nt=nt∧K x e' a'.defers W':=by
  intro x hx hK
  refine ⟨n+1,_,key hx,e,?_,hn,?_⟩
  ·exact ⟨ha.1,rfl⟩
  ·show K x e (mk++a.defers) _; rw [ha.2]; exact hK
 cases pend with
 | none=>exact fin .normal rfl hk
 | some c =>
  cases c <;> first | exact hk.elim | exact fin _ rfl hk
def zRs (l:Nat) (e:Env) (ds:List Deferred) (K:zAI):Ending→CW→Prop
 | .panicked ch,W=>K (.panic ch) e ds W
 | en,W=>zRt l e ds K en W
theorem zMq {ro:Option Nat} {fn:FuncId} {nt:Nat} {f:Operand} {ps:Array Tmp} {A B:Code} {e:Env} {ds:List Deferred} {W W1:CW} {K:zAI} {dl:Nat} {mk:List Deferred} {g:FuncId} {args:List Value} (har:zMP ro W=some (dl,mk,W1))
  (hf:zFN (e.ev f) [.func (.yield W1.sz) #[] #[]]=some (.enter g args))
  (h:∀ W2,Upd W1.sz (W1.new .deferred) W2→LoopAt W2 W1.sz .ready none fn e nt ps A B dl→WCall P L g args W2 (zRs W1.sz e (mk++ds) K)):zCg P L ro fn nt (.rangeFunc f ps A B) e ds W K:=by
 ·intro a ha hn; have hu:Upd W1.sz (W1.new .deferred) (W1.new (.loop .ready none fn a.t a.nt ps A B dl)):=⟨rfl,fun i hi=>by rw [zAp,zAp,if_neg hi,if_neg hi]⟩
  have hl:LoopAt (W1.new (.loop .ready none fn a.t a.nt ps A B dl)) W1.sz .ready none fn e nt ps A B dl:=⟨a.t,by rw [zAp,if_pos rfl,hn],fun t=>(zNe a t).symm.trans (ha.1 t)⟩
  obtain ⟨n,⟨en,W3⟩,h1,hpost⟩:=h _ hu hl
  cases en with
  | panicked ch =>
   refine ⟨n+1,(.panic ch,{ a with defers:=mk++a.defers },W3),?_,e,⟨ha.1,rfl⟩,hn,?_⟩
   ·rw [zC6]; show zAv P (evC P L n) ro fn (.rangeFunc f ps A B) a W=_; unfold zAv; simp only [har,ha.eval,hf]; rw [h1]; exact zAi _ _ rfl
   ·show K (.panic ch) e (mk++a.defers) W3; rw [ha.2]; exact hpost
  | returned v =>
   obtain ⟨_,st,pend,fn',e0,nt',ps',A',B',d',⟨T,ho,hT⟩,hst,hk⟩:=hpost; have hk:=hk _ (Upd.of W3 W1.sz (.loop .exhausted pend fn' T nt' ps' A' B' d'))
   have key:∀ {o:Exit × CAct × CW},zJ9 pend { a with defers:=mk++a.defers } (W3.upd W1.sz (.loop .exhausted pend fn' T nt' ps' A' B' d'))=some [o]→(evC P L (n+1)).code ro fn (.rangeFunc f ps A B) a W=some [o]:=by
    intro o hx; rw [zC6]; show zAv P (evC P L n) ro fn (.rangeFunc f ps A B) a W=some [o]; unfold zAv; simp only [har,ha.eval,hf]; rw [h1]; refine zAi _ _ ?_; simp only [ho]; rw [←hx]
    cases st <;> first | exact (hst rfl).elim | (cases pend with | none=>rfl | some c=>cases c <;> rfl)
   have fin:∀ x:Exit,zJ9 pend { a with defers:=mk++a.defers } (W3.upd W1.sz (.loop .exhausted pend fn' T nt' ps' A' B' d'))=some [(x,({ a with defers:=mk++a.defers }:CAct),W3.upd W1.sz (.loop .exhausted pend fn' T nt' ps' A' B' d'))]→K x e (mk++ds) (W3.upd W1.sz (.loop .exhausted pend fn' T nt' ps' A' B' d'))→zUq P L ro fn (.rangeFunc f ps A B) a W fun x a' W'=>∃ e',AE a' e' a'.defers∧a'.nt=nt∧K x e' a'.defers W':=by
    intro x hx hK; refine ⟨n+1,_,key hx,e,⟨ha.1,rfl⟩,hn,?_⟩; show K x e (mk++a.defers) _; rw [ha.2]; exact hK
   cases pend with
   | none=>exact fin .normal rfl hk
   | some c=>cases c <;> first | exact hk.elim | exact fin _ rfl hk
  | outgrown=>obtain ⟨⟨v,hv⟩,_⟩:=hpost; cases hv
theorem zR3 {fn:FuncId} {nt:Nat} {f:Operand} {ps:Array Tmp} {A B:Code} {e:Env} {ds:List Deferred} {W:CW} {K:zAI} {g:FuncId} {args:List Value} (ht:Top W)
  (hf:zFN (e.ev f) [.func (.yield (W.sz+1)) #[] #[]]=some (.enter g args))
  (h:∀ W2,Kp W W2→Top W2→W2.sz=W.sz+2→W2.obj W.sz=some .deferred→LoopAt W2 (W.sz+1) .ready none fn e nt ps A B W.sz→WCall P L g args W2 (zRs (W.sz+1) e (zFA W.sz::ds) K)):zCg P L none fn nt (.rangeFunc f ps A B) e ds W K:=by
 refine zMq (dl:=W.sz) (mk:=[zFA W.sz]) (W1:=W.new .deferred) rfl hf fun W2 hu hl=>?_; have k1:Kp W (W.new .deferred):=.new _; have k2:Kp W ((W.new .deferred).new .deferred):=k1.trans (.new _); have t2:Top ((W.new .deferred).new .deferred):=(ht.new _).new _; refine h W2 (k2.upd (by rw [zDG]; omega) hu) (t2.upd (by simp only [zDG]; omega) hu) (by rw [hu.sz]; rfl) ?_ hl; rw [hu.obj _ (by rw [zDG]; omega),zAp,if_neg (by rw [zDG]; omega),zAp,if_pos rfl]
theorem zT1 {fn:FuncId} {nt:Nat} {f:Operand} {ps:Array Tmp} {A B:Code} {e:Env} {ds:List Deferred} {W:CW} {K:zAI} {g:FuncId} {args:List Value} (ht:Top W)
  (hf:zFN (e.ev f) [.func (.yield (W.sz+1)) #[] #[]]=some (.enter g args))
  (h:∀ W2,Kp W W2→Top W2→W2.sz=W.sz+2→W2.obj W.sz=some .deferred→LoopAt W2 (W.sz+1) .ready none fn e nt ps A B W.sz→WCall P L g args W2 (zRt (W.sz+1) e (zFA W.sz::ds) K)):zCg P L none fn nt (.rangeFunc f ps A B) e ds W K:=by
 refine zO2 (dl:=W.sz) (mk:=[zFA W.sz]) (W1:=W.new .deferred) rfl hf fun W2 hu hl=>?_; have k1:Kp W (W.new .deferred):=.new _; have k2:Kp W ((W.new .deferred).new .deferred):=k1.trans (.new _); have t2:Top ((W.new .deferred).new .deferred):=(ht.new _).new _; refine h W2 (k2.upd (by rw [zDG]; omega) hu) (t2.upd (by simp only [zDG]; omega) hu) (by rw [hu.sz]; rfl) ?_ hl; rw [hu.obj _ (by rw [zDG]; omega),zAp,if_neg (by rw [zDG]; omega),zAp,if_pos rfl]
end
end Go.Ce
namespace Go.Ce
section
variable {κ:Type} [DecidableEq κ]
def look (m:List (κ × Value)) (s:κ) (i:Nat):Option (Nat × Value):=match m with
 | []=>none
 | p::m=>if s=p.1 then some (i,p.2) else look m s (i+1)
def zKD (m:List (κ × Value)) (s:κ):Option Value:=match m with
 | []=>none
 | p::m=>if s=p.1 then some p.2 else zKD m s
def zSm (m:List (κ × Value)) (s:κ) (x:Value):List (κ × Value):=match m with
 | []=>[(s,x)]
 | p::m=>if s=p.1 then (s,x)::m else p::zSm m s x
theorem zDr:∀ (m:List (κ × Value)) (s:κ) (x:Value) (u:κ),zKD (zSm m s x) u=if u=s then some x else zKD m u
 | [],s,x,u=>by simp [zSm,zKD]
 | p::m,s,x,u=>by
  simp only [zSm]
  by_cases h:s=p.1
  ·rw [if_pos h]; simp only [zKD]
   by_cases hu:u=s
   ·rw [if_pos hu,if_pos hu]
   ·rw [if_neg hu,if_neg hu,if_neg (by rw [←h]; exact hu)]
  ·rw [if_neg h]; simp only [zKD]
   by_cases hu:u=p.1
   ·rw [if_pos hu,if_pos hu,if_neg (fun e=>h (by rw [←e]; exact hu))]
   ·rw [if_neg hu,if_neg hu,zDr m s x u]
theorem zN2:∀ (m:List (κ × Value)) (s:κ) (i:Nat),(look m s i).map (·.2)=zKD m s
 | [],s,i=>rfl
 | p::m,s,i=>by
  simp only [look,zKD]
  by_cases h:s=p.1
  ·rw [if_pos h,if_pos h]; rfl
  ·rw [if_neg h,if_neg h]; exact zN2 m s (i+1)
def MapAt (enc:κ→Value) (W:CW) (r:Nat) (m:List (κ × Value)):Prop:=∃ es clk,W.obj r=some (.map es clk)∧es.map (fun e=>(e.key,e.val))=m.map fun p=>(enc p.1,p.2)
theorem MapAt.congr {enc:κ→Value} {W W':CW} {r:Nat} {m:List (κ × Value)} (h:MapAt enc W r m) (ho:W'.obj r=W.obj r):MapAt enc W' r m:=by
 obtain ⟨es,clk,h1,h2⟩:=h; exact ⟨es,clk,ho.trans h1,h2⟩
theorem MapAt.lt {enc:κ→Value} {W:CW} (ht:Top W) {r:Nat} {m:List (κ × Value)} (h:MapAt enc W r m):r<W.sz:=by
 obtain ⟨es,clk,h1,h2⟩:=h; exact ht _ _ h1
theorem MapAt.kp {enc:κ→Value} {W W':CW} {r:Nat} {m:List (κ × Value)} (h:MapAt enc W r m) (ht:Top W) (k:Kp W W'):MapAt enc W' r m:=h.congr (k.obj r (h.lt ht))
variable {enc:κ→Value} {d:TypeDesc}
theorem zKK (hk:∀ a b,zIw d (enc a) (enc b)=some (decide (a=b))) (s:κ):∀ (es:List MapEntry) (m:List (κ × Value)) (i:Nat),es.map (fun e=>(e.key,e.val))=m.map (fun p=>(enc p.1,p.2))→zFK d (enc s) es i=some (look m s i)
 | [],[],i,_=>rfl
 | e::es,p::m,i,h=>by
  simp only [List.map_cons,List.cons.injEq,Prod.mk.injEq] at h; obtain ⟨⟨h1,h2⟩,h3⟩:=h; simp only [zFK,look]; rw [h1,hk]
  by_cases hs:s=p.1
  ·rw [if_pos hs,decide_eq_true hs]; simp only [h2]
  ·rw [if_neg hs,decide_eq_false hs]; exact zKK hk s es m (i+1) h3
 | [],_::_,_,h=>by cases h
 | _::_,[],_,h=>by cases h
theorem zQc (hk:∀ a b,zIw d (enc a) (enc b)=some (decide (a=b))) (s:κ) (x:Value):∀ (es:List MapEntry) (m:List (κ × Value)) (i j:Nat) (y:Value),es.map (fun e=>(e.key,e.val))=m.map (fun p=>(enc p.1,p.2))→look m s i=some (j,y) →
  (modAt x (enc s) (j-i) es).map (fun e=>(e.key,e.val))=(zSm m s x).map (fun p=>(enc p.1,p.2))∧i≤j
 | [],[],i,j,y,_,hl=>by cases hl
 | e::es,p::m,i,j,y,h,hl=>by
  simp only [List.map_cons,List.cons.injEq,Prod.mk.injEq] at h; obtain ⟨⟨h1,h2⟩,h3⟩:=h; simp only [look] at hl; simp only [zSm]
  by_cases hs:s=p.1
  ·rw [if_pos hs] at hl; rw [if_pos hs]
   cases hl
   refine ⟨?_,Nat.le_refl _⟩; rw [Nat.sub_self]; simp only [modAt,List.map_cons,h3]
  ·rw [if_neg hs] at hl; rw [if_neg hs]; obtain ⟨h4,h5⟩:=zQc hk s x es m (i+1) j y h3 hl; refine ⟨?_,by omega⟩; rw [show j-i=(j-(i+1))+1 by omega]; simp only [modAt,List.map_cons,h4,h1,h2]
 | [],_::_,_,_,_,h,_=>by cases h
 | _::_,[],_,_,_,h,_=>by cases h
theorem zF5 (s:κ) (x:Value):∀ (m:List (κ × Value)) (i:Nat),look m s i=none→zSm m s x=m++[(s,x)]
 | [],i,_=>rfl
 | p::m,i,h=>by
  simp only [look] at h; simp only [zSm]
  by_cases hs:s=p.1
  ·rw [if_pos hs] at h; cases h
  ·rw [if_neg hs] at h ⊢; rw [zF5 s x m _ h]; rfl
variable {P:Program} {t kt el:TypeId} {z:Value}
theorem zF6 (u:P.underlying t=some (.map kt el)) (uk:P.underlying kt=some d) (hd:zDn d=true) (hz:zer P el=some z) (hk:∀ a b,zIw d (enc a) (enc b)=some (decide (a=b))) {W:CW} {r:Nat} {m:List (κ × Value)} (h:MapAt enc W r m) (s:κ) (ok:Bool) :
  lkp P t (.map (some r)) (enc s) ok W=some (match zKD m s with
   | some x=>cond ok (.tuple #[x,.bool true]) x
   | none=>cond ok (.tuple #[z,.bool false]) z):=by
 obtain ⟨es,clk,h1,h2⟩:=h; unfold lkp zI1; simp only [u,uk,hd,hz,h1,zCc,cond_true]; rw [zKK hk s es m 0 h2]; simp only; have:=zN2 m s 0
 cases hl:look m s 0 with
 | none=>rw [hl] at this; rw [←this]; rfl
 | some p=>rw [hl] at this; obtain ⟨i,x⟩:=p; rw [←this]; rfl
theorem zPs (u:P.underlying t=some (.map kt el)) (uk:P.underlying kt=some d) (hd:zDn d=true) (hk:∀ a b,zIw d (enc a) (enc b)=some (decide (a=b))) {W:CW} {r:Nat} {m:List (κ × Value)} (h:MapAt enc W r m) {s:κ} {x:Value} {K:CW→Prop}
  (hK:∀ W1,Upd r W W1→MapAt enc W1 r (zSm m s x)→K W1):wV (mup P t (.map (some r)) (enc s) x W) K:=by
 obtain ⟨es,clk,h1,h2⟩:=h; have hf:=zKK hk s es m 0 h2
 cases hl:look m s 0 with
 | none =>
  rw [hl] at hf
  refine zAu (v:=W.upd r (.map (es++[{ key:=enc s,val:=x,born:=clk }]) (clk+1))) ?_ (hK _ (Upd.of _ _ _) ⟨_,_,by rw [zCv,if_pos rfl],?_⟩)
  ·unfold mup zI1; simp only [u,uk,hd,h1,zCc,cond_true,hf]
  ·rw [zF5 s x m 0 hl,List.map_append,List.map_append,h2]; rfl
 | some p =>
  obtain ⟨j,y⟩:=p; rw [hl] at hf; obtain ⟨h3,_⟩:=zQc hk s x es m 0 j y h2 hl; rw [Nat.sub_zero] at h3; refine zAu (v:=W.upd r (.map (modAt x (enc s) j es) clk)) ?_ (hK _ (Upd.of _ _ _) ⟨_,_,by rw [zCv,if_pos rfl],h3⟩); unfold mup zI1; simp only [u,uk,hd,h1,zCc,cond_true,hf]
theorem zMX {W:CW} {K:Value→CW→Prop} (ht:Top W) (hk:∀ W1,Kp W W1→Top W1→W1.sz=W.sz+1→MapAt enc W1 W.sz []→K (.map (some W.sz)) W1):wVW (mkm W) K :=
 hk _ (.new _) (ht.new _) rfl ⟨[],0,by rw [zAp,if_pos rfl],rfl⟩
end
theorem zCx (a b:ByteArray):zIw .string (.string a) (.string b)=some (decide (a=b)):=by
 simp only [zIw,zG7]
section
variable {P:Program}
theorem zGD {W:CW} {a:Addr} {cs:List Value} (h:Cells W a.block a.off cs):zC1 (some a) cs.length W=some cs:=by
 unfold zC1; simp only [cond_eq_ite]
 cases cs with
 | nil=>rfl
 | cons c cs =>
  rw [if_neg (by simp)]; have hlast:∃ v,(c::cs)[cs.length]?=some v:=⟨(c::cs)[cs.length]'(by simp),List.getElem?_eq_getElem _⟩
  obtain ⟨v,hv⟩:=hlast; have hcl:=h _ v hv; unfold CW.cell at hcl
  split at hcl
  ·rename_i t n z e ho
   split at hcl
   ·rename_i hlt; rw [ho]; simp only [List.length_cons]; rw [if_pos (Nat.ble_eq_true_of_le (by omega))]
    have:=zDY (c:=t) (z:=z) (vs:=c::cs) (k:=a.off) fun j w hj=>by
     have:=h j w hj; unfold CW.cell at this; rw [ho] at this; simp only at this
     split at this
     ·exact Option.some.inj this
     ·cases this
    rw [←this]; simp
   ·cases hcl
  ·rename_i f n e ho
   split at hcl
   ·rename_i hlt; rw [ho]; simp only [List.length_cons]; rw [if_pos (Nat.ble_eq_true_of_le (by omega))]
    have:=zGn (f:=f) (vs:=c::cs) (k:=a.off) fun j w hj=>by
     have:=h j w hj; unfold CW.cell at this; rw [ho] at this; simp only at this
     split at this
     ·exact Option.some.inj this
     ·cases this
    rw [←this]; simp
   ·cases hcl
  ·cases hcl
inductive Own (W:CW) (el:TypeId) (n:Nat):Value→List Value→Prop where
 | nil:Own W el n (.slice none 0 0) []
 | some {b len:Nat} {cs:List Value} (h:Blk W b el cs) (hl:cs.length=len*n):Own W el n (.slice (some ⟨b,0,none⟩) len len) cs
structure Grew (v:Value) (W W':CW):Prop where
 sz:W'.sz=W.sz+1
 top:Top W→Top W'
 obj:∀ i,i<W.sz→(∀ b l c,v=.slice (some b) l c→i≠b.block)→W'.obj i=W.obj i
theorem zR6 {t u el:TypeId} {ts:List TypeId} {n bytes:Nat} {z:Value} (ut:P.underlying t=some (.slice el)) (hu:zEg P u=true) (hs:siz P el=some n) (hz:zer P el=some z) (hzn:z.cells.size=n) (hn:0<n) (hby:(P.info? el).map (·.bytes)=some bytes) (hb:bytes≤1024)
  {W:CW} (ht:Top W) {v x:Value} {cs news:List Value} {m:Nat} (hv:Own W el n v cs) (hx:zT9 x=some m) (hm:0<m) (hsrc:zDX x m n W=some news) (h1:news.all zAg=true) (hnl:news.length=m*n) (hlim:cs.length+m≤1000000) {K:Value→CW→Prop}
  (hk:∀ W1 len,Grew v W W1→(cs++news).length=len*n→Blk W1 W.sz el (cs++news)→K (.slice (some ⟨W.sz,0,none⟩) len len) W1):wVW (app P (t::u::ts) v x W) K:=by
 have hble:Nat.ble ((P.info? el).map (·.bytes) |>.getD 2000) 1024=true:=by rw [hby]; exact Nat.ble_eq_true_of_le hb
 unfold app; simp only [hu,cond_true]
 cases hv with
 | nil =>
  have hc:zDQ P t (.slice none 0 0) x W=some (.slice (some ⟨W.sz,0,none⟩) (0+m) (0+m),W.new (.cells (Tr.nil.putFrom 0 news) ((0+m)*n) #[] el)):=by
   unfold zDQ; simp only [ut,hx,zCc,hs,hz,hsrc,h1,hnl,Nat.beq_refl,hzn,hble,Bool.true_and,Bool.and_true]; rw [show Nat.blt 0 n=true from Nat.ble_eq_true_of_le hn,show Nat.ble (0+m) 1000000=true from Nat.ble_eq_true_of_le (by simp only [List.length_nil] at hlim; omega)]; simp only [Bool.and_self,cond_true]; rw [show Nat.ble (0+m) 0=false from by cases h:Nat.ble (0+m) 0 with | false=>rfl | true=>have:=Nat.le_of_ble_eq_true h; omega]; simp only [cond_false,Nat.beq_refl,cond_true]
  refine zDV hc (hk _ _ ⟨rfl,fun ht=>ht.new _,fun i hi _=>by rw [zAp,if_neg (by omega)]⟩ (by rw [List.nil_append,hnl]; congr 1; omega) ⟨_,_,_,by rw [zAp,if_pos rfl],by rw [List.nil_append,hnl]; congr 1; omega,fun k w hw=>?_⟩); rw [List.nil_append] at hw; rw [zBL _ _ _ (List.getElem?_eq_some_iff.1 hw).1,List.getD_eq_getElem?_getD,hw]; rfl
 | @some b len cs hB hl =>
  obtain ⟨c,k,zz,ho,hck,hcell⟩:=hB; have hlen:len≤cs.length:=by rw [hl]; exact Nat.le_mul_of_pos_right _ hn
  have hrd:zAh c zz (len*n) 0=cs:=by
   rw [←hl]; exact zDY fun j w hj=>by rw [Nat.zero_add]; exact hcell j w hj
  have hc:zDQ P t (.slice (some ⟨b,0,none⟩) len len) x W=some (.slice (some ⟨W.sz,0,none⟩) (len+m) (len+m),(W.upd b .dead).new (.cells (Tr.nil.putFrom 0 (cs++news)) ((len+m)*n) #[] el)):=by
   unfold zDQ; simp only [ut,hx,zCc,hs,hz,hsrc,h1,hnl,Nat.beq_refl,hzn,hble,Bool.true_and,Bool.and_true]; rw [show Nat.blt 0 n=true from Nat.ble_eq_true_of_le hn,show Nat.ble (len+m) 1000000=true from Nat.ble_eq_true_of_le (by omega)]; simp only [Bool.and_self,cond_true]; rw [show Nat.ble (len+m) len=false from by cases h:Nat.ble (len+m) len with | false=>rfl | true=>have:=Nat.le_of_ble_eq_true h; omega]; simp only [cond_false,Option.isSome_none,ho,Nat.beq_refl,Bool.and_true,Nat.zero_add,hrd]; rw [show Nat.ble (len*n) k=true from Nat.ble_eq_true_of_le (by omega)]; simp only [cond_true]
  refine zDV hc (hk _ _ ⟨rfl,fun ht=>Top.new (ht.upd (ht _ _ ho) (Upd.of _ _ _)) _,fun i hi hne=>by
    have:=hne ⟨b,0,none⟩ len len rfl
    rw [zAp,if_neg (by rw [zTb]; omega),zCv,if_neg this]⟩ (by rw [List.length_append,hl,hnl,←Nat.add_mul]) ⟨_,_,_,by rw [zAp,if_pos (by rw [zTb])],by rw [List.length_append,hl,hnl,←Nat.add_mul],fun k w hw=>?_⟩)
  rw [zBL _ _ _ (List.getElem?_eq_some_iff.1 hw).1,List.getD_eq_getElem?_getD,hw]; rfl
end
end Go.Ce
namespace Go.Ce
open Go Go.Proofs Go.Proofs.Tryz
def Ret (v:Value) (W:CW):Ending→CW→Prop:=fun e W'=>e=.returned v∧Kp W W'∧Top W'
theorem zMW {P:Program} {L:List FuncId} {f:FuncId} {args:List Value} {W:CW} {K:Value→CW→Prop} {KP:List PanicEntry→CW→Prop} {v:Value} (h:WCall P L f args W (Ret v W)) (hk:∀ W1,Kp W W1→Top W1→K v W1):WCall P L f args W (zAK K KP) :=
 h.mono fun e W' ⟨he,h1,h2⟩=>by subst he; exact hk W' h1 h2
def RByte (W:CW) (b o:Nat) (x:UInt8):Prop:=W.cell b o=some (.int .u8 x.toNat)
def zG6 (x:UInt8):Bool:=decide ((x.toNat:Int)<33) || decide ((x.toNat:Int)>126)
def zIp {α:Type} (l:List α) (p:α→Bool):Int:=match l.findIdx? p with
 | some i=>i
 | none=>-1
theorem zEn {α:Type} {l:List α} {p:α→Bool} {i:Nat} (h:i<l.length) (hp:p l[i]=true) (hpre:∀ j x,j<i→l[j]?=some x→p x=false):zIp l p=i:=by
 have:l.findIdx? p=some i:=by
  rw [List.findIdx?_eq_some_iff_getElem]; exact ⟨h,hp,fun j hj=>by rw [hpre j l[j] hj (List.getElem?_eq_getElem _)]; simp⟩
 simp [zIp,this]
theorem zEo {α:Type} {l:List α} {p:α→Bool} (hpre:∀ (j:Nat) x,j<l.length→l[j]?=some x→p x=false):zIp l p=-1:=by
 have:l.findIdx? p=none:=by
  rw [List.findIdx?_eq_none_iff]; intro x hx; obtain ⟨j,hj,rfl⟩:=List.mem_iff_getElem.1 hx; exact hpre j l[j] hj (List.getElem?_eq_getElem _)
 simp [zIp,this]
theorem zM3 {v:Value} {l:List UInt8} {W:CW} (hl:IsSl 1 (RByte W) v l) (hlen:l.length<1000000):WCall prog pkL 140 [v,.func (.func 124) #[] #[]] W (zI3 (.int .i64 (zIp l zG6)) W):=by
 refine zVk ?_; rw [zVl]; obtain ⟨a,cap,rfl,hcell⟩:=hl; rw [zAT u29]; simp only [zAA]; refine zPt (fun k e ds W'=>W'=W∧ds=[]∧∃ i:Nat,e 0=.slice a l.length cap∧e 1=.func (.func 124) #[] #[]∧e 7=.int .i64 l.length∧e 8=.int .i64 i∧i≤l.length∧k=l.length-i∧∀ j x,j<i→l[j]?=some x→zG6 x=false) l.length ⟨rfl,rfl,0,rfl,rfl,rfl,rfl,by omega,by omega,by omega⟩ ?_; rintro k e ds W' ⟨rfl,rfl,i,h0,h1,h7,h8,hi,rfl,hpre⟩; rw [zUb,h0,h1,h7,h8]; simp only [zAA,zAZ]
 refine zAH (fun h=>?_) (fun h=>?_)
 ·have hlt:i<l.length:=by simpa using h
  have hx:=List.getElem?_eq_getElem hlt; obtain ⟨p,rfl,hp⟩:=hcell i _ hx; rw [zAb u29 s5 hlt]; simp only [zAA,zAB a5 (a:=⟨p.block,p.off+i*1,none⟩) hp]; refine zDd Tryz.func124 (by kernel_rfl) (zB2 (zLb _ _) ?_)
  refine zAH (fun hq=>?_) (fun hq=>?_)
  ·simp only [zIU,qKr,tKr,bKr,zNO,zJc,eKc,↓reduceIte]; refine ⟨?_,rfl⟩; rw [zEn hlt hq hpre]
  ·simp only [zIU,qKn,eKc,eKn,Nat.reduceEqDiff,↓reduceIte,h0,h1,h7,h8,zAW,zAA,tKn]
   refine ⟨l.length-(i+1),by omega,trivial,trivial,i+1,trivial,trivial,trivial,?_,hlt,rfl,fun j x hj hx'=>?_⟩
   ·rw [zBU (by omega) (by omega)]; rfl
   ·rcases Nat.lt_succ_iff_lt_or_eq.1 hj with h2 | rfl
    ·exact hpre j x h2 hx'
    ·rw [hx] at hx'; cases hx'; exact hq
 ·have hge:i=l.length:=by have:¬i<l.length:=(by simpa using h); omega
  simp only [tKx,bKx,if_true,zNO,qKn,zJc,eKc,↓reduceIte]; refine ⟨?_,rfl⟩; rw [zEo fun j x hj hx=>hpre j x (by omega) hx]
theorem zIz {v:Value} {l:List UInt8} {W:CW} (hl:IsSl 1 (RByte W) v l) (hlen:l.length<1000000):WCall prog pkL 123 [v,.func (.func 124) #[] #[]] W (zI3 (.bool (l.any zG6)) W):=by
 refine zVu ?_; rw [zVv]; refine zB2 (zM3 hl hlen) ?_; simp only [zEJ,zAA,zPO,eKc,↓reduceIte]; refine ⟨?_,rfl⟩; congr 2
 cases h:l.any zG6 with
 | true =>
  obtain ⟨x,hx,hb⟩:=List.any_eq_true.1 h; unfold zIp
  cases h2:l.findIdx? zG6 with
  | none=>rw [List.findIdx?_eq_none_iff] at h2; rw [h2 x hx] at hb; cases hb
  | some i=>simp
 | false =>
  rw [zEo fun j x hj hx=>by
   have:=List.any_eq_false.1 h x (List.mem_of_getElem? hx)
   simpa using this]
  rfl
def zDh (s:ByteArray):Bool:=(decide ((1:Int)≤s.size) && decide ((s.size:Int)≤60)) && !(sb s).any zG6
theorem zWr {s:ByteArray} {W:CW} (ht:Top W) {K:Value→CW→Prop} (hk:∀ v W1,Kp W W1→Top W1→IsSl 1 (RByte W1) v (sb s)→K v W1):wVW (cvs prog 9 29 (.string s) W) K:=by
 have hc:cvs prog 9 29 (.string s) W=some (.slice (some ⟨W.sz,0,none⟩) s.size s.size,W.new (.cells (Tr.nil.putFrom 0 (zBM (sb s))) s.size #[] 5)):=by kernel_rfl
 have hsz:(sb s).length=s.size:=by cases s; exact Array.length_toList
 refine zDV hc (hk _ _ (.new _) (ht.new _) ⟨some ⟨W.sz,0,none⟩,s.size,by rw [hsz],fun i x hx=>⟨_,rfl,?_⟩⟩); have hlt:=(List.getElem?_eq_some_iff.1 hx).1; unfold RByte CW.cell; rw [zAp,if_pos rfl]; simp only [Nat.zero_add,Nat.mul_one]; rw [if_pos (by omega),zBL _ _ _ (by simp [zBM]; exact hlt)]; simp [zBM,List.getD_eq_getElem?_getD,hx]
theorem zFh {s:ByteArray} {W:CW} (ht:Top W) (hlen:s.size<1000000):WCall prog pkL 101 [.string s] W (Ret (.bool (zDh s)) W):=by
 have hsz:(sb s).length=s.size:=by cases s; exact Array.length_toList
 refine zWI ?_; rw [zWJ,zFJ u9]; simp only [zAA]; refine zB2 (zQr _ _ _ _) ?_
 refine zAH (fun h=>?_) (fun h=>?_)
 ·refine zWr ht fun v W1 k1 t1 hv=>?_; refine zB2 (zIz hv (by omega)) ?_; simp only [zAR,zAA,zGy,qKn,zJl,eKc,↓reduceIte]; refine ⟨?_,k1,t1⟩; simp only [zDh,h,Bool.true_and]
 ·simp only [zGy,qKn,zJl,eKc,↓reduceIte]; refine ⟨?_,.refl _,ht⟩; simp only [zDh,h,Bool.false_and]
end Go.Ce
namespace Go.Ce
open Go Go.Proofs Go.Proofs.Tryz
theorem zFx (s:ByteArray):(sb s).length=s.size:=by cases s; exact Array.length_toList
end Go.Ce
namespace Go.Ce
section
variable {P:Program}
def Newer (A:Nat) (v:Value):Prop:=∀ b l c,v=.slice (some b) l c→A≤b.block
theorem Newer.nil (A l c:Nat):Newer A (.slice none l c):=fun b l c h=>by cases h
structure Pushed (v:Value) (W W':CW):Prop where
 sz:W.sz≤W'.sz
 obj:∀ i,i<W.sz→(∀ b l c,v=.slice (some b) l c→i≠b.block)→W'.obj i=W.obj i
theorem Pushed.kp {v:Value} {A W W':CW} (h:Pushed v W W') (k:Kp A W) (hv:Newer A.sz v):Kp A W' :=
 ⟨by have:=h.sz; have:=k.sz; omega,fun i hi=>by
  rw [h.obj i (by have:=k.sz; omega) (fun b l c e=>by have:=hv b l c e; omega)]
  exact k.obj i hi⟩
theorem zTZ {t el:TypeId} {ts:List TypeId} {n bytes:Nat} {z x:Value} {xs:List Value} (ut:P.underlying t=some (.slice el)) (hs:siz P el=some n) (hz:zer P el=some z) (hzn:z.cells.size=n) (hn:0<n) (hby:(P.info? el).map (·.bytes)=some bytes) (hb:bytes≤1024)
  (hbsl:∀ W,bsl P t 1 [(0,x)] W=some (.slice (some ⟨W.sz,0,none⟩) 1 1,W.new (.cells (Tr.nil.putFrom 0 xs) xs.length #[] el))) (hxs:xs.length=n) (hx1:xs.all zAg=true)
  {W:CW} (ht:Top W) {v:Value} {cs:List Value} (hv:Own W el n v cs) (hlim:cs.length<900000) {K:Value→Value→CW→Prop}
  (hk:∀ u v1 W1,Pushed v W W1→Top W1→Own W1 el n v1 (cs++xs)→(∀ A,A≤W.sz→Newer A v1)→K u v1 W1):wVW (bsl P t 1 [(0,x)] W) fun u W1=>wVW (app P (t::t::ts) v u W1) fun v1 W2=>K u v1 W2:=by
 refine zDV (hbsl W) ?_; have hkp:Kp W (W.new (.cells (Tr.nil.putFrom 0 xs) xs.length #[] el)):=.new _
 have hB:Blk (W.new (.cells (Tr.nil.putFrom 0 xs) xs.length #[] el)) W.sz el xs:=⟨_,_,_,by rw [zAp,if_pos rfl],rfl,fun k w hw=>by
  rw [zBL _ _ _ (List.getElem?_eq_some_iff.1 hw).1,List.getD_eq_getElem?_getD,hw]; rfl⟩
 have hv':Own (W.new (.cells (Tr.nil.putFrom 0 xs) xs.length #[] el)) el n v cs:=by
  cases hv with
  | nil=>exact .nil
  | some h hl=>exact .some (h.ext ht hkp) hl
 have hvb:∀ b l c,v=.slice (some b) l c→b.block<W.sz:=by
  intro b l c e
  cases hv with
  | nil=>cases e
  | some h hl=>cases e; exact h.lt ht
 have hu:zEg P t=true:=by unfold zEg; rw [ut]
 refine zR6 (x:=.slice (some ⟨W.sz,0,none⟩) 1 1) (m:=1) (news:=xs) ut hu hs hz hzn hn hby hb (ht.new _) hv' rfl (by omega) ?_ hx1 (by omega) (by omega) fun W1 len hg hl hB1=>?_
 ·show zC1 (some ⟨W.sz,0,none⟩) (1*n) _=some xs; rw [Nat.one_mul,←hxs]; exact zGD hB.cells
 ·refine hk _ _ W1 ⟨by rw [hg.sz,zDG]; omega,fun i hi hne=>?_⟩ (hg.top (ht.new _)) (.some hB1 hl) (fun A hA b l c e=>by cases e; rw [zDG]; show A≤W.sz+1; omega); rw [hg.obj i (by rw [zDG]; omega) hne,zAp,if_neg (by omega)]
end
end Go.Ce
namespace Go.Ce
open Go Go.Proofs Go.Proofs.Tryz
theorem IsSl.imp {α:Type} {n:Nat} {R S:Nat→Nat→α→Prop} {v:Value} {l:List α} (h:IsSl n R v l) (hi:∀ b o x,R b o x→S b o x):IsSl n S v l:=by
 obtain ⟨a,cap,h1,h2⟩:=h; exact ⟨a,cap,h1,fun i x hx=>by obtain ⟨p,hp,hr⟩:=h2 i x hx; exact ⟨p,hp,hi _ _ _ hr⟩⟩
theorem RFld.kp {W W':CW} {b o:Nat} {x:Fld} (h:RFld W b o x) (ht:Top W) (k:Kp W W'):RFld W' b o x:=⟨k.cell ht h.name,k.cell ht h.kind,h.lo,h.hi⟩
theorem RShp.kp {W W':CW} {b o:Nat} {x:Shp} (h:RShp W b o x) (ht:Top W) (k:Kp W W'):RShp W' b o x :=
 ⟨k.cell ht h.name,k.cell ht h.super,by obtain ⟨v,h1,h2⟩:=h.fields; exact ⟨v,k.cell ht h1,h2.imp fun _ _ _ hr=>hr.kp ht k⟩,k.cell ht h.elem,by obtain ⟨a,l,n,h1⟩:=h.binds; exact ⟨a,l,n,k.cell ht h1⟩,h.lo,h.hi⟩
def zCR:ByteArray:=⟨#[]⟩
def zRz (c:List Shp) (i:Nat):Option Nat:=match c[i]? with
 | some x=>match c.findIdx? (fun y=>decide (y.name=x.super)) with
  | some j=>match c[j]? with
   | some y=>if y.elem=0 then some j else none
   | none=>none
  | none=>none
 | none=>none
def zBP (c:List Shp):Nat→Nat→Option (List Nat)
 | f,i=>match c[i]? with
  | none=>none
  | some x=>if x.super=zCR then some [i] else match f with
   | 0=>none
   | f+1=>match zRz c i with
    | some j=>(zBP c f j).map (i::·)
    | none=>none
termination_by f=>f
theorem z3:zer prog 3=some (.int .i64 0):=by kernel_rfl
theorem by3:(prog.info? 3).map (·.bytes)=some 8:=by kernel_rfl
theorem zUn (n:Int) (W:CW):bsl prog 40 1 [(0,.int .i64 n)] W=some (.slice (some ⟨W.sz,0,none⟩) 1 1,W.new (.cells (Tr.nil.putFrom 0 [.int .i64 n]) [Value.int .i64 n].length #[] 3)):=by kernel_rfl
theorem zNz {P:Program} {t el el':TypeId} (u:P.underlying t=some (.slice el')) {W W':CW} {v:Value} {cs:List Value} (h:Own W el 1 v cs):zAm P t v W'=some (.int .i64 cs.length):=by
 cases h with
 | nil=>rw [zAT u]; rfl
 | some hB hl=>rw [zAT u,hl,Nat.mul_one]
theorem zF7 {c:List Shp} {f i:Nat} {x:Shp} (hx:c[i]?=some x) (hs:x.super=zCR):zBP c f i=some [i]:=by
 unfold zBP; rw [hx]; simp only [hs,if_true]
theorem zPD {c:List Shp} {i:Nat} {x:Shp} (hx:c[i]?=some x) (hs:x.super≠zCR):zBP c 0 i=none:=by
 unfold zBP; rw [hx]; simp only [hs,if_false]
theorem zGr {c:List Shp} {f i:Nat} {x:Shp} (hx:c[i]?=some x) (hs:x.super≠zCR):zBP c (f+1) i=match zRz c i with
  | some j=>(zBP c f j).map (i::·)
  | none=>none:=by
 rw [zBP,hx]; simp only [hs,if_false]
end Go.Ce
namespace Go.Ce
section
variable {α:Type} {W:CW} {b n:Nat} {enc:α→List Value}
theorem zJU (hn:∀ x,(enc x).length=n):∀ (l:List α) (o:Nat),Cells W b o (l.flatMap enc)→∀ i x,l[i]?=some x→Cells W b (o+i*n) (enc x)
 | [],o,_=>fun i x h=>by cases h
 | y::l,o,h=>by
  intro i x hx; rw [List.flatMap_cons] at h
  cases i with
  | zero =>
   cases hx
   intro j v hj; rw [Nat.zero_mul,Nat.add_zero]; exact h j v (by rw [List.getElem?_append_left (List.getElem?_eq_some_iff.1 hj).1]; exact hj)
  | succ i =>
   have:=zJU hn l (o+n) (fun j v hj=>by
    have:=h (n+j) v (by rw [List.getElem?_append_right (by rw [hn]; omega),hn,Nat.add_sub_cancel_left]; exact hj)
    rwa [show o+(n+j)=o+n+j by omega] at this) i x (by simpa using hx)
   rwa [show o+n+i*n=o+(i+1)*n by rw [Nat.succ_mul]; omega] at this
end
section
variable {P:Program}
end
end Go.Ce
namespace Go.Ce
open Go Go.Proofs Go.Proofs.Tryz
theorem Own.kp {W W':CW} {el:TypeId} {n:Nat} {v:Value} {cs:List Value} (h:Own W el n v cs) (ht:Top W) (k:Kp W W'):Own W' el n v cs:=by
 cases h with
 | nil=>exact Own.nil
 | some hB hl=>exact Own.some (hB.ext ht k) hl
theorem zEk (c:List Shp):∀ (f i:Nat) (l:List Nat),zBP c f i=some l→l.length≤f+1∧∀ j,j ∈ l→j<c.length
 | f,i,l,h=>by
  unfold zBP at h
  cases hx:c[i]? with
  | none=>rw [hx] at h; cases h
  | some x =>
   rw [hx] at h; have hi:i<c.length:=(List.getElem?_eq_some_iff.1 hx).1; simp only at h
   split at h
   ·cases h
    exact ⟨by simp,fun j hj=>by rw [List.mem_singleton.1 hj]; exact hi⟩
   ·cases f with
    | zero=>cases h
    | succ f =>
     simp only at h
     split at h
     ·rename_i j hj
      cases hl:zBP c f j with
      | none=>rw [hl] at h; cases h
      | some m =>
       rw [hl] at h
       cases h
       obtain ⟨h1,h2⟩:=zEk c f j m hl
       exact ⟨by simp only [List.length_cons]; omega,fun j hj=>by
        rcases List.mem_cons.1 hj with rfl | hj
        ·exact hi
        ·exact h2 j hj⟩
     ·cases h
termination_by f=>f
def zJT (c:List Shp) (j:Nat):List Fld:=match c[j]? with
 | some x=>x.fields
 | none=>[]
def zCf (c:List Shp) (i:Nat):List Fld:=match zBP c c.length i with
 | some l=>l.reverse.flatMap (zJT c)
 | none=>[]
def zUx (f:Fld):List Value:=[.string f.name,.int .u8 f.kind]
theorem zOR (f:Fld):(zUx f).length=2:=rfl
theorem z72:zer prog 72=some (.agg #[.string ⟨#[]⟩,.int .u8 0]):=by kernel_rfl
theorem RFld.cells {W:CW} {b o:Nat} {x:Fld} (h:RFld W b o x):Cells W b o (zUx x):=by
 intro j v hj
 match j,hj with
 | 0,hj=>cases hj; exact h.name
 | 1,hj=>cases hj; exact h.kind
theorem zS0 {c:List Shp} {m:Nat} (hf:∀ x,x ∈ c→x.fields.length≤m) (j:Nat):(zJT c j).length≤m:=by
 unfold zJT
 cases hx:c[j]? with
 | none=>simp
 | some x=>exact hf x (List.mem_of_getElem? hx)
theorem zN9 {c:List Shp} {m:Nat} (hf:∀ x,x ∈ c→x.fields.length≤m):∀ l:List Nat,((l.flatMap (zJT c)).flatMap zUx).length≤l.length*(2*m)
 | []=>by simp
 | j::l=>by
  rw [List.flatMap_cons,List.flatMap_append,List.length_append,List.length_cons,Nat.succ_mul]; have h1:=zN9 hf l
  have h2:((zJT c j).flatMap zUx).length≤2*m:=by
   have h3:=zS0 hf j
   have:∀ fs:List Fld,(fs.flatMap zUx).length=2*fs.length:=by
    intro fs
    induction fs with
    | nil=>rfl
    | cons f fs ih=>rw [List.flatMap_cons,List.length_append,ih,List.length_cons,zOR]; omega
   rw [this]; omega
  omega
end Go.Ce
namespace Go.Ce
open Go Go.Proofs Go.Proofs.Tryz
def zAj (c:List Shp) (i:Nat):List Int:=(zCf c i).map (·.kind)
def zAc (l:List Int):List Value:=l.map fun k=>Value.int .u8 k
theorem z5:zer prog 5=some (.int .u8 0):=by kernel_rfl
theorem by5:(prog.info? 5).map (·.bytes)=some 1:=by kernel_rfl
theorem zWZ (n:Int) (W:CW):bsl prog 29 1 [(0,.int .u8 n)] W=some (.slice (some ⟨W.sz,0,none⟩) 1 1,W.new (.cells (Tr.nil.putFrom 0 [.int .u8 n]) [Value.int .u8 n].length #[] 5)):=by kernel_rfl
theorem zKe (fs:List Fld):(fs.flatMap zUx).length=2*fs.length:=by
 induction fs with
 | nil=>rfl
 | cons f fs ih=>rw [List.flatMap_cons,List.length_append,ih,List.length_cons,zOR]; omega
theorem zFj {c:List Shp} (hlen:c.length<200) (hf:∀ x,x ∈ c→x.fields.length≤100) (i:Nat):(zCf c i).length≤20100:=by
 unfold zCf
 cases hl:zBP c c.length i with
 | none=>simp
 | some l =>
  have h1:=(zEk c _ _ _ hl).1; have h2:=zN9 hf l.reverse; rw [zKe] at h2; have:l.reverse.length*(2*100)≤200*200:=Nat.mul_le_mul (by simp; omega) (by omega); show (l.reverse.flatMap (zJT c)).length≤20100; omega
end Go.Ce
namespace Go.Ce
open Go Go.Proofs Go.Proofs.Tryz
def zA3 (c:List Shp) (i k:Nat):Int:=match c[i]? with
 | some x=>if x.elem≠0 then x.elem else ((zAj c i)[k]?).getD 0
 | none=>0
def zYa (W:CW) (b o:Nat) (x:ByteArray):Prop:=W.cell b o=some (.string x)
end Go.Ce
namespace Go.Ce
open Go Go.Proofs Go.Proofs.Tryz
def zCB (n:Nat):List Int:=if n<128 then [(n:Int)] else ((n % 128+128:Nat):Int)::zCB (n / 128)
termination_by n
decreasing_by omega
theorem zUR:zEg prog 29=true:=by kernel_rfl
theorem zWT (n:Int):cvw prog 3 5 (.int .i64 n)=some (.int .u8 (IntKind.u8.wrap n)):=by kernel_rfl
theorem zUz {x:Int} (h1:0≤x) (h2:x<256):IntKind.u8.wrap x=x:=by
 unfold IntKind.wrap; simp [IntKind.bits,IntKind.signed]; omega
end Go.Ce
namespace Go.Ce
open Go Go.Proofs Go.Proofs.Tryz
def zEN (s:ByteArray):List Int:=(sb s).map fun b=>(b.toNat:Int)
def zDy (s:ByteArray):List Int:=zCB s.size++zEN s
end Go.Ce
namespace Go.Ce
open Go Go.Proofs Go.Proofs.Tryz
end Go.Ce
