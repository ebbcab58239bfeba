/- A part of the proof: Fd, Fe, Ga, Ha, Pa, Sz, ShW1, ShW, ShV, ShV2, Sh1, Sh0, Hb, Hc, Pb, Pc, Hd, He, Pd, Pe, Hf, Pf, Hg. -/
import Derived.Test.YtmknebebbbjdlaaGreatW01
import Derived.Test.YtmknebebbbjdlaaGreatProg
set_option linter.unusedSectionVars false
set_option linter.unusedVariables false
set_option linter.unusedSimpArgs false
set_option linter.defProp false
set_option maxRecDepth 200000
namespace Go.Ce
def AE (a:AK) (e:Env) (ds:List Deferred):Prop:=(∀ t,a.at t=e t)∧a.defers=ds
theorem AE.eval {a:AK} {e:Env} {ds:List Deferred} (h:AE a e ds):a.eval=e.ev:=by
 funext x
 cases x with
 | tmp t=>rw [AK.QM]; exact h.1 t
 | _=>rfl
theorem AE.put {a:AK} {e:Env} {ds:List Deferred} (h:AE a e ds) (d:Option Tmp) (v:Value):AE (a.put d v) (e.put d v) ds:=by
 refine ⟨fun t=>?_,by rw [AK.put_defers]; exact h.2⟩
 cases d with
 | none=>exact h.1 t
 | some d =>
  rw [AK.ib]; simp only [Env.put,cond_eq_ite,Nat.beq_eq]
  split
  ·rfl
  ·exact h.1 t
theorem su {v:Value} {X Y:Prop} (h:wI v X Y):∃ b,v=.bool b∧cond b X Y:=by
 unfold wI at h
 split at h
 ·exact ⟨true,rfl,h⟩
 ·exact ⟨false,rfl,h⟩
 ·obtain ⟨b,hb,h1,h2⟩:=h
  cases b with
  | true=>exact ⟨_,hb,h1 rfl⟩
  | false=>exact ⟨_,hb,h2 rfl⟩
theorem AD {b:Bool} {X Y:Prop} (h1:b=true→X) (h2:b=false→Y):wI (.bool b) X Y:=by
 cases b with
 | true=>exact h1 rfl
 | false=>exact h2 rfl
section
variable (P:Program) (L:List FuncId)
def mf:Value→Bool
 | .tuple _=>true
 | _=>false
def SO (sk:List Nat) (ops:Array Oper) (o:Oper) (e:Env) (K:Bool→Env→Prop):Prop:=match o.guard with
 | none=>K true e
 | some (j,want)=>match (ops[j]?).bind (·.dst) with
  | some d=>cond (CE sk j) (cond (mf (e d)) (K false e) False) (wI (e d) (K (true == want) (fun t=>cond (Nat.beq t d) (.bool true) (e t))) (K (false == want) (fun t=>cond (Nat.beq t d) (.bool false) (e t))))
  | none=>False
def bI (o:Oper):Bool:=match o.op with
 | .call c=>match c.callee with
  | .value _=>true
  | _=>false
 | _=>false
def jD (ops:Array Oper):Nat→List Nat→List Oper→Env→List Deferred→CW→(Exit→Env→List Deferred→CW→Prop)→Prop
 | _,_,[],e,ds,W,K=>K .normal e ds W
 | i,sk,o::rest,e,ds,W,K=>SO sk ops o e fun b e=>cond b
   (wOp P L o e.ev W (fun v W=>jD ops (i+1) sk rest (e.put o.dst v) ds W K) (fun W=>jD ops (i+1) sk rest (e.put o.dst undef) ds W K) (fun d W=>jD ops (i+1) sk rest (e.put o.dst undef) (d::ds) W K) (fun ch W=>K (.panic ch) e ds W))
   (jD ops (i+1) (i::sk) rest (e.put o.dst undef) ds W K)
def WS (ops:Array Oper) (ev:Operand→Value) (W:CW):Nat→Operand→Value
 | n+1,.tmp t=>match ops.toList.find? (fun o=>match o.dst with | some d=>Nat.beq d t | none=>false) with
  | some o=>cond (Dj P o) ((Bf P o (WS ops ev W n) W).elim undef fun l=>l.head?.elim undef fun p=>match p.1 with | .value v=>v | _=>undef) undef
  | none=>ev (.tmp t)
 | _,x=>ev x
def SP (ops:Array Oper) (ev:Operand→Value) (W:CW) (o:Oper):Operand→Value :=
 match o.op with
 | .makeSlice _ _ _=>WS P ops ev W 6
 | _=>ev
def ey (ops:Array Oper) (ev:Operand→Value):List Nat→CW→Option (List (Nat × Value × Option Az) × CW)
 | [],W=>some ([],W)
 | i::is,W=>match ops[i]? with
  | some o=>match Bf P o (SP P ops ev W o) W with
   | some [(.value v,W1)]=>match ey ops ev is W1 with
    | some (l,W2)=>some ((i,v,W1.obj W.sz)::l,W2)
    | none=>none
   | _=>none
  | none=>none
def WT (o:Oper) (ev:Operand→Value) (v:Value) (ob:Option Az):Bool :=
 match o.op with
 | .makeSlice _ _ _=>match v with
  | .slice (some b) _ _=>(Bf P o ev ⟨.nil,b.block⟩).any fun l=>l.head?.any fun p=>match p.1 with
   | .value u=>aJ 8 u v && C8 (p.2.obj b.block) ob
   | _=>false
  | _=>false
 | _=>true
def U1 (ops:Array Oper) (i:Nat) (an:List Nat) (ok:CW→Prop):List (Nat × CW)→CW→Prop
 | [],W=>ok W
 | (j,Wj)::before,W=>cond (anc ops j i) True (ok W)∧cond (CE an j) True (U1 ops i an ok before Wj)
def PG (ops:Array Oper) (ws:List (Nat × CW)) (W:CW):List (Nat × (CW→Prop))→Prop
 | []=>True
 | (i,ok)::rd=>U1 ops i (GX ops i) ok ws W∧PG ops ws W rd
def ez (v:Value) (ob:Option Az) (W:CW):Bool:=match v with
 | .pointer (some b)=>C8 (W.obj b.block) ob
 | .map (some b)=>C8 (W.obj b) ob
 | .slice (some b) _ _=>C8 (W.obj b.block) ob
 | _=>false
def mg (ops:Array Oper) (ws:List (Nat × CW)) (W:CW):List (Nat × Value × Option Az)→Prop
 | []=>True
 | (i,v,ob)::fl=>U1 ops i (GX ops i) (fun W=>ez v ob W=true) ws W∧mg ops ws W fl
def bJ (ops:Array Oper) (fl:List (Nat × Value × Option Az)):Nat→List Nat→List Oper→Env→CW→List (Nat × CW)→List (Nat × (CW→Prop))→(Env→CW→List (Nat × CW)→List (Nat × (CW→Prop))→Prop)→Prop
 | _,_,[],e,W,ws,rd,K=>K e W ws rd
 | i,sk,o::rest,e,W,ws,rd,K=>match fl.find? fun p=>Nat.beq p.1 i with
  | some (_,v,ob)=>WT P o e.ev v ob=true∧bJ ops fl (i+1) sk rest (e.put o.dst v) W ws rd K
  | none=>SO sk ops o e fun b e=>cond b
    (cond (Dj P o) (wV (sq P o e.ev) fun v=>bJ ops fl (i+1) sk rest (e.put o.dst v) W ws rd K)
     (cond (EP P o) (wV (ma P o e.ev W) fun v=>bJ ops fl (i+1) sk rest (e.put o.dst v) W ws ((i,fun W'=>ma P o e.ev W'=some v)::rd) K)
      (wOp P L o e.ev W (fun v W1=>bJ ops fl (i+1) sk rest (e.put o.dst v) W1 ((i,W)::ws) rd K) (fun W1=>bJ ops fl (i+1) sk rest (e.put o.dst undef) W1 ((i,W)::ws) rd K) (fun _ _=>False) (fun _ _=>False))))
    (bJ ops fl (i+1) (i::sk) rest (e.put o.dst undef) W ws rd K)
def sv (ops:Array Oper) (e:Env) (W:CW) (K:Env→CW→Prop):Prop:=match ey P ops e.ev (G7 P ops) W with
 | some (fl,W1)=>bJ P L ops fl 0 [] ops.toList e W1 [] [] fun e W ws rd=>PG ops ws W rd∧mg ops ws W fl∧K e W
 | none=>False
def T' (ops:Array Oper) (i0:Nat):Nat→List Nat→List Oper→Env→CW→List (Nat × (CW→Prop))→(List (Nat × (CW→Prop))→Prop)→Prop
 | _,_,[],_,_,rd,K=>K rd
 | i,sk,o::rest,e,W,rd,K=>cond (Mp ops i0 i) (T' ops i0 (i+1) sk rest (e.put o.dst undef) W rd K)
   (SO sk ops o e fun b e=>cond b
    (cond (Dj P o) (wV (sq P o e.ev) fun v=>T' ops i0 (i+1) sk rest (e.put o.dst v) W rd K)
     (cond (EP P o) (wV (ma P o e.ev W) fun v=>T' ops i0 (i+1) sk rest (e.put o.dst v) W ((i,fun W'=>ma P o e.ev W'=some v)::rd) K) False))
    (T' ops i0 (i+1) (i::sk) rest (e.put o.dst undef) W rd K))
def QU (ops:Array Oper) (fl:List (Nat × Value × Option Az)) (KP:List PanicEntry→CW→Prop):Nat→List Nat→List Oper→Env→CW→List (Nat × CW)→List (Nat × (CW→Prop))→(Env→CW→List (Nat × CW)→List (Nat × (CW→Prop))→Prop)→Prop
 | _,_,[],e,W,ws,rd,K=>K e W ws rd
 | i,sk,o::rest,e,W,ws,rd,K=>match fl.find? fun p=>Nat.beq p.1 i with
  | some (_,v,ob)=>WT P o e.ev v ob=true∧QU ops fl KP (i+1) sk rest (e.put o.dst v) W ws rd K
  | none=>SO sk ops o e fun b e=>cond b
    (cond (Dj P o) (wV (sq P o e.ev) fun v=>QU ops fl KP (i+1) sk rest (e.put o.dst v) W ws rd K)
     (cond (EP P o) (wV (ma P o e.ev W) fun v=>QU ops fl KP (i+1) sk rest (e.put o.dst v) W ws ((i,fun W'=>ma P o e.ev W'=some v)::rd) K)
      (wOp P L o e.ev W (fun v W1=>QU ops fl KP (i+1) sk rest (e.put o.dst v) W1 ((i,W)::ws) rd K) (fun W1=>QU ops fl KP (i+1) sk rest (e.put o.dst undef) W1 ((i,W)::ws) rd K) (fun _ _=>False)
       (fun ch W2=>cond (bI o && fl.isEmpty && ws.all fun x=>CE (GX ops i) x.1) (T' P ops i (i+1) sk rest (e.put o.dst undef) W rd fun rd=>PG ops ws W rd∧KP ch W2) False))))
    (QU ops fl KP (i+1) (i::sk) rest (e.put o.dst undef) W ws rd K)
def jE (ops:Array Oper) (e:Env) (W:CW) (K:Env→CW→Prop) (KP:List PanicEntry→CW→Prop):Prop:=match ey P ops e.ev (G7 P ops) W with
 | some (fl,W1)=>QU P L ops fl KP 0 [] ops.toList e W1 [] [] fun e W ws rd=>PG ops ws W rd∧mg ops ws W fl∧K e W
 | none=>False
def Env.bad:Env:=fun t=>cond (Nat.beq t 0) (.complex .f64 0 0) undef
def Fk (ro:Option Nat) (fn:FuncId) (nt:Nat) (c:Code) (e:Env) (ds:List Deferred) (W:CW) (K:Exit→Env→List Deferred→CW→Prop):Prop :=
 ∀ a:AK,AE a e ds→a.nt=nt→sr P L ro fn c a W fun x a' W'=>∃ e',AE a' e' a'.defers∧a'.nt=nt∧K x e' a'.defers W'
abbrev AB:=Exit→Env→List Deferred→CW→Prop
def AW (Y:Env→List Deferred→CW→Prop) (K:AB):AB:=fun x e ds W=>match x with
 | .normal=>Y e ds W
 | x=>K x e ds W
def CL (id:Nat) (K:AB):AB:=fun x e ds W=>match x with
 | .exit To=>cond (Nat.beq To id) (K .normal e ds W) (K (.exit To) e ds W)
 | x=>K x e ds W
def Ft (ro:Option Nat) (fn:FuncId) (nt:Nat):Code→Env→List Deferred→CW→(Exit→Env→List Deferred→CW→Prop)→Prop
 | .skip,e,ds,W,K=>K .normal e ds W
 | .label _,e,ds,W,K=>K .normal e ds W
 | .exit id,e,ds,W,K=>K (.exit id) e ds W
 | .ret,e,ds,W,K=>K .ret e ds W
 | .region _ ops false,e,ds,W,K=>jD P L ops 0 [] ops.toList e ds W K
 | .region _ ops true,e,ds,W,K=>cond (CE L (fn+1500000)) (jE P L ops e W (fun e W=>K .normal e ds W) (fun ch W=>K (.panic ch) Env.bad ds W)) (sv P L ops e W fun e W=>K .normal e ds W)
 | .seq x y,e,ds,W,K=>Ft ro fn nt x e ds W (AW (fun e ds W=>Ft ro fn nt y e ds W K) K)
 | .cond c x y,e,ds,W,K=>wI (e.ev c) (Ft ro fn nt x e ds W K) (Ft ro fn nt y e ds W K)
 | .block id b,e,ds,W,K=>Ft ro fn nt b e ds W (CL id K)
 | .scope b,e,ds,W,K=>Ft ro fn nt b e ds W K
 | c,e,ds,W,K=>Fk P L ro fn nt c e ds W K
end
section
variable {P:Program} {L:List FuncId}
theorem bK {n m:Nat} (h:n≤m) {f:FuncId} {args:List Value} {W:CW} {o:List (Ending × CW)} (hc:(Du P L n).call f args W=some o):(Du P L m).call f args W=some o:=(IW h).call hc
theorem WU {n m:Nat} (h:n≤m) {l:Nat} {args:List Value} {W:CW} {o:List (Ending × CW)} (hc:(Du P L n).round l args W=some o):(Du P L m).round l args W=some o:=(IW h).round hc
theorem HX {n m:Nat} (h:n≤m) {ro:Option Nat} {fn:FuncId} {c:Code} {a:AK} {W:CW} {o:List (Exit × AK × CW)} (hc:(Du P L n).code ro fn c a W=some o):(Du P L m).code ro fn c a W=some o:=(IW h).code hc
theorem Dv {α β:Type} (x:α) (f:α→Option (List β)) {y:List β} (h:f x=some y):C7 (some [x]) f=some y:=by
 simp [C7,Fp,h]
theorem Nx {sk:List Nat} {ops:Array Oper} {o:Oper} {e:Env} {ds:List Deferred} {a:AK} (ha:AE a e ds) {K:Bool→Env→Prop} (h:SO sk ops o e K):∃ e',AE a e' ds∧K (El ops o a) e'∧EE ops o a=some (El ops o a):=by
 unfold SO at h; unfold El EE
 split at h
 ·rename_i hg; rw [hg]; exact ⟨e,ha,h,by first | rfl | trivial⟩
 ·rename_i j want hg; rw [hg]
  split at h
  ·rename_i d hd; obtain ⟨oj,sL,ae⟩:=Option.bind_eq_some_iff.1 hd
   cases hm:CE sk j with
   | true =>
    rw [hm] at h; simp only [cond_true] at h
    cases hu:mf (e d) with
    | false=>rw [hu] at h; exact h.elim
    | true =>
     rw [hu] at h; simp only [cond_true] at h
     have hy:Ky ops a j=none:=by
      unfold Ky; rw [sL]; simp only [ae]; have h1:=ha.1 d; unfold AK.at at h1
      cases NC:a.t.get d with
      | none=>rfl
      | some u =>
       rw [NC] at h1; have h1:u=e d:=h1; subst h1
       cases Om:e d <;> rw [Om] at hu <;> first | rfl | cases hu
     simp only [hy]; exact ⟨e,ha,h,by first | rfl | trivial⟩
   | false =>
   rw [hm] at h; simp only [cond_false] at h; obtain ⟨b,hb,hK⟩:=su h
   replace hK:K (b == want) (fun t=>cond (Nat.beq t d) (.bool b) (e t)):=by cases b <;> exact hK
   have hy:Ky ops a j=some b:=by
    unfold Ky; rw [sL]; simp only [ae]; have h1:=ha.1 d; rw [hb] at h1; unfold AK.at at h1
    cases NC:a.t.get d with
    | none=>rw [NC] at h1; cases h1
    | some u =>
     rw [NC] at h1; have h1:u=.bool b:=h1; subst h1; rfl
   simp only [hy]; refine ⟨_,⟨fun t=>?_,ha.2⟩,hK,by first | rfl | trivial⟩; simp only [cond_eq_ite,Nat.beq_eq]
   split
   ·rename_i ht; subst ht; rw [ha.1 t,hb]
   ·exact ha.1 t
  ·exact h.elim
theorem G' {ops:Array Oper}:∀ {i:Nat} {sk:List Nat} {rest:List Oper} {a:AK} {e:Env} {ds:List Deferred} {W:CW} {K:Exit→Env→List Deferred→CW→Prop},jD P L ops i sk rest e ds W K→AE a e ds →
  ∃ n o e',Fq P (Du P L n) ops rest a W=some [o]∧AE o.2.1 e' o.2.1.defers∧o.2.1.nt=a.nt∧K o.1 e' o.2.1.defers o.2.2
 | i,sk,[],a,e,ds,W,K,h,ha=>by
  refine ⟨0,(.normal,a,W),e,rfl,?_,rfl,?_⟩
  ·rw [ha.2]; exact ha
  ·rw [ha.2]; exact h
 | i,sk,o::rest,a,e,ds,W,K,h,ha=>by
  simp only [jD] at h; obtain ⟨e1,Dz,h,_⟩:=Nx ha h
  cases hw:El ops o a with
  | false =>
   rw [hw] at h; obtain ⟨n,x,e',h1,h2,h3,h4⟩:=G' h (Dz.put _ _); exact ⟨n,x,e',by simp only [Fq,hw]; exact h1,h2,by rw [h3,AK.CN],h4⟩
  | true =>
   rw [hw] at h; simp only [cond_true] at h; obtain ⟨p,hp,Gj⟩:=SN h; obtain ⟨nx,W1⟩:=p; have J8:Bf P o a.eval W=some [(nx,W1)]:=by rw [Dz.eval]; exact hp
   have step:∀ {n:Nat} {x:Exit × AK × CW},(match nx with
     | .value v=>Fq P (Du P L n) ops rest (a.put o.dst v) W1
     | .skip=>Fq P (Du P L n) ops rest (a.put o.dst undef) W1
     | .defer d=>Fq P (Du P L n) ops rest ({ a with defers:=d::a.defers }.put o.dst undef) W1
     | .enter f args=>C7 ((Du P L n).call f args W1) fun (e,W)=>match e with
      | .returned v=>Fq P (Du P L n) ops rest (a.put o.dst v) W
      | .panicked ch=>some [(.panic ch,a,W)]
      | .outgrown=>none
     | .round l args=>C7 ((Du P L n).round l args W1) fun (e,W)=>match e with
      | .returned v=>Fq P (Du P L n) ops rest (a.put o.dst v) W
      | .panicked ch=>some [(.panic ch,a,W)]
      | .outgrown=>none
     | .recover=>none
     | .panic v=>some [(.panic [{ v,recovered:=false }],a,W1)])=some [x]→Fq P (Du P L n) ops (o::rest) a W=some [x]:=by
    intro n x hx; simp only [Fq,hw,J8]; refine Dv _ _ ?_
    cases nx <;> exact hx
   have up:∀ {n m:Nat} (hle:n≤m) {a:AK} {W:CW} {r:List (Exit × AK × CW)},Fq P (Du P L n) ops rest a W=some r→Fq P (Du P L m) ops rest a W=some r:=fun hle=>F7 (IW hle)
   cases nx with
   | value v =>
    obtain ⟨n,x,e',h1,h2,h3,h4⟩:=G' (a:=a.put o.dst v) Gj (Dz.put _ _); exact ⟨n,x,e',step h1,h2,by rw [h3,AK.CN],h4⟩
   | skip =>
    obtain ⟨n,x,e',h1,h2,h3,h4⟩:=G' (a:=a.put o.dst undef) Gj (Dz.put _ _); exact ⟨n,x,e',step h1,h2,by rw [h3,AK.CN],h4⟩
   | defer d =>
    obtain ⟨n,x,e',h1,h2,h3,h4⟩:=G' (a:=({ a with defers:=d::a.defers }:AK).put o.dst undef) Gj (AE.put (a:={ a with defers:=d::a.defers }) ⟨Dz.1,by show d::a.defers=d::ds; rw [Dz.2]⟩ _ _); exact ⟨n,x,e',step h1,h2,by rw [h3,AK.CN],h4⟩
   | enter f args =>
    obtain ⟨n1,y,hy,hQ⟩:=Gj; obtain ⟨en,W2⟩:=y
    cases en with
    | returned v =>
     obtain ⟨n,x,e',h1,h2,h3,h4⟩:=G' (a:=a.put o.dst v) hQ (Dz.put _ _); refine ⟨max n n1,x,e',step ?_,h2,by rw [h3,AK.CN],h4⟩; simp only [bK (Nat.le_max_right n n1) hy]; exact Dv _ _ (up (Nat.le_max_left _ _) h1)
    | panicked ch =>
     refine ⟨n1,(.panic ch,a,W2),e1,step ?_,by rw [Dz.2]; exact Dz,rfl,by rw [Dz.2]; exact hQ⟩; simp only [hy]; exact Dv _ _ rfl
    | outgrown=>exact hQ.elim
   | round l args =>
    obtain ⟨n1,y,hy,hQ⟩:=Gj; obtain ⟨en,W2⟩:=y
    cases en with
    | returned v =>
     obtain ⟨n,x,e',h1,h2,h3,h4⟩:=G' (a:=a.put o.dst v) hQ (Dz.put _ _); refine ⟨max n n1,x,e',step ?_,h2,by rw [h3,AK.CN],h4⟩; simp only [WU (Nat.le_max_right n n1) hy]; exact Dv _ _ (up (Nat.le_max_left _ _) h1)
    | panicked ch =>
     refine ⟨n1,(.panic ch,a,W2),e1,step ?_,by rw [Dz.2]; exact Dz,rfl,by rw [Dz.2]; exact hQ⟩; simp only [hy]; exact Dv _ _ rfl
    | outgrown=>exact hQ.elim
   | recover=>exact Gj.elim
   | panic v=>exact ⟨0,(.panic [{ v,recovered:=false }],a,W1),e1,step rfl,by rw [Dz.2]; exact Dz,rfl,by rw [Dz.2]; exact Gj⟩
theorem e_ (ops:Array Oper) (a:AK) (W:CW):∀ (n:Nat) (x:Operand),early P ops a W n x=WS P ops a.eval W n x
 | 0,x=>by cases x <;> rfl
 | n+1,x=>by
  cases x with
  | tmp t =>
   simp only [early,WS]; have:early P ops a W n=WS P ops a.eval W n:=funext fun x=>e_ ops a W n x; rw [this]; rfl
  | _=>rfl
theorem fA (ops:Array Oper) (a:AK) (W:CW) (o:Oper):Vx P ops a W o=SP P ops a.eval W o:=by
 unfold Vx SP
 cases o.op <;> first | rfl | (funext x; exact e_ ops a W 6 x)
theorem NL (ops:Array Oper) (a:AK):∀ (is:List Nat) (W:CW),IQ P ops a is W=ey P ops a.eval is W
 | [],W=>rfl
 | i::is,W=>by
  simp only [IQ,ey,fA,NL ops a is]; rfl
theorem WV (o:Oper) (a:AK) (v:Value) (ob:Option Az):P9 P o a v ob=WT P o a.eval v ob:=rfl
theorem SQ {ops:Array Oper} {i:Nat} {an:List Nat} {ok:CW→Bool} {okP:CW→Prop} (h:∀ W,okP W→ok W=true):∀ {ws:List (Nat × CW)} {W:CW},U1 ops i an okP ws W→DU ops i an ok ws W=true
 | [],W,hw=>h W hw
 | (j,Wj)::before,W,hw=>by
  obtain ⟨h1,h2⟩:=hw; simp only [DU,Bool.and_eq_true,Bool.or_eq_true]
  refine ⟨?_,?_⟩
  ·cases ha:anc ops j i with
   | true=>exact .inl rfl
   | false=>rw [ha] at h1; exact .inr (h W h1)
  ·cases hm:CE an j with
   | true=>rfl
   | false=>rw [hm] at h2; exact SQ h h2
def QW (P:Program):List (Nat × (CW→Prop))→List (Nat × Oper × AK × Value)→Prop
 | [],[]=>True
 | (i,ok)::rd,(i',o,a,v)::rd'=>(i=i'∧∀ W,ok W→Bf P o a.eval W=some [(.value v,W)])∧QW P rd rd'
 | _,_=>False
theorem MJ (x:Ending × CW):merged (some [x])=some [x]:=rfl
theorem FI {ops:Array Oper} {fl:List (Nat × Value × Option Az)} {K:Env→CW→List (Nat × CW)→List (Nat × (CW→Prop))→Prop}:∀ {rest:List Oper} {i:Nat} {sk:List Nat} {e:Env} {W:CW} {ws:List (Nat × CW)} {rd:List (Nat × (CW→Prop))} {a:AK} {ds:List Deferred} {rd':List (Nat × Oper × AK × Value)},
  bJ P L ops fl i sk rest e W ws rd K→AE a e ds→QW P rd rd'→∃ n s e' JT,EF P (Du P L n) ops fl i rest ⟨a,W,ws,rd'⟩=some s∧AE s.a e' ds∧s.a.nt=a.nt∧QW P JT s.rd∧K e' s.W s.ws JT
 | [],i,sk,e,W,ws,rd,a,ds,rd',h,ha,hr=>⟨0,_,e,rd,rfl,ha,rfl,hr,h⟩
 | o::rest,i,sk,e,W,ws,rd,a,ds,rd',h,ha,hr=>by
  have up:∀ {n m:Nat} (hle:n≤m) {i:Nat} {s s':FG},EF P (Du P L n) ops fl i rest s=some s'→EF P (Du P L m) ops fl i rest s=some s':=fun hle=>JG (IW hle)
  have go:∀ {n:Nat} {s1 s:FG},Bg P (Du P L n) ops fl i o ⟨a,W,ws,rd'⟩=some s1→EF P (Du P L n) ops fl (i+1) rest s1=some s→EF P (Du P L n) ops fl i (o::rest) ⟨a,W,ws,rd'⟩=some s:=by
   intro n s1 s h1 h2; simp only [EF,h1]; exact h2
  simp only [bJ] at h
  cases hf:fl.find? fun p=>Nat.beq p.1 i with
  | some y =>
   obtain ⟨i',v,ob⟩:=y; rw [hf] at h; obtain ⟨Mu,h⟩:=h; obtain ⟨n,s,e',JT,h1,h2,h3,h4,h5⟩:=FI h (ha.put o.dst v) hr; refine ⟨n,s,e',JT,go ?_ h1,h2,by rw [h3,AK.CN],h4,h5⟩; unfold Bg; rw [hf]; simp only [WV,ha.eval,Mu,cond_true]
  | none =>
   rw [hf] at h; obtain ⟨e1,Dz,h,Hw⟩:=Nx ha h
   have st:∀ {n:Nat},Bg P (Du P L n) ops fl i o ⟨a,W,ws,rd'⟩=(match EE ops o a with
     | none=>none
     | some false=>some { (⟨a,W,ws,rd'⟩:FG) with a:=a.put o.dst undef }
     | some true =>
      cond (Dj P o) (match Bf P o a.eval W with
       | some [(.value v,_)]=>some { (⟨a,W,ws,rd'⟩:FG) with a:=a.put o.dst v }
       | _=>none)
      (cond (EP P o) (match Bf P o a.eval W with
       | some [(.value v,_)]=>some { (⟨a,W,ws,rd'⟩:FG) with a:=a.put o.dst v,rd:=(i,o,a,v)::rd' }
       | _=>none)
      (match Bf P o a.eval W with
      | some [(.value v,W1)]=>some { (⟨a,W,ws,rd'⟩:FG) with a:=a.put o.dst v,W:=W1,ws:=(i,W)::ws }
      | some [(.skip,W1)]=>some { (⟨a,W,ws,rd'⟩:FG) with a:=a.put o.dst undef,W:=W1,ws:=(i,W)::ws }
      | some [(.enter f args,W1)]=>match merged ((Du P L n).call f args W1) with
       | some [(.returned v,W2)]=>some { (⟨a,W,ws,rd'⟩:FG) with a:=a.put o.dst v,W:=W2,ws:=(i,W)::ws }
       | _=>none
      | some [(.round l args,W1)]=>match merged ((Du P L n).round l args W1) with
       | some [(.returned v,W2)]=>some { (⟨a,W,ws,rd'⟩:FG) with a:=a.put o.dst v,W:=W2,ws:=(i,W)::ws }
       | _=>none
      | _=>none))):=by
    intro n; unfold Bg; rw [hf]; rfl
   cases hw:El ops o a with
   | false =>
    rw [hw] at h Hw; simp only [cond_false] at h; obtain ⟨n,s,e',JT,h1,h2,h3,h4,h5⟩:=FI h (Dz.put o.dst undef) hr; exact ⟨n,s,e',JT,go (by rw [st,Hw]) h1,h2,by rw [h3,AK.CN],h4,h5⟩
   | true =>
    rw [hw] at h Hw; simp only [cond_true] at h; have oW:=Dz.eval
    cases hp:Dj P o with
    | true =>
     rw [hp] at h; simp only [cond_true] at h
     cases hx:sq P o e1.ev with
     | none=>rw [hx] at h; exact h.elim
     | some v =>
      rw [hx] at h; obtain ⟨n,s,e',JT,h1,h2,h3,h4,h5⟩:=FI h (Dz.put o.dst v) hr; refine ⟨n,s,e',JT,go ?_ h1,h2,by rw [h3,AK.CN],h4,h5⟩; rw [st,Hw]; simp only [hp,cond_true,bH hp,oW,hx,vL]
    | false =>
     rw [hp] at h; simp only [cond_false] at h
     cases NH:EP P o with
     | true =>
      rw [NH] at h; simp only [cond_true] at h
      cases hx:ma P o e1.ev W with
      | none=>rw [hx] at h; exact h.elim
      | some v =>
       rw [hx] at h; obtain ⟨n,s,e',JT,h1,h2,h3,h4,h5⟩:=FI (rd':=(i,o,a,v)::rd') h (Dz.put o.dst v) ⟨⟨rfl,fun W' wD=>by rw [PF NH,oW,wD]; rfl⟩,hr⟩; refine ⟨n,s,e',JT,go ?_ h1,h2,by rw [h3,AK.CN],h4,h5⟩; rw [st,Hw]; simp only [hp,NH,cond_true,cond_false,PF NH,oW,hx,vL]
     | false =>
      rw [NH] at h; simp only [cond_false] at h; obtain ⟨p,J8,Gj⟩:=SN h; obtain ⟨nx,W1⟩:=p; rw [←oW] at J8
      cases nx with
      | value v =>
       obtain ⟨n,s,e',JT,h1,h2,h3,h4,h5⟩:=FI (a:=a.put o.dst v) Gj (Dz.put o.dst v) hr; refine ⟨n,s,e',JT,go ?_ h1,h2,by rw [h3,AK.CN],h4,h5⟩; rw [st,Hw]; simp only [hp,NH,cond_false,J8]
      | skip =>
       obtain ⟨n,s,e',JT,h1,h2,h3,h4,h5⟩:=FI (a:=a.put o.dst undef) Gj (Dz.put o.dst undef) hr; refine ⟨n,s,e',JT,go ?_ h1,h2,by rw [h3,AK.CN],h4,h5⟩; rw [st,Hw]; simp only [hp,NH,cond_false,J8]
      | enter f args =>
       obtain ⟨n1,y,hy,hQ⟩:=Gj; obtain ⟨en,W2⟩:=y
       cases en with
       | returned v =>
        obtain ⟨n,s,e',JT,h1,h2,h3,h4,h5⟩:=FI (a:=a.put o.dst v) hQ (Dz.put o.dst v) hr; refine ⟨max n n1,s,e',JT,go ?_ (up (Nat.le_max_left _ _) h1),h2,by rw [h3,AK.CN],h4,h5⟩; rw [st,Hw]; simp only [hp,NH,cond_false,J8,bK (Nat.le_max_right n n1) hy,MJ]
       | panicked ch=>exact hQ.elim
       | outgrown=>exact hQ.elim
      | round l args =>
       obtain ⟨n1,y,hy,hQ⟩:=Gj; obtain ⟨en,W2⟩:=y
       cases en with
       | returned v =>
        obtain ⟨n,s,e',JT,h1,h2,h3,h4,h5⟩:=FI (a:=a.put o.dst v) hQ (Dz.put o.dst v) hr; refine ⟨max n n1,s,e',JT,go ?_ (up (Nat.le_max_left _ _) h1),h2,by rw [h3,AK.CN],h4,h5⟩; rw [st,Hw]; simp only [hp,NH,cond_false,J8,WU (Nat.le_max_right n n1) hy,MJ]
       | panicked ch=>exact hQ.elim
       | outgrown=>exact hQ.elim
      | defer d=>exact Gj.elim
      | recover=>exact Gj.elim
      | panic v=>exact Gj.elim
theorem sx {n:Nat} (v:Value):(Du P L n).eqv v v=true:=by
 have:(Du P L n).eqv=fun u v=>@decide (u=v) (Classical.propDecidable _):=by
  unfold Du
  induction n with
  | zero=>rfl
  | succ n ih=>exact ih
 rw [this]; exact @decide_eq_true _ (Classical.propDecidable _) rfl
theorem Ny {n:Nat} {ops:Array Oper} {ws:List (Nat × CW)} {W:CW}:∀ {rd:List (Nat × (CW→Prop))} {rd':List (Nat × Oper × AK × Value)},PG ops ws W rd→QW P rd rd' →
  (rd'.all fun (i,o,a,v)=>DU ops i (GX ops i) (fun W=>match Bf P o a.eval W with | some [(.value u,_)]=>(Du P L n).eqv u v | _=>false) ws W)=true
 | [],[],_,_=>rfl
 | (i,ok)::rd,(i',o,a,v)::rd',h,hr=>by
  obtain ⟨⟨rfl,h1⟩,hr⟩:=hr; simp only [List.all_cons,Bool.and_eq_true]; refine ⟨SQ (fun W hW=>?_) h.1,Ny h.2 hr⟩; rw [h1 W hW]; exact sx v
 | [],_::_,_,h=>h.elim
 | _::_,[],_,h=>h.elim
theorem WW {ops:Array Oper} {ws:List (Nat × CW)} {W:CW}:∀ {fl:List (Nat × Value × Option Az)},mg ops ws W fl→(fl.all fun (i,v,ob)=>DU ops i (GX ops i) (fun W=>match v with | .pointer (some b)=>C8 (W.obj b.block) ob | .map (some b)=>C8 (W.obj b) ob | .slice (some b) _ _=>C8 (W.obj b.block) ob | _=>false) ws W)=true
 | [],_=>rfl
 | (i,v,ob)::fl,h=>by
  simp only [List.all_cons,Bool.and_eq_true]; exact ⟨SQ (fun W hW=>hW) h.1,WW h.2⟩
theorem fB {ops:Array Oper} {a:AK} {e:Env} {ds:List Deferred} {W:CW} {K:Env→CW→Prop} (h:sv P L ops e W K) (ha:AE a e ds) :
  ∃ n a' W' e',Im P (Du P L n) ops a W=some [(.normal,a',W')]∧AE a' e' ds∧a'.nt=a.nt∧K e' W':=by
 unfold sv at h; rw [←ha.eval,←NL] at h
 split at h
 ·rename_i fl W1 A0; obtain ⟨n,s,e',JT,h1,h2,h3,h4,h5,h6,h7⟩:=FI (ds:=ds) (rd':=[]) h ha trivial; refine ⟨n,s.a,s.W,e',?_,h2,h3,h7⟩; unfold Im; rw [A0]; simp only [h1]; have e1:=Ny (L:=L) (n:=n) h5 h4; have e2:=WW h6
  show cond (s.rd.all fun (i,o,a,v)=>DU ops i (GX ops i) (fun W=>match Bf P o a.eval W with | some [(.value u,_)]=>(Du P L n).eqv u v | _=>false) s.ws s.W)
   (cond (fl.all fun (i,v,ob)=>DU ops i (GX ops i) (fun W=>match v with | .pointer (some b)=>C8 (W.obj b.block) ob | .map (some b)=>C8 (W.obj b) ob | .slice (some b) _ _=>C8 (W.obj b.block) ob | _=>false) s.ws s.W)
    (some [(Exit.normal,s.a,s.W)]) none) none=_
  rw [e1,e2]; rfl
 ·exact h.elim
theorem KO {ops:Array Oper} {fl:List (Nat × Value × Option Az)} {i:Nat} {o:Oper} {a:AK} {W:CW} {ws:List (Nat × CW)} {rd':List (Nat × Oper × AK × Value)} {R:C6} (hf:(fl.find? fun p=>Nat.beq p.1 i)=none) (Hw:EE ops o a=some true):Bg P R ops fl i o ⟨a,W,ws,rd'⟩=(
      cond (Dj P o) (match Bf P o a.eval W with
       | some [(.value v,_)]=>some { (⟨a,W,ws,rd'⟩:FG) with a:=a.put o.dst v }
       | _=>none)
      (cond (EP P o) (match Bf P o a.eval W with
       | some [(.value v,_)]=>some { (⟨a,W,ws,rd'⟩:FG) with a:=a.put o.dst v,rd:=(i,o,a,v)::rd' }
       | _=>none)
      (match Bf P o a.eval W with
      | some [(.value v,W1)]=>some { (⟨a,W,ws,rd'⟩:FG) with a:=a.put o.dst v,W:=W1,ws:=(i,W)::ws }
      | some [(.skip,W1)]=>some { (⟨a,W,ws,rd'⟩:FG) with a:=a.put o.dst undef,W:=W1,ws:=(i,W)::ws }
      | some [(.enter f args,W1)]=>match merged (R.call f args W1) with
       | some [(.returned v,W2)]=>some { (⟨a,W,ws,rd'⟩:FG) with a:=a.put o.dst v,W:=W2,ws:=(i,W)::ws }
       | _=>none
      | some [(.round l args,W1)]=>match merged (R.round l args W1) with
       | some [(.returned v,W2)]=>some { (⟨a,W,ws,rd'⟩:FG) with a:=a.put o.dst v,W:=W2,ws:=(i,W)::ws }
       | _=>none
      | _=>none))):=by
 unfold Bg; rw [hf]; simp only [Hw]; rfl
theorem IY {ops:Array Oper} {i0:Nat} {R:C6} {K:List (Nat × (CW→Prop))→Prop}:∀ {rest:List Oper} {i:Nat} {sk:List Nat} {e:Env} {W:CW} {ws:List (Nat × CW)} {rd:List (Nat × (CW→Prop))} {a:AK} {ds:List Deferred} {rd':List (Nat × Oper × AK × Value)},
  T' P ops i0 i sk rest e W rd K→AE a e ds→QW P rd rd'→∃ s JT,DM (H0 P R ops [] i0) i rest ⟨a,W,ws,rd'⟩=some s∧s.W=W∧s.ws=ws∧QW P JT s.rd∧K JT
 | [],i,sk,e,W,ws,rd,a,ds,rd',h,ha,hr=>⟨_,rd,rfl,rfl,rfl,hr,h⟩
 | o::rest,i,sk,e,W,ws,rd,a,ds,rd',h,ha,hr=>by
  simp only [T'] at h
  have go:∀ {s1 s:FG},H0 P R ops [] i0 i o ⟨a,W,ws,rd'⟩=some s1→DM (H0 P R ops [] i0) (i+1) rest s1=some s→DM (H0 P R ops [] i0) i (o::rest) ⟨a,W,ws,rd'⟩=some s:=by
   intro s1 s h1 h2; simp only [DM,h1]; exact h2
  cases hn:Mp ops i0 i with
  | true =>
   rw [hn] at h; obtain ⟨s,JT,h1,h2,h3,h4,h5⟩:=IY (ws:=ws) (rd':=rd') h (ha.put o.dst undef) hr; exact ⟨s,JT,go (by unfold H0; rw [hn]; rfl) h1,h2,h3,h4,h5⟩
  | false =>
   rw [hn] at h; simp only [cond_false] at h; have hN:H0 P R ops [] i0 i o ⟨a,W,ws,rd'⟩=Bg P R ops [] i o ⟨a,W,ws,rd'⟩:=by unfold H0; rw [hn]; rfl
   obtain ⟨e1,Dz,h,Hw⟩:=Nx ha h
   cases hw:El ops o a with
   | false =>
    rw [hw] at h Hw; simp only [cond_false] at h; obtain ⟨s,JT,h1,h2,h3,h4,h5⟩:=IY (ws:=ws) (rd':=rd') h (Dz.put o.dst undef) hr; refine ⟨s,JT,go ?_ h1,h2,h3,h4,h5⟩; rw [hN]; unfold Bg; simp only [List.find?_nil,Hw]
   | true =>
    rw [hw] at h Hw; simp only [cond_true] at h; have oW:=Dz.eval
    cases hp:Dj P o with
    | true =>
     rw [hp] at h; simp only [cond_true] at h
     cases hx:sq P o e1.ev with
     | none=>rw [hx] at h; exact h.elim
     | some v =>
      rw [hx] at h; obtain ⟨s,JT,h1,h2,h3,h4,h5⟩:=IY (ws:=ws) (rd':=rd') h (Dz.put o.dst v) hr; refine ⟨s,JT,go ?_ h1,h2,h3,h4,h5⟩; rw [hN,KO rfl Hw]; simp only [hp,cond_true,bH hp,oW,hx,vL]
    | false =>
     rw [hp] at h; simp only [cond_false] at h
     cases NH:EP P o with
     | true =>
      rw [NH] at h; simp only [cond_true] at h
      cases hx:ma P o e1.ev W with
      | none=>rw [hx] at h; exact h.elim
      | some v =>
       rw [hx] at h; obtain ⟨s,JT,h1,h2,h3,h4,h5⟩:=IY (ws:=ws) (rd':=(i,o,a,v)::rd') h (Dz.put o.dst v) ⟨⟨rfl,fun W' wD=>by rw [PF NH,oW,wD]; rfl⟩,hr⟩; refine ⟨s,JT,go ?_ h1,h2,h3,h4,h5⟩; rw [hN,KO rfl Hw]; simp only [hp,NH,cond_true,cond_false,PF NH,oW,hx,vL]
     | false=>rw [NH] at h; exact h.elim
def dZ (P:Program) (L:List FuncId) (ops:Array Oper) (fl:List (Nat × Value × Option Az)) (KP:List PanicEntry→CW→Prop) (K:Env→CW→List (Nat × CW)→List (Nat × (CW→Prop))→Prop) (ds:List Deferred) (nt n i:Nat) (rest:List Oper) (s0:FG):Prop :=
 (∃ s e' JT,EF P (Du P L n) ops fl i rest s0=some s∧AE s.a e' ds∧s.a.nt=nt∧QW P JT s.rd∧K e' s.W s.ws JT) ∨
 ∃ i0 ch W2 s JT,i≤i0∧EG P (Du P L n) ops fl i rest s0=some (i0,ch,W2)∧DM (H0 P (Du P L n) ops fl i0) i rest s0=some s∧(fl.isEmpty && s.ws.all fun x=>CE (GX ops i0) x.1)=true∧QW P JT s.rd∧PG ops s.ws s.W JT∧KP ch W2
theorem dZ.cons {ops:Array Oper} {fl:List (Nat × Value × Option Az)} {KP:List PanicEntry→CW→Prop} {K:Env→CW→List (Nat × CW)→List (Nat × (CW→Prop))→Prop} {ds:List Deferred} {nt n i:Nat} {o:Oper} {rest:List Oper} {s0 s1:FG} (hs:Bg P (Du P L n) ops fl i o s0=some s1)
  (h:dZ P L ops fl KP K ds nt n (i+1) rest s1):dZ P L ops fl KP K ds nt n i (o::rest) s0:=by
 rcases h with ⟨s,e',JT,h1,h2⟩ | ⟨i0,ch,W2,s,JT,h0,h1,h2,h3⟩
 ·exact .inl ⟨s,e',JT,by simp only [EF,hs]; exact h1,h2⟩
 ·refine .inr ⟨i0,ch,W2,s,JT,by omega,?_,?_,h3⟩
  ·simp only [EG]
   cases hp:Em P (Du P L n) ops fl i o s0 with
   | some y=>have:=MH hp; rw [hs] at this; cases this
   | none=>simp only [hs]; exact h1
  ·simp only [DM,H0,mG (show i<i0 by omega),cond_false,hs]; exact h2
theorem dZ.up {ops:Array Oper} {fl:List (Nat × Value × Option Az)} {KP:List PanicEntry→CW→Prop} {K:Env→CW→List (Nat × CW)→List (Nat × (CW→Prop))→Prop} {ds:List Deferred} {nt n m i:Nat} {rest:List Oper} {s0:FG} (hle:n≤m) (h:dZ P L ops fl KP K ds nt n i rest s0):dZ P L ops fl KP K ds nt m i rest s0:=by
 rcases h with ⟨s,e',JT,h1,h2⟩ | ⟨i0,ch,W2,s,JT,h0,h1,h2,h3⟩
 ·exact .inl ⟨s,e',JT,JG (IW hle) h1,h2⟩
 ·exact .inr ⟨i0,ch,W2,s,JT,h0,K5 (IW hle) h1,K7 (WQ (IW hle)) h2,h3⟩
theorem EI {ops:Array Oper} {fl:List (Nat × Value × Option Az)} {KP:List PanicEntry→CW→Prop} {K:Env→CW→List (Nat × CW)→List (Nat × (CW→Prop))→Prop}:∀ {rest:List Oper} {i:Nat} {sk:List Nat} {e:Env} {W:CW} {ws:List (Nat × CW)} {rd:List (Nat × (CW→Prop))} {a:AK} {ds:List Deferred} {rd':List (Nat × Oper × AK × Value)},
  QU P L ops fl KP i sk rest e W ws rd K→AE a e ds→QW P rd rd'→∃ n,dZ P L ops fl KP K ds a.nt n i rest ⟨a,W,ws,rd'⟩
 | [],i,sk,e,W,ws,rd,a,ds,rd',h,ha,hr=>⟨0,.inl ⟨_,e,rd,rfl,ha,rfl,hr,h⟩⟩
 | o::rest,i,sk,e,W,ws,rd,a,ds,rd',h,ha,hr=>by
  have nt:∀ {n:Nat} {d:Option Tmp} {v:Value} {s1:FG},dZ P L ops fl KP K ds (a.put d v).nt n (i+1) rest s1→dZ P L ops fl KP K ds a.nt n (i+1) rest s1:=by
   intro n d v s1 hh
   rwa [AK.CN] at hh
  simp only [QU] at h
  cases hf:fl.find? fun p=>Nat.beq p.1 i with
  | some y =>
   obtain ⟨i',v,ob⟩:=y; rw [hf] at h; obtain ⟨Mu,h⟩:=h; obtain ⟨n,hn⟩:=EI (rd':=rd') h (ha.put o.dst v) hr; refine ⟨n,dZ.cons (s1:={ (⟨a,W,ws,rd'⟩:FG) with a:=a.put o.dst v }) ?_ (nt hn)⟩; unfold Bg; rw [hf]; simp only [WV,ha.eval,Mu,cond_true]
  | none =>
   rw [hf] at h; obtain ⟨e1,Dz,h,Hw⟩:=Nx ha h
   cases hw:El ops o a with
   | false =>
    rw [hw] at h Hw; simp only [cond_false] at h; obtain ⟨n,hn⟩:=EI (rd':=rd') h (Dz.put o.dst undef) hr; refine ⟨n,dZ.cons (s1:={ (⟨a,W,ws,rd'⟩:FG) with a:=a.put o.dst undef }) ?_ (nt hn)⟩; unfold Bg; rw [hf]; simp only [Hw]
   | true =>
    rw [hw] at h Hw; simp only [cond_true] at h; have oW:=Dz.eval
    cases hp:Dj P o with
    | true =>
     rw [hp] at h; simp only [cond_true] at h
     cases hx:sq P o e1.ev with
     | none=>rw [hx] at h; exact h.elim
     | some v =>
      rw [hx] at h; obtain ⟨n,hn⟩:=EI (rd':=rd') h (Dz.put o.dst v) hr; refine ⟨n,dZ.cons (s1:={ (⟨a,W,ws,rd'⟩:FG) with a:=a.put o.dst v }) ?_ (nt hn)⟩; rw [KO hf Hw]; simp only [hp,cond_true,bH hp,oW,hx,vL]
    | false =>
     rw [hp] at h; simp only [cond_false] at h
     cases NH:EP P o with
     | true =>
      rw [NH] at h; simp only [cond_true] at h
      cases hx:ma P o e1.ev W with
      | none=>rw [hx] at h; exact h.elim
      | some v =>
       rw [hx] at h; obtain ⟨n,hn⟩:=EI (rd':=(i,o,a,v)::rd') h (Dz.put o.dst v) ⟨⟨rfl,fun W' wD=>by rw [PF NH,oW,wD]; rfl⟩,hr⟩; refine ⟨n,dZ.cons (s1:={ (⟨a,W,ws,rd'⟩:FG) with a:=a.put o.dst v,rd:=(i,o,a,v)::rd' }) ?_ (nt hn)⟩; rw [KO hf Hw]; simp only [hp,NH,cond_true,cond_false,PF NH,oW,hx,vL]
     | false =>
      rw [NH] at h; simp only [cond_false] at h; obtain ⟨p,J8,Gj⟩:=SN h; obtain ⟨nx,W1⟩:=p; rw [←oW] at J8
      have pan:∀ {ch:List PanicEntry} {W2:CW} {n1:Nat},Em P (Du P L n1) ops fl i o ⟨a,W,ws,rd'⟩=some (ch,W2)→cond (bI o && fl.isEmpty && ws.all fun x=>CE (GX ops i) x.1) (T' P ops i (i+1) sk rest (e1.put o.dst undef) W rd fun rd=>PG ops ws W rd∧KP ch W2) False→∃ n,dZ P L ops fl KP K ds a.nt n i (o::rest) ⟨a,W,ws,rd'⟩:=by
       intro ch W2 n1 AAY hc; rw [cond_eq_ite] at hc; split at hc
       rotate_left
       ·exact hc.elim
       rename_i Mu; simp only [Bool.and_eq_true] at Mu; have LN:fl=[]:=by simpa using Mu.1.2
       subst LN; obtain ⟨s,JT,h1,h2,h3,h4,h5,h6⟩:=IY (R:=Du P L n1) (ws:=ws) (rd':=rd') hc (Dz.put o.dst undef) hr
       refine ⟨n1,.inr ⟨i,ch,W2,s,JT,Nat.le_refl _,by simp only [EG,AAY],?_,?_,h4,by rw [h2,h3]; exact h5,h6⟩⟩
       ·have AD4:Mp ops i i=true:=by unfold Mp; simp
        simp only [DM,H0,AD4,cond_true]; exact h1
       ·rw [h3]; simp only [Mu.2,Bool.and_true]; rfl
      cases nx with
      | value v =>
       obtain ⟨n,hn⟩:=EI (rd':=rd') (a:=a.put o.dst v) Gj (Dz.put o.dst v) hr; refine ⟨n,dZ.cons (s1:={ (⟨a,W,ws,rd'⟩:FG) with a:=a.put o.dst v,W:=W1,ws:=(i,W)::ws }) ?_ (nt hn)⟩; rw [KO hf Hw]; simp only [hp,NH,cond_false,J8]
      | skip =>
       obtain ⟨n,hn⟩:=EI (rd':=rd') (a:=a.put o.dst undef) Gj (Dz.put o.dst undef) hr; refine ⟨n,dZ.cons (s1:={ (⟨a,W,ws,rd'⟩:FG) with a:=a.put o.dst undef,W:=W1,ws:=(i,W)::ws }) ?_ (nt hn)⟩; rw [KO hf Hw]; simp only [hp,NH,cond_false,J8]
      | enter f args =>
       obtain ⟨n1,y,hy,hQ⟩:=Gj; obtain ⟨en,W2⟩:=y
       cases en with
       | returned v =>
        obtain ⟨n,hn⟩:=EI (rd':=rd') (a:=a.put o.dst v) hQ (Dz.put o.dst v) hr; refine ⟨max n n1,dZ.cons (s1:={ (⟨a,W,ws,rd'⟩:FG) with a:=a.put o.dst v,W:=W2,ws:=(i,W)::ws }) ?_ ((nt hn).up (Nat.le_max_left _ _))⟩; rw [KO hf Hw]; simp only [hp,NH,cond_false,J8,bK (Nat.le_max_right n n1) hy,MJ]
       | panicked ch =>
        refine pan (n1:=n1) ?_ hQ; unfold Em; rw [hf]; simp only [Hw,hp,NH,cond_false,J8,hy]
       | outgrown=>exact hQ.elim
      | round l args =>
       obtain ⟨n1,y,hy,hQ⟩:=Gj; obtain ⟨en,W2⟩:=y
       cases en with
       | returned v =>
        obtain ⟨n,hn⟩:=EI (rd':=rd') (a:=a.put o.dst v) hQ (Dz.put o.dst v) hr; refine ⟨max n n1,dZ.cons (s1:={ (⟨a,W,ws,rd'⟩:FG) with a:=a.put o.dst v,W:=W2,ws:=(i,W)::ws }) ?_ ((nt hn).up (Nat.le_max_left _ _))⟩; rw [KO hf Hw]; simp only [hp,NH,cond_false,J8,WU (Nat.le_max_right n n1) hy,MJ]
       | panicked ch =>
        refine pan (n1:=n1) ?_ hQ; unfold Em; rw [hf]; simp only [Hw,hp,NH,cond_false,J8,hy]
       | outgrown=>exact hQ.elim
      | defer d=>exact Gj.elim
      | recover=>exact Gj.elim
      | panic v =>
       exfalso
       have Hv:bI o=false:=by
        unfold bI
        split
        ·rename_i c hc
         split
         ·rename_i f hcf
          exfalso
          simp only [Bf,hc,hcf] at J8
          split at J8
          ·split at J8
           ·cases J8
           ·cases J8
          ·rename_i FP
           cases J8
           unfold Iu at FP; split at FP <;> cases FP
          ·cases J8
         ·rfl
        ·rfl
       rw [Hv] at Gj; exact Gj
theorem bL {ops:Array Oper} {a:AK} {e:Env} {ds:List Deferred} {W:CW} {K:Env→CW→Prop} {KP:List PanicEntry→CW→Prop} (h:jE P L ops e W K KP) (ha:AE a e ds) :
  ∃ n,(∃ a' W' e',Im P (Du P L n) ops a W=some [(.normal,a',W')]∧AE a' e' ds∧a'.nt=a.nt∧K e' W')∨∃ ch W',Im P (Du P L n) ops a W=some [(.panic ch,a.bad,W')]∧KP ch W':=by
 unfold jE at h; rw [←ha.eval,←NL] at h
 split at h
 ·rename_i fl W1 A0; obtain ⟨n,hn⟩:=EI (ds:=ds) (rd':=[]) h ha trivial; refine ⟨n,?_⟩
  rcases hn with ⟨s,e',JT,h1,h2,h3,h4,h5,h6,h7⟩ | ⟨i0,ch,W2,s,JT,h0,h1,h2,h3,h4,h5,h6⟩
  ·refine .inl ⟨s.a,s.W,e',?_,h2,h3,h7⟩; unfold Im; rw [A0]; simp only [h1]; have e1:=Ny (L:=L) (n:=n) h5 h4; have e2:=WW h6
   show cond (s.rd.all fun (i,o,a,v)=>DU ops i (GX ops i) (fun W=>match Bf P o a.eval W with | some [(.value u,_)]=>(Du P L n).eqv u v | _=>false) s.ws s.W)
    (cond (fl.all fun (i,v,ob)=>DU ops i (GX ops i) (fun W=>match v with | .pointer (some b)=>C8 (W.obj b.block) ob | .map (some b)=>C8 (W.obj b) ob | .slice (some b) _ _=>C8 (W.obj b.block) ob | _=>false) s.ws s.W)
     (some [(Exit.normal,s.a,s.W)]) none) none=_
   rw [e1,e2]; rfl
  ·refine .inr ⟨ch,W2,?_,h6⟩; unfold Im; rw [A0]; simp only [K6 h1,h1,h2,h3,cond_true]; have e1:=Ny (L:=L) (n:=n) h5 h4; show cond (s.rd.all fun (i,o,a,v)=>DU ops i (GX ops i) (fun W=>match Bf P o a.eval W with | some [(.value u,_)]=>(Du P L n).eqv u v | _=>false) s.ws s.W) (some [(Exit.panic ch,a.bad,W2)]) none=_; rw [e1]; rfl
 ·exact h.elim
end
end Go.Ce
namespace Go.Ce
section
variable {P:Program} {L:List FuncId}
theorem Jg (n:Nat):Du P L (n+1)=DL P L (Du P L n):=rfl
theorem F8 {α β:Type} {x:α} {f:α→Option (List β)} {y:List β} (h:f x=some y):C7 (some [x]) f=some y:=Dv x f h
theorem IZ {ro:Option Nat} {fn:FuncId} {nt:Nat}:∀ {c:Code} {e:Env} {ds:List Deferred} {W:CW} {K:Exit→Env→List Deferred→CW→Prop},Ft P L ro fn nt c e ds W K→Fk P L ro fn nt c e ds W K:=by
 intro c
 induction c with
 | skip =>
  intro e ds W K h a ha hn; exact ⟨1,(.normal,a,W),rfl,e,by rw [ha.2]; exact ha,hn,by rw [ha.2]; exact h⟩
 | label id =>
  intro e ds W K h a ha hn; exact ⟨1,(.normal,a,W),rfl,e,by rw [ha.2]; exact ha,hn,by rw [ha.2]; exact h⟩
 | exit id =>
  intro e ds W K h a ha hn; exact ⟨1,(.exit id,a,W),rfl,e,by rw [ha.2]; exact ha,hn,by rw [ha.2]; exact h⟩
 | ret =>
  intro e ds W K h a ha hn; exact ⟨1,(.ret,a,W),rfl,e,by rw [ha.2]; exact ha,hn,by rw [ha.2]; exact h⟩
 | region id ops d =>
  intro e ds W K h a ha hn
  cases d with
  | false =>
   obtain ⟨n,o,e',h1,h2,h3,h4⟩:=G' h ha; exact ⟨n+1,o,h1,e',h2,by rw [h3,hn],h4⟩
  | true =>
   simp only [Ft] at h
   cases hm:CE L (fn+1500000) with
   | false =>
    rw [hm] at h; obtain ⟨n,a',W',e',h1,h2,h3,h4⟩:=fB h ha; exact ⟨n+1,(.normal,a',W'),h1,e',by rw [h2.2]; exact h2,by rw [←hn]; exact h3,by rw [h2.2]; exact h4⟩
   | true =>
    rw [hm] at h
    obtain ⟨n,⟨a',W',e',h1,h2,h3,h4⟩ | ⟨ch,W',h1,h4⟩⟩:=bL h ha
    ·exact ⟨n+1,(.normal,a',W'),h1,e',by rw [h2.2]; exact h2,by rw [←hn]; exact h3,by rw [h2.2]; exact h4⟩
    ·refine ⟨n+1,(.panic ch,a.bad,W'),h1,Env.bad,⟨fun t=>?_,rfl⟩,hn,by show K (.panic ch) Env.bad a.defers W'; rw [ha.2]; exact h4⟩; show (AK.bad a).at t=Env.bad t; unfold AK.bad AK.at Env.bad; simp only [Tr.Bw,Tr.get_nil,cond_eq_ite,Nat.beq_eq]; split <;> rfl
 | seq x y iB iC =>
  intro e ds W K h a ha hn; obtain ⟨n,⟨x1,a1,W1⟩,h1,e1,h2,h3,h4⟩:=iB h a ha hn
  cases x1 with
  | normal =>
   obtain ⟨m,o,h5,h6⟩:=iC h4 a1 h2 h3; refine ⟨max n m+1,o,?_,h6⟩; show IS ((Du P L (max n m)).code ro fn x a W) ((Du P L (max n m)).code ro fn y)=some [o]; rw [HX (Nat.le_max_left n m) h1]; exact F8 (HX (Nat.le_max_right n m) h5)
  | _ =>
   refine ⟨n+1,_,?_,e1,h2,h3,h4⟩; show IS ((Du P L n).code ro fn x a W) ((Du P L n).code ro fn y)=_; rw [h1]; exact F8 rfl
 | cond c x y iB iC =>
  intro e ds W K h a ha hn; obtain ⟨b,hb,h⟩:=su h; have hc:a.eval c=.bool b:=by rw [ha.eval]; exact hb
  cases b with
  | true =>
   obtain ⟨n,o,h1,h2⟩:=iB h a ha hn; refine ⟨n+1,o,?_,h2⟩; show (match a.eval c with | .bool b=>(Du P L n).code ro fn (cond b x y) a W | _=>none)=_; rw [hc]; exact h1
  | false =>
   obtain ⟨n,o,h1,h2⟩:=iC h a ha hn; refine ⟨n+1,o,?_,h2⟩; show (match a.eval c with | .bool b=>(Du P L n).code ro fn (cond b x y) a W | _=>none)=_; rw [hc]; exact h1
 | block id b ih =>
  intro e ds W K h a ha hn; obtain ⟨n,⟨x1,a1,W1⟩,h1,e1,h2,h3,h4⟩:=ih h a ha hn
  have key:∀ {r:Exit × AK × CW} {f:Exit × AK × CW→L8},(∀ e a W,f (e,a,W)=match e with
    | .exit To=>cond (Nat.beq To id) (some [(.normal,a,W)]) (some [(.exit To,a,W)])
    | e=>some [(e,a,W)])→f (x1,a1,W1)=some [r]→(Du P L (n+1)).code ro fn (.block id b) a W=some [r]:=by
   intro r f hf hr
   show (C7 ((Du P L n).code ro fn b a W) fun (e,a,W)=>match e with
    | .exit To=>cond (Nat.beq To id) (some [(.normal,a,W)]) (some [(.exit To,a,W)])
    | e=>some [(e,a,W)])=_
   rw [h1]; refine F8 ?_; rw [←hr,hf]
  cases x1 with
  | exit To =>
   cases hq:Nat.beq To id with
   | true =>
    simp only [CL,hq,cond_true] at h4
    exact ⟨n+1,(.normal,a1,W1),key (f:=fun (e,a,W)=>match e with
     | .exit To=>cond (Nat.beq To id) (some [(.normal,a,W)]) (some [(.exit To,a,W)])
     | e=>some [(e,a,W)]) (fun e a W=>by cases e <;> rfl) (by simp only [hq,cond_true]),e1,h2,h3,h4⟩
   | false =>
    simp only [CL,hq,cond_false] at h4
    exact ⟨n+1,(.exit To,a1,W1),key (f:=fun (e,a,W)=>match e with
     | .exit To=>cond (Nat.beq To id) (some [(.normal,a,W)]) (some [(.exit To,a,W)])
     | e=>some [(e,a,W)]) (fun e a W=>by cases e <;> rfl) (by simp only [hq,cond_false]),e1,h2,h3,h4⟩
  | _=>exact ⟨n+1,_,key (f:=fun (e,a,W)=>match e with
     | .exit To=>cond (Nat.beq To id) (some [(.normal,a,W)]) (some [(.exit To,a,W)])
     | e=>some [(e,a,W)]) (fun e a W=>by cases e <;> rfl) rfl,e1,h2,h3,h4⟩
 | scope b ih =>
  intro e ds W K h a ha hn; obtain ⟨n,o,h1,h2⟩:=ih h a ha hn; exact ⟨n+1,o,h1,h2⟩
 | _=>intro e ds W K h; exact h
theorem AD5 {ro:Option Nat} {fn:FuncId} {nt:Nat} {b:Code} {K:Exit→Env→List Deferred→CW→Prop} (Inv:Nat→Env→List Deferred→CW→Prop)
  (Og:∀ k e ds W,Inv k e ds W→Ft P L ro fn nt b e ds W fun x e' DC W'=>match x with
   | .normal=>∃ k',k'<k∧Inv k' e' DC W'
   | x=>K x e' DC W'):∀ k e ds W,Inv k e ds W→Fk P L ro fn nt (.loop b) e ds W K:=by
 intro k
 induction k using Nat.strongRecOn with
 | ind k ih =>
  intro e ds W hi a ha hn; obtain ⟨n,⟨x1,a1,W1⟩,h1,e1,h2,h3,h4⟩:=IZ (Og k e ds W hi) a ha hn
  cases x1 with
  | normal =>
   obtain ⟨k',hk,IT⟩:=h4; obtain ⟨m,o,h5,h6⟩:=ih k' hk e1 a1.defers W1 IT a1 h2 h3; refine ⟨max n m+1,o,?_,h6⟩; show IS ((Du P L (max n m)).code ro fn b a W) ((Du P L (max n m)).code ro fn (.loop b))=some [o]; rw [HX (Nat.le_max_left n m) h1]; exact F8 (HX (Nat.le_max_right n m) h5)
  | _ =>
   refine ⟨n+1,_,?_,e1,h2,h3,h4⟩; show IS ((Du P L n).code ro fn b a W) ((Du P L n).code ro fn (.loop b))=_; rw [h1]; exact F8 rfl
def Env.args (args:List Value):Env:=fun t=>match args[t]? with
 | some v=>v
 | none=>undef
theorem s7 (fn:Func) (args:List Value):AE (H' fn args) (Env.args args) []:=by
 refine ⟨fun t=>?_,rfl⟩; unfold H' AK.at Env.args; simp only [Tr.KH,Nat.zero_le,true_and,Nat.zero_add,Nat.sub_zero,Tr.get_nil]
 by_cases h:t<args.length
 ·rw [if_pos h,List.getElem?_eq_getElem h]; rfl
 ·rw [if_neg h,List.getElem?_eq_none (by omega)]; rfl
def s8 (P:Program) (r:ResultVar) (e:Env) (W:CW):Option Value:=match r with
 | .tmp t=>some (e t)
 | .cell s ty=>match e s with
  | .pointer (some p)=>LI P ty p W
  | _=>none
def Mg (P:Program):List ResultVar→Env→CW→Option (List Value)
 | [],_,_=>some []
 | r::rs,e,W=>match s8 P r e W with
  | some v=>match Mg P rs e W with
   | some vs=>some (v::vs)
   | none=>none
  | none=>none
def FR (P:Program) (rs:List ResultVar) (e:Env) (W:CW):Option Value:=match Mg P rs e W with
 | some [v]=>some v
 | some vs=>some (.tuple vs.toArray)
 | none=>none
theorem get_at {a:AK} {e:Env} {ds:List Deferred} (h:AE a e ds) (t:Tmp):(match a.t.get t with | some v=>v | none=>undef)=e t:=by
 rw [←h.1 t]; unfold AK.at
 cases a.t.get t <;> rfl
theorem xD {a:AK} {e:Env} {ds:List Deferred} (h:AE a e ds) {t:Tmp} {p:Addr} (hp:e t=.pointer (some p)):a.t.get t=some (.pointer (some p)):=by
 have:=h.1 t; rw [hp] at this; unfold AK.at at this
 cases hg:a.t.get t with
 | none=>rw [hg] at this; cases this
 | some v=>rw [hg] at this; exact congrArg some this
theorem WX {a:AK} {e:Env} {ds:List Deferred} (ha:AE a e ds) {W:CW}:∀ {rs:List ResultVar} {vs:List Value},Mg P rs e W=some vs→rs.mapM (IJ P a W)=some vs
 | [],vs,h=>by simpa [Mg] using h
 | r::rs,vs,h=>by
  simp only [Mg] at h
  split at h
  ·rename_i v hv
   split at h
   ·rename_i vs' hvs
    cases h
    have h1:IJ P a W r=some v:=by
     unfold s8 at hv; unfold IJ
     split at hv
     ·rename_i t; show some (match a.t.get t with | some v=>v | none=>undef)=some v; rw [get_at ha]; exact hv
     ·rename_i s ty
      split at hv
      ·rename_i p hp; show (match a.t.get s with | some (.pointer (some p))=>LI P ty p W | _=>none)=some v; rw [xD ha hp]; exact hv
      ·cases hv
    simp only [List.mapM_cons,h1,WX ha hvs]; rfl
   ·cases h
  ·cases h
theorem jF {fn:Func} {a:AK} {e:Env} {ds:List Deferred} (ha:AE a e ds) {W:CW} {v:Value} (h:FR P fn.results.toList e W=some v):Gg P fn a W=some v:=by
 unfold FR at h; unfold Gg
 cases hr:Mg P fn.results.toList e W with
 | none=>rw [hr] at h; cases h
 | some vs =>
  rw [hr] at h; rw [WX ha hr]
  match vs,h with
  | [],h=>exact h
  | [v],h=>exact h
  | _::_::_,h=>exact h
def AJ (P:Program) (fn:Func) (Q:Ending→CW→Prop) (x:Exit) (e:Env):List Deferred→CW→Prop
 | [],W=>match x with
  | .normal=>wV (FR P fn.results.toList e W) fun v=>Q (.returned v) W
  | .ret=>wV (FR P fn.results.toList e W) fun v=>Q (.returned v) W
  | .panic ch=>Q (.panicked ch) W
  | _=>False
 | d::ds,W=>match d.target with
  | .collected r=>W.obj r=some .deferred∧AJ P fn Q x e ds (W.BB r .dead)
  | _=>False
def behind (P:Program) (R:C6) (fn:Func) (x:Exit) (a:AK) (W:CW):Ends:=match x with
 | .normal=>leaves P R fn a a.defers .returning W
 | .ret=>leaves P R fn a a.defers .returning W
 | .panic ch=>cond a.P' (Gy a.defers ch W) (leaves P R fn a a.defers (.panicking ch) W)
 | _=>none
theorem WY {fn:Func} {e:Env} {Q:Ending→CW→Prop} {ch:List PanicEntry}:∀ (ds:List Deferred) (W:CW),AJ P fn Q (.panic ch) e ds W→∃ o:Ending × CW,Gy ds ch W=some [o]∧Q o.1 o.2
 | [],W,h=>⟨(.panicked ch,W),rfl,h⟩
 | d::ds,W,h=>by
  obtain ⟨tg,AG8⟩:=d
  cases tg with
  | collected r =>
   obtain ⟨ho,h⟩:=h; obtain ⟨o,h1,h2⟩:=WY ds (W.BB r .dead) h; exact ⟨o,by simp only [Gy,ho]; exact h1,h2⟩
  | _=>exact h.elim
theorem SR {fn:Func} {a:AK} {e:Env} {Q:Ending→CW→Prop} {R:C6} (ha:AE a e a.defers) (x:Exit):∀ (ds:List Deferred) (W:CW),AJ P fn Q x e ds W→∃ o:Ending × CW,(match x with
  | .normal=>leaves P R fn a ds .returning W
  | .ret=>leaves P R fn a ds .returning W
  | .panic ch=>leaves P R fn a ds (.panicking ch) W
  | _=>none)=some [o]∧Q o.1 o.2
 | [],W,h=>by
  have fin:wV (FR P fn.results.toList e W) (fun v=>Q (.returned v) W)→∃ o:Ending × CW,leaves P R fn a [] .returning W=some [o]∧Q o.1 o.2:=by
   intro hw
   cases hv:FR P fn.results.toList e W with
   | none=>rw [hv] at hw; exact hw.elim
   | some v =>
    rw [hv] at hw; exact ⟨(.returned v,W),by simp only [leaves,jF ha hv],hw⟩
  cases x with
  | normal=>exact fin h
  | ret=>exact fin h
  | panic ch=>exact ⟨(.panicked ch,W),rfl,h⟩
  | exit id=>exact h.elim
  | goto id=>exact h.elim
  | outgrown=>exact h.elim
 | d::ds,W,h=>by
  obtain ⟨tg,AG8⟩:=d
  cases tg with
  | collected r =>
   obtain ⟨ho,h⟩:=h; obtain ⟨o,h1,h2⟩:=SR ha x ds (W.BB r .dead) h; refine ⟨o,?_,h2⟩
   cases x <;> first | (simp only [leaves,ho]; exact h1) | exact h1
  | _=>exact h.elim
theorem jG {f:FuncId} {fn:Func} {c:Code} {args:List Value} {W:CW} {Q:Ending→CW→Prop} (hL:CE L f=true) (s9:CE L (f+1000000)=false) (xE:CE L (f+2000000)=false) (hf:P.funcs[f]?=some fn) (hc:fn.body=some c)
  (hle:Nat.ble args.length fn.ntmps=true) (h:Ft P L none f fn.ntmps c (Env.args args) [] W (AJ P fn Q)):AX P L f args W Q:=by
 obtain ⟨n,⟨x,a,W1⟩,h1,e,h2,h3,h4⟩:=IZ h (H' fn args) (s7 fn args) rfl
 have key:∀ {o:Ending × CW},behind P (Du P L n) fn x a W1=some [o]→(Du P L (n+1)).call f args W=some [o]:=by
  intro o ho; rw [Jg]; simp only [DL,hL,s9,xE,hf,hc,hle,Bool.not_true,cond_false,cond_true,Bool.false_and]; rw [h1]; refine F8 ?_; rw [←ho]
  cases x <;> rfl
 simp only at h2 h4
 cases hb:a.P' with
 | false =>
  obtain ⟨o,e1,e2⟩:=SR (R:=Du P L n) h2 x a.defers W1 h4; exact ⟨n+1,o,key (by unfold behind; cases x <;> first | exact e1 | (simp only [hb,cond_false]; exact e1)),e2⟩
 | true =>
  cases x with
  | panic ch =>
   obtain ⟨o,e1,e2⟩:=WY a.defers W1 h4; exact ⟨n+1,o,key (by unfold behind; simp only [hb,cond_true]; exact e1),e2⟩
  | _ =>
   obtain ⟨o,e1,e2⟩:=SR (R:=Du P L n) h2 _ a.defers W1 h4; exact ⟨n+1,o,key (by unfold behind; exact e1),e2⟩
theorem AX.mono {f:FuncId} {args:List Value} {W:CW} {Q Q':Ending→CW→Prop} (h:AX P L f args W Q) (hq:∀ e W,Q e W→Q' e W):AX P L f args W Q':=by
 obtain ⟨n,o,h1,h2⟩:=h; exact ⟨n,o,h1,hq _ _ h2⟩
theorem MI.mono {l:Nat} {args:List Value} {W:CW} {Q Q':Ending→CW→Prop} (h:MI P L l args W Q) (hq:∀ e W,Q e W→Q' e W):MI P L l args W Q':=by
 obtain ⟨n,o,h1,h2⟩:=h; exact ⟨n,o,h1,hq _ _ h2⟩
theorem T_ {f:FuncId} {W:CW} (hL:CE L f=true) (xE:CE L (f+2000000)=true) {Q:Ending→CW→Prop} (h:Q (.returned (.bool true)) W):AX P L f [] W Q:=by
 refine ⟨1,(.returned (.bool true),W),?_,h⟩; rw [Jg]; simp only [DL,hL,xE,Bool.not_true,cond_false,List.isEmpty_nil,Bool.and_self,cond_true]
end
end Go.Ce
namespace Go.Ce
open Go.RowKit (Below)
def Tr.Hx {α:Type} (t:Tr α):List (Nat × α)→Tr α
 | []=>t
 | p::ps=>(t.set p.1 p.2).Hx ps
def Tr.of {α:Type} (l:List (Nat × α)):Tr α:=Tr.nil.Hx l
def CW.Hx (W:CW) (l:List (Nat × Az)) (n:Nat):CW:=⟨W.h.Hx l,n⟩
def NM (l:List (Nat × Value)) (n:Nat):AK:=⟨Tr.of l,n,[]⟩
def steps:Code→List Code
 | .seq x y=>steps x++steps y
 | c=>[c]
def On:Code→Nat
 | .seq x y=>On x+On y+1
 | _=>0
def Jh (P:Program) (f:FuncId):Code:=match P.funcs[f]? with
 | some fn=>match fn.body with
  | some c=>c
  | none=>.skip
 | none=>.skip
def Dk (P:Program) (f:FuncId):List Code:=steps (Jh P f)
def Bq (R:C6) (ro:Option Nat) (fn:FuncId):List Code→AK→CW→L8
 | [],a,W=>some [(.normal,a,W)]
 | c::cs,a,W=>IS (R.code ro fn c a W) (Bq R ro fn cs)
def F9:Code→List (Code × Code)
 | .seq x y=>F9 x++F9 y
 | .cond _ x y=>F9 x++F9 y
 | .block _ b=>F9 b
 | .scope b=>F9 b
 | .loop b=>F9 b
 | .rangeFunc _ _ a b=>(a,b)::(F9 a++F9 b)
 | _=>[]
def AM (P:Program) (f:FuncId) (k:Nat):Code:=match (F9 (Jh P f))[k]? with
 | some p=>p.1
 | none=>.skip
def AN (P:Program) (f:FuncId) (k:Nat):Code:=match (F9 (Jh P f))[k]? with
 | some p=>p.2
 | none=>.skip
section
variable {P:Program} {L:List FuncId}
theorem QX {α β:Type} (f:α→Option (List β)):∀ (l m:List α),Fp f (l++m)=(Fp f l).bind fun x=>(Fp f m).bind fun y=>some (x++y)
 | [],m=>by cases h:Fp f m <;> simp [Fp,h]
 | x::l,m=>by
  simp only [List.cons_append,Fp,QX f l m]
  cases f x <;> simp
  cases Fp f l <;> simp
  cases Fp f m <;> simp
theorem fC {α β γ:Type} (o:Option (List α)) (f:α→Option (List β)) (g:β→Option (List γ)):C7 (C7 o f) g=C7 o fun x=>C7 (f x) g:=by
 cases o with
 | none=>rfl
 | some l =>
  simp only [C7]
  induction l with
  | nil=>rfl
  | cons x l ih =>
   simp only [Fp]
   cases hx:f x with
   | none=>rfl
   | some y =>
    simp only
    cases hl:Fp f l with
    | none =>
     rw [hl] at ih; simp only at ih ⊢
     cases Fp g y with
     | none=>rfl
     | some z=>simp only [←ih]
    | some m =>
     rw [hl] at ih; simp only at ih ⊢; rw [QX,←ih]
     cases Fp g y <;> simp
     cases Fp g m <;> simp
theorem jH {α:Type} (o:Option (List α)):C7 o (fun x=>some [x])=o:=by
 cases o with
 | none=>rfl
 | some l =>
  simp only [C7]
  induction l with
  | nil=>rfl
  | cons x l ih=>simp [Fp,ih]
theorem jI (o:L8) (f g:AK→CW→L8):IS (IS o f) g=IS o fun a W=>IS (f a W) g:=by
 unfold IS; rw [fC]; congr 1; funext ⟨e,a,W⟩
 cases e <;> rfl
theorem oY (o:L8):IS o (fun a W=>some [(.normal,a,W)])=o:=by
 unfold IS
 have:(fun (x:Exit × AK × CW)=>match x with
  | (e,a,W)=>match e with
   | .normal=>some [(Exit.normal,a,W)]
   | e=>some [(e,a,W)])=fun x=>some [x]:=by
  funext ⟨e,a,W⟩
  cases e <;> rfl
 exact (congrArg (C7 o) this).trans (jH o)
theorem Ji {R:C6} {ro:Option Nat} {fn:FuncId}:∀ (xs ys:List Code) (a:AK) (W:CW),Bq R ro fn (xs++ys) a W=IS (Bq R ro fn xs a W) (Bq R ro fn ys)
 | [],ys,a,W=>by
  simp only [List.nil_append,Bq,IS]; unfold C7; simp [Fp]
  cases Bq R ro fn ys a W <;> simp
 | x::xs,ys,a,W=>by
  simp only [List.cons_append,Bq]; rw [jI]; congr 1; funext a W; exact Ji xs ys a W
theorem SU {n m:Nat} (h:n≤m) {ro:Option Nat} {fn:FuncId}:∀ {cs:List Code} {a:AK} {W:CW} {o:List (Exit × AK × CW)},Bq (Du P L n) ro fn cs a W=some o→Bq (Du P L m) ro fn cs a W=some o
 | [],a,W,o,e=>e
 | c::cs,a,W,o,e=>by
  simp only [Bq] at e ⊢; exact LR (.refl (C6.base fun _ _=>false)) (fun l hl=>HX h hl) (fun a W r hr=>SU h hr) e
theorem oZ:∀ (c:Code) {n:Nat} {ro:Option Nat} {fn:FuncId} {a:AK} {W:CW} {o:List (Exit × AK × CW)},Bq (Du P L n) ro fn (steps c) a W=some o→(Du P L (n+On c)).code ro fn c a W=some o:=by
 intro c
 induction c with
 | seq x y iB iC =>
  intro n ro fn a W o h; simp only [steps] at h; rw [Ji] at h; show (Du P L (n+(On x+On y)+1)).code ro fn (.seq x y) a W=some o; show IS ((Du P L (n+(On x+On y))).code ro fn x a W) ((Du P L (n+(On x+On y))).code ro fn y)=some o; exact LR (.refl (C6.base fun _ _=>false)) (fun l hl=>HX (by omega) (iB hl)) (fun a W r hr=>HX (by omega) (iC hr)) h
 | _ =>
  intro n ro fn a W o h; simp only [steps,Bq] at h; rw [←h]; exact (oY _).symm
theorem xF (n:Nat):(gq P L n).Le (Du P L n):=mY (fun {u v} h=>by rw [HG 8 u v h]; exact @decide_eq_true _ (Classical.propDecidable _) rfl) n
theorem jJ {n:Nat} {ro:Option Nat} {fn:FuncId}:∀ {cs:List Code} {a:AK} {W:CW} {o:List (Exit × AK × CW)},Bq (gq P L n) ro fn cs a W=some o→Bq (Du P L n) ro fn cs a W=some o
 | [],a,W,o,e=>e
 | c::cs,a,W,o,e=>by
  simp only [Bq] at e ⊢; exact LR (.refl (C6.base fun _ _=>false)) (fun l hl=>(xF n).code hl) (fun a W r hr=>jJ hr) e
def Jj (P:Program) (L:List FuncId) (f:FuncId) (i:Nat) (a:AK) (W:CW) (x:Exit) (a':AK) (W':CW):Prop:=∃ n,Bq (Du P L n) none f ((Dk P f).drop i) a W=some [(x,a',W')]
theorem Jj.wF {f:FuncId} {i:Nat} (j n:Nat) {a a1 a2:AK} {W W1 W2:CW} {x:Exit} (h:Bq (gq P L n) none f (((Dk P f).drop i).take j) a W=some [(.normal,a1,W1)]) (hk:Jj P L f (i+j) a1 W1 x a2 W2):Jj P L f i a W x a2 W2:=by
 obtain ⟨m,hm⟩:=hk; refine ⟨max n m,?_⟩
 have e:(Dk P f).drop i=((Dk P f).drop i).take j++(Dk P f).drop (i+j):=by
  rw [←List.drop_drop,List.take_append_drop]
 rw [e,Ji,SU (Nat.le_max_left n m) (jJ h)]; show IS (some [(.normal,a1,W1)]) _=_; unfold IS; exact Dv _ _ (SU (Nat.le_max_right n m) hm)
theorem Jj.end {f:FuncId} {i:Nat} (n:Nat) {a a1:AK} {W W1:CW} {x:Exit} (h:Bq (gq P L n) none f ((Dk P f).drop i) a W=some [(x,a1,W1)]):Jj P L f i a W x a1 W1:=⟨n,jJ h⟩
theorem Jj.call {f:FuncId} {fn:Func} {a:AK} {W W1:CW} {v:Value} {args:List Value} (hL:CE L f=true) (s9:CE L (f+1000000)=false) (xE:CE L (f+2000000)=false) (hf:P.funcs[f]?=some fn) (hb:fn.body.isSome=true)
  (hle:Nat.ble args.length fn.ntmps=true) (h:Jj P L f 0 (H' fn args) W .ret a W1) (hd:a.defers=[]) (hv:Gg P fn a W1=some v):∃ n,(Du P L n).call f args W=some [(.returned v,W1)]:=by
 obtain ⟨n,h⟩:=h
 cases hc:fn.body with
 | none=>rw [hc] at hb; cases hb
 | some c =>
  have hbo:Jh P f=c:=by unfold Jh; rw [hf]; simp only [hc]
  rw [List.drop_zero] at h; unfold Dk at h; rw [hbo] at h; have h1:=oZ c h; refine ⟨n+On c+1,?_⟩; rw [Jg]; simp only [DL,hL,s9,xE,hf,hc,hle,Bool.not_true,cond_false,cond_true,Bool.false_and]; rw [h1]; refine Dv _ _ ?_; show leaves P _ fn a a.defers .returning W1=_; rw [hd]; simp only [leaves,hv]
theorem bM (hz:ZP P) (QS:P.follows .mixedOrders=true) (bB:EN P) (Y4:CK P L) {f:FuncId} {n:Nat} (h:Nu ((Du P L n).call f [] (W0 0))=true) (w:World) (k:Nat) :
  CallsIn (F0 P) k P f #[] w (fun e w'=>e=.returned (.bool true)∧Below w.heap.size w w'):=by
 have hw:AZ P w (fun _=>none) (W0 0) w:=⟨(fun i x hx=>by cases hx),(fun i o ho=>by cases ho),(fun i o x ho=>by cases ho),(fun i j o u x y ho=>by cases ho),Below.zE w⟩
 cases ho:(Du P L n).call f [] (W0 0) with
 | none=>rw [ho] at h; cases h
 | some outs =>
  rw [ho] at h; obtain ⟨_,hc⟩:=(mZ (w0:=w) hz QS bB Y4 n).call ho (args':=#[]) (.nil _) hw; refine (hc k).mono fun e w' hE=>?_; obtain ⟨e0,W2,ρ2,hm,_,hN,GY⟩:=hE; have:=List.all_eq_true.1 h _ hm; simp only at this
  cases hN with
  | returned hv =>
   split at this
   ·rename_i heq
    cases heq
    cases hv
    exact ⟨rfl,GY.below⟩
   ·cases this
  | panicked _=>cases this
end
end Go.Ce
namespace Go.Ce
def Env.of (b:Env):List (Nat × Value)→Env
 | []=>b
 | p::l=>fun t=>cond (Nat.beq t p.1) p.2 (Env.of b l t)
theorem AI (b:Env) (d:Nat) (v:Value) (l:List (Nat × Value)) (t:Nat):Env.of b ((d,v)::l) t=if t=d then v else Env.of b l t:=by
 simp only [Env.of,cond_eq_ite,Nat.beq_eq]
theorem AQ (b:Env) (t:Nat):Env.of b [] t=b t:=rfl
def IN:Code→List Code
 | .seq x y=>IN x++IN y
 | .cond _ x y=>IN x++IN y
 | .block _ b=>IN b
 | .scope b=>IN b
 | .loop b=>b::IN b
 | .rangeFunc _ _ a b=>IN a++IN b
 | _=>[]
def ES (P:Program) (f:FuncId) (k:Nat):Code:=match (IN (Jh P f))[k]? with
 | some c=>c
 | none=>.skip
def zH (W:CW):Option (Value × CW):=some (.map (some W.sz),W.new (.map [] 0))
section
variable {P:Program} {L:List FuncId}
theorem s_ {f:FuncId} {fn:Func} {args:List Value} {W:CW} {Q:Ending→CW→Prop} (hf:P.funcs[f]?=some fn) (hb:fn.body.isSome=true) (hL:CE L f=true) (s9:CE L (f+1000000)=false) (xE:CE L (f+2000000)=false)
  (hle:Nat.ble args.length fn.ntmps=true) (h:Ft P L none f fn.ntmps (Jh P f) (Env.args args) [] W (AJ P fn Q)):AX P L f args W Q:=by
 cases hc:fn.body with
 | none=>rw [hc] at hb; cases hb
 | some c =>
  have hbo:Jh P f=c:=by unfold Jh; rw [hf]; simp only [hc]
  rw [hbo] at h; exact jG hL s9 xE hf hc hle h
end
end Go.Ce
namespace Go.Ce
def Br:List FuncId:=[16+2000000]++([1500072,1500074,1500121]++(List.range 162).filter fun f=>Nat.ble 3 f && !Nat.beq f 7)
end Go.Ce
namespace Go.Ce
open Go Go.Proofs Go.Proofs.Tryz
theorem Eo (f:FuncId) (nt:Nat) (vs:List Value) (fn:Func) (Q:Ending→CW→Prop) (W:CW) (hf:prog.funcs[f]?=some fn) (hc:(fn.body.isSome && (CE Br f && (!CE Br (f+1000000) && (!CE Br (f+2000000) && (Nat.ble vs.length fn.ntmps && Nat.beq fn.ntmps nt)))))=true) (h:Ft prog Br none f nt (Jh prog f) (Env.args vs) [] W (AJ prog fn Q)):AX prog Br f vs W Q:=by
 simp only [Bool.and_eq_true,Bool.not_eq_true',Nat.beq_eq] at hc; obtain ⟨a,b,c,d,g,rfl⟩:=hc; exact s_ hf a b c d g h
@[simp] noncomputable def eC (n:Nat) (v:Value) (l:List (Nat × Value)):List (Nat × Value):=(n,v)::l
@[simp] noncomputable def EC x0 x1 x2 x3 x4:=eC x0 x1 (eC x2 x3 x4)
@[simp] noncomputable def zz1 x0 x1 x2 x3 x4:=EC x0 x1 x2 (.bool x3) x4
@[simp] noncomputable def bN x0 x1 x2 x3 x4 x5 x6 x7 x8:=zz1 x0 x1 x2 x3 (zz1 x4 x5 x6 x7 x8)
@[simp] noncomputable def zz3 (x0:AB) x1 x2 x3 x4 x5:=x0 x1 (Env.of x2 x3) x4 x5
@[simp] noncomputable def Bh x0 x1 x2 x3 x4 x5 x6 x7 x8:=EC x0 x1 x2 x3 (EC x4 x5 x6 x7 x8)
@[simp] noncomputable def UA x0 x1 x2 x3 x4:=zz3 x0 .normal x1 x2 x3 x4
@[simp] noncomputable def WZ x0 x1 x2 x3 x4 x5 x6 x7:=bN x0 x1 x2 x3 x4 x5 x6 x3 x7
@[simp] noncomputable def zz8 x0 x1 x2 x3 x4 x5 x6:=WZ x0 x1 x2 x3 x4 x5 x2 x6
@[simp] noncomputable def zz9 x0 x1 x2:=ld prog x0 x1 x2
@[simp] noncomputable def Jk x0:=Value.int .i64 x0
@[simp] noncomputable def BI x0 x1 x2 x3:=wV (zz9 x0 x1 x2) x3
@[simp] noncomputable def Mq x0 x1 x2 x3:=zz9 x0 x1 x2=some x3
@[simp] noncomputable def UY x0 x1 x2 x3 x4 x5:=wV (D6 prog x0 x1 x2 x3 x4) x5
@[simp] noncomputable def Es x0 x1 x2:=x0∧x1∧x2
@[simp] noncomputable def CM x0 x1 x2 x3 x4 x5:=zz3 x0 (.panic x1) x2 x3 x4 x5
@[simp] noncomputable def jK x0 x1 x2 x3 x4 x5:=zz8 x0 x1 x2 x3 x4 x1 x5
@[simp] noncomputable def AD6 x0 x1 x2 x3 x4:=jK x0 undef x1 x2 x3 x4
@[simp] noncomputable def AD7 x0 x1 x2:=eC x0 (.bool x1) x2
@[simp] noncomputable def AD8 x0 x1 x2 x3 x4:=wV (ew x0 x1 x2 x3) x4
@[simp] noncomputable def AD9 (x0:Ending→CW→Prop) x1 x2:=x0 (.returned x1) x2
@[simp] noncomputable def DO x0 x1 x2 x3 x4 x5 x6:=eC x0 x1 (EC x2 x3 x4 x5 x6)
@[simp] noncomputable def Dl x0 x1 x2 x3 x4 (x5:Env) x6 x7 x8 x9:=Bh x0 x1 x2 x3 x4 (x5 x6) x7 x8 x9
@[simp] noncomputable def AD' x0 x1 (x2:Env) x3 x4 x5:=AD8 x0 x1 (x2 x3) x4 x5
@[simp] noncomputable def G_ x0 x1 x2 x3 x4:=zz3 x0 .ret x1 x2 x3 x4
@[simp] noncomputable def tB x0 x1 x2 x3 x4:=UY x0 x1 true x2 (Jk x3) x4
@[simp] noncomputable def K9 x0 x1 x2 x3:=AD6 x0 x1 true x2 x3
@[simp] noncomputable def JH x0 x1 x2 x3:=wV (R' prog x0 x1 x2) x3
@[simp] noncomputable def Ia x0 x1 x2 x3:=AD6 x0 x1 false x2 x3
@[simp] noncomputable def Jl x0 x1 x2 x3 x4 x5 x6 x7 x8:=Bh x0 x1 x2 x3 x4 (.bool x5) x6 x7 x8
@[simp] noncomputable def BS (x0:Env):=x0 0
@[simp] noncomputable def NN x0 x1 (x2:Env) x3 x4 x5:=tB x0 x1 (x2 x3) x4 x5
@[simp] noncomputable def GZ x0 x1:=Es x0 True x1
@[simp] noncomputable def jL x0 x1 x2 x3 x4 x5 x6 x7:=Ft prog Br x0 x1 x2 x3 x4 x5 x6 x7
@[simp] noncomputable def fD x0 x1 x2 x3 x4:=AX prog Br x0 x1 x2 (DQ x3 x4)
@[simp] noncomputable def UZ x0 x1 x2 x3 x4:=UY x0 x1 false x2 x3 x4
@[simp] noncomputable def QY x0 x1:=Env.args [x0,x1]
@[simp] noncomputable def oa x0 x1 x2:=wV (ext x0 x1) x2
@[simp] noncomputable def tC x0 x1 x2 x3 x4 x5:=zz3 x0 (.exit x1) x2 x3 x4 x5
@[simp] noncomputable def BJ x0 x1 x2 x3 x4 x5:=zz8 x0 x1 x2 false x3 x4 x5
@[simp] noncomputable def Yb x0 x1 (x2:Env) x3 x4 x5:=UZ x0 x1 (x2 x3) x4 x5
@[simp] noncomputable def E6 x0 x1 x2:=Env.args [x0,x1,x2]
@[simp] noncomputable def AD_ x0 x1:=ES prog x0 x1
@[simp] noncomputable def SV x0 x1 x2 x3 x4 x5:=GZ x0 (UA x1 x2 x3 x4 x5)
@[simp] noncomputable def Bo x0 x1 x2 x3 x4 x5:=zz8 x0 x1 x2 true x3 x4 x5
@[simp] noncomputable def AEA x0 x1 x2 x3:=CW.new x0 (.cells .nil x1 x2 x3)
@[simp] noncomputable def QZ x0 x1 x2 x3 x4 x5:=Es x0 (Mq x1 x2 x3 x4) x5
@[simp] noncomputable def DD x0 x1 x2 x3:=wV (OI prog x0 x1 x2) x3
@[simp] noncomputable def CB x0 x1 x2 x3 x4 x5 x6:=wI x0 x1 (UA x2 x3 x4 x5 x6)
@[simp] noncomputable def Fy x0 (x1:Env) x2 x3 x4:=AD' prog x0 x1 x2 (x1 x3) x4
@[simp] noncomputable def Da x0 x1 x2 x3 x4 x5 x6 x7:=Bh x0 x1 x2 x3 x4 x5 x6 x5 x7
@[simp] noncomputable def Dw x0 x1 x2 x3 x4:=wV (Mf prog x0 x1 x2 x3) x4
@[simp] noncomputable def tD x0 x1 x2 x3 x4 x5 x6 x7 x8:=Jl x0 (.bool x1) x2 x3 x4 x5 x6 x7 x8
@[simp] noncomputable def AG9 (x0:AB) x1 x2 x3:=x0 .normal x1 x2 x3
@[simp] noncomputable def AAi x0 x1 x2 x3 x4:=x0∧Mq x1 x2 x3 x4
@[simp] noncomputable def Wg x0 x1 x2 x3 x4 x5 x6:=UY x0 x1 x2 x3 (.int x4 x5) x6
@[simp] noncomputable def oc x0 x1 x2 x3 x4 (x5:Env) x6 x7:=DO x0 x1 x2 x3 x4 (x5 x6) x7
@[simp] noncomputable def Hy x0 x1 x2 x3:=zz1 x0 x1 x2 false x3
@[simp] noncomputable def SX x0 x1 x2 x3 x4 x5 x6:=WZ x0 (.bool x1) x2 x1 x3 x4 x5 x6
@[simp] noncomputable def J9 x0 (x1:Env) x2 x3 x4:=JH x0 (x1 x2) x3 x4
@[simp] noncomputable def AI4 x0 (x1:Env) x2 x3:=AD9 x0 (x1 x2) x3
@[simp] noncomputable def DZ x0 x1 x2 x3 x4 x5:=fD x0 [x1,x2] x3 x4 x5
@[simp] noncomputable def Wh x0 x1 x2 x3 x4 x5 x6:=wI x0 (G_ x1 x2 x3 x4 x5) x6
@[simp] noncomputable def Db x0 x1 x2 x3:=EC x0 x1 x2 x1 x3
@[simp] noncomputable def Gk x0 x1 x2 x3:=zz1 x0 x1 x2 true x3
@[simp] noncomputable def D1 x0 x1:=wV (ngt x0) x1
@[simp] noncomputable def PH x0 x1 x2 x3 x4:=jL none x0 x1 (Jh prog x0) x2 [] x3 x4
@[simp] noncomputable def A5:=Jk 0
@[simp] noncomputable def Wi x0 x1 x2 x3 x4:=EC x0 (.bool x1) x2 x3 x4
@[simp] noncomputable def ON x0 x1 x2 x3 x4 x5 x6 x7:=wI x0 x1 (tC x2 x3 x4 x5 x6 x7)
@[simp] noncomputable def HY x0 x1 x2 x3:=tB x0 3 x1 x2 x3
@[simp] noncomputable def Qy x0 x1:=AD7 x0 true x1
@[simp] noncomputable def Ib x0 x1 x2 x3 x4:=CM x0 x1 x2 x3 [] x4
@[simp] noncomputable def AEB x0 x1 x2 x3:=AJ prog x0 x1 .ret x2 [] x3
@[simp] noncomputable def Dg x0:=Env.args [x0]
@[simp] noncomputable def Wk x0 x1 x2:=AW x0 (CL x1 x2)
@[simp] noncomputable def KQ x0 x1:=Es x0 x1 True
@[simp] noncomputable def DF x0 x1 x2:=HY .gtr x0 x1 x2
@[simp] noncomputable def BO x0 x1 x2 x3 x4 x5 x6 x7:=Bh x0 x1 x2 x3 x4 x5 x6 x7 []
@[simp] noncomputable def NO x0 x1 x2 x3 x4 x5 x6:=Da x0 x1 x2 x3 x4 x3 x5 x6
@[simp] noncomputable def EJ x0 (x1:Env) x2 x3 x4:=BI x0 (x1 x2) x3 x4
@[simp] noncomputable def A_ x0 x1 x2 x3 x4 x5:=K9 x0 x1 x2 (K9 x3 x1 x4 x5)
@[simp] noncomputable def LS x0 x1 x2 x3:=Fy 40 x0 x1 x2 x3
@[simp] noncomputable def KR x0 x1 x2 x3:=AAi True x0 x1 x2 x3
@[simp] noncomputable def mh x0 x1 x2 x3 x4 x5 x6 x7 x8:=SX x0 false x1 x2 x3 x4 (Ia x5 x6 x7 x8)
@[simp] noncomputable def zI x0 x1 x2 x3 x4:=(Mq x0 x1 x2 x3)∧x4
@[simp] noncomputable def Aj x0 x1 x2:=BI 3 x0 x1 x2
@[simp] noncomputable def UB x0 x1 x2 x3 x4 x5 x6:=wI x0 (UA x1 x2 x3 x4 x5) x6
@[simp] noncomputable def BG x0 x1 x2 x3 x4 x5 x6:=mh x0 x1 x2 undef x3 x4 x3 x5 x6
@[simp] noncomputable def tE x0 x1 x2 x3 x4 x5 x6 x7 x8:=Fk prog Br x0 x1 x2 (.loop (AD_ x1 x3)) x4 x5 x6 (CL x7 x8)
@[simp] noncomputable def Gl x0 x1 x2 x3 x4 x5 x6 x7 x8 x9:=tE x0 x1 x2 x3 (Env.of x4 x5) x6 x7 x8 x9
@[simp] noncomputable def Bs:=Value.bool true
@[simp] noncomputable def Ix x0 x1 x2 x3 x4 x5:=NO x0 x1 x2 undef x3 x4 x5
@[simp] noncomputable def Bb x0 x1 x2:=BI 40 x0 x1 x2
@[simp] noncomputable def Fu x0 x1 x2 x3 x4 x5 x6 x7:=jL x0 x1 x2 (AD_ x1 x3) x4 x5 x6 x7
@[simp] noncomputable def Dh x0 x1 x2 x3 x4 x5 x6:=UA x0 x1 (eC x2 x3 x4) x5 x6
@[simp] noncomputable def EU x0 x1:=AD7 x0 false x1
@[simp] noncomputable def F' x0 x1 x2 x3 x4:=Env.args [x0,x1,x2,x3,x4]
@[simp] noncomputable def Oo x0 x1 x2 x3 x4 x5 x6:=oc x0 x1 x2 x3 x4 x5 x6 []
@[simp] noncomputable def Ic x0 x1 x2 x3 x4 x5 x6:=fD x0 [x1,x2,x3] x4 x5 x6
@[simp] noncomputable def zJ x0 x1 x2:=AD9 x0 (.tuple x1) x2
@[simp] noncomputable def NP x0 (x1:Env) x2 x3 x4 x5 x6:=Bo x0 (x1 x2) x3 x4 x5 x6
@[simp] noncomputable def Dp x0 x1 x2 x3 x4 x5:=PH x0 x1 (QY x2 x3) x4 x5
@[simp] noncomputable def BQ x0 x1 x2 x3 x4 x5 x6 x7 x8:=Dl x0 x1 x2 x3 x4 x5 x6 x7 (BS x5) x8
@[simp] noncomputable def mi x0 x1 x2 x3 x4 x5 x6:=Gk x0 x1 x2 (K9 x3 x4 x5 x6)
@[simp] noncomputable def EV x0 x1:=wV (nck x0) x1
@[simp] noncomputable def NQ x0 x1 x2 (x3:Env) x4 x5:=EC x0 x1 x2 (x3 x4) x5
@[simp] noncomputable def NR x0 x1 x2 x3 x4 x5 x6 x7 x8:=Dl x0 x1 x2 x3 x4 x5 x6 x7 x8 []
@[simp] noncomputable def D8 x0 x1 x2 x3 x4 x5 x6 x7:=UA x0 x1 (Db x2 x3 x4 x5) x6 x7
@[simp] noncomputable def NS x0 x1 x2 x3:=GZ True (Mq x0 x1 x2 x3)
@[simp] noncomputable def BE (x0:Env):=x0 1
@[simp] noncomputable def UC x0 x1 x2 x3 x4:=KQ x0 (KR x1 x2 x3 x4)
@[simp] noncomputable def BA x0 x1 x2:=BI 9 x0 x1 x2
@[simp] noncomputable def CI x0 x1 x2:=Mw (zG prog x0 x1) x2
@[simp] noncomputable def zK x0 x1 x2 x3 x4:=QZ x0 x1 x2 x3 x4 True
@[simp] noncomputable def UD x0 x1 x2 x3 x4 x5 x6 x7:=wI x0 (SV x1 x2 x3 x4 x5 x6) x7
@[simp] noncomputable def tF x0 x1 (x2:Env) x3 x4 x5:=Yb x0 x1 x2 x3 (x2 x4) x5
@[simp] noncomputable def CO x0 x1 x2:=JH 48 x0 x1 x2
@[simp] noncomputable def CP x0 x1 x2:=DD 40 x0 x1 x2
@[simp] noncomputable def EW x0 x1 x2 x3 x4 x5 x6 x7:=UB x0 x1 x2 (Qy x3 x4) x5 x6 x7
@[simp] noncomputable def DX:=Value.bool false
@[simp] noncomputable def LU x0 x1 x2 x3 x4:=Ix x0 undef x1 x2 x3 x4
@[simp] noncomputable def Gm x0 x1 x2 x3:=Env.args [x0,x1,x2,x3]
@[simp] noncomputable def tG x0 x1 x2 x3 x4 x5:=Oo x0 x1 x2 x1 x3 x4 x5
@[simp] noncomputable def CC x0 x1 x2 x3 x4 x5:=Ia x0 x1 x2 (Ia x3 x1 x4 x5)
@[simp] noncomputable def Dq (x0:Env):=x0 11
@[simp] noncomputable def Mh x0 x1 x2 x3:=AD8 prog x0 x1 x2 x3
@[simp] noncomputable def F_ x0 x1:=eC x0 x1 []
@[simp] noncomputable def tH x0 x1 x2 x3:=NN .add 3 x0 x1 x2 x3
@[simp] noncomputable def Fv x0 x1 x2 x3 x4 x5:=Ib x0 x1 (QY x2 x3) x4 x5
@[simp] noncomputable def D2 (x0:Env):=x0 10
@[simp] noncomputable def Bc x0 x1 x2:=tH x0 x1 1 x2
@[simp] noncomputable def Bt (x0:Env):=x0 2
@[simp] noncomputable def Oq x0 x1 x2 x3 x4:=KQ x0 (NS x1 x2 x3 x4)
@[simp] noncomputable def Jm x0 x1 x2 x3:=G_ x0 x1 x2 [] x3
@[simp] noncomputable def Fw x0 x1 x2 x3 x4 x5 x6 x7:=SV x0 x1 x2 (eC x3 x4 x5) x6 x7
@[simp] noncomputable def GO x0 x1 x2 x3 x4:=PH x0 x1 (Dg x2) x3 x4
@[simp] noncomputable def CQ x0 x1 x2 x3 x4 x5 x6 x7:=UA x0 x1 (tG x2 x3 x4 x5 x1 x2) x6 x7
@[simp] noncomputable def DR x0 x1 x2 x3 x4:=fD x0 [x1] x2 x3 x4
@[simp] noncomputable def Iy x0 x1 x2 x3 x4:=AD' prog x0 x1 x2 x3 x4
@[simp] noncomputable def FT x0 x1 x2 x3:=zI x0 x1 x2 x3 True
@[simp] noncomputable def AEC (x0:Env) x1 x2 x3:=wI (x0 x1) x2 x3
@[simp] noncomputable def tI x0 x1 x2 x3 x4 x5 x6 x7:=tD x0 x1 x2 x3 x4 true x5 x6 x7
@[simp] noncomputable def Bx x0 x1 x2:=LS x0 0 x1 x2
@[simp] noncomputable def HK x0 x1 x2 x3:=DD x0 (BS x1) x2 x3
@[simp] noncomputable def DG x0 x1 x2 x3 x4 (x5:Env) x6 x7 x8:=NR x0 x1 x2 x3 x4 x5 x6 x7 (x5 x8)
@[simp] noncomputable def Y' x0 x1 x2 x3 x4:=Wg x0 x1 true x2 .u8 x3 x4
@[simp] noncomputable def HL x0 x1 x2 x3:=Y' .eql x0 x1 x2 x3
@[simp] noncomputable def H2 x0 x1 x2 x3:=OI prog x0 x1 x2=some x3
@[simp] noncomputable def zL x0 x1 x2 x3 x4 x5 x6:=tI x0 true x1 x2 x3 x4 x5 x6
@[simp] noncomputable def KT x0 x1 x2 x3 x4:=zL x0 x1 undef x2 x3 undef x4
@[simp] noncomputable def Dr x0 x1 x2:=JH 56 x0 x1 x2
@[simp] noncomputable def DS (x0:Env):=x0 5
@[simp] noncomputable def HM x0 x1 x2 x3 x4:=tF .lss x0 x1 x2 x3 x4
@[simp] noncomputable def Gn x0 x1 x2 x3 x4 x5 x6:=Ib x0 x1 (E6 x2 x3 x4) x5 x6
@[simp] noncomputable def DH (x0:Env):=x0 8
@[simp] noncomputable def GP x0 x1 x2 x3 x4 x5 x6 x7 x8:=UD x0 x1 x2 x3 (Qy x4 x5) x6 x7 x8
@[simp] noncomputable def HZ x0 x1 x2 x3:=UZ .neq x0 x1 x2 x3
@[simp] noncomputable def mj x0 x1 x2 x3 x4 x5 x6 x7 x8:=Gl x0 x1 x2 x3 x4 x5 x6 x7 x3 x8
@[simp] noncomputable def EY (x0:Env):=x0 6
@[simp] noncomputable def Gp x0 x1 x2 x3 x4 x5 x6 x7:=UC (KR x0 x1 x2 x3) x4 x5 x6 x7
@[simp] noncomputable def Ie x0:=AEA x0 2 #[.string ⟨#[]⟩,.slice none 0 0] 56
@[simp] noncomputable def CX x0 x1:=oa x0 0 x1
@[simp] noncomputable def CY x0 x1:=oa x0 1 x1
@[simp] noncomputable def HN x0 x1 x2 x3 x4 x5 x6 x7:=zK (Mq x0 x1 x2 x3) x4 x5 x6 x7
@[simp] noncomputable def D3 (x0:Env):=x0 7
@[simp] noncomputable def Gq x0 x1 x2 x3 x4 x5 x6 x7 x8 x9:=SX x0 x1 x2 x3 x4 x5 (K9 x6 x7 x8 x9)
@[simp] noncomputable def EZ x0 x1 x2:=Mh 40 x0 x1 x2
@[simp] noncomputable def AIt (x0:AB) x1 x2 x3:=x0 .ret x1 x2 x3
@[simp] noncomputable def Et x0 x1 x2:=JH 58 x0 x1 x2
@[simp] noncomputable def H3 x0 x1 x2 x3 x4 x5 x6:=PH x0 x1 (E6 x2 x3 x4) x5 x6
@[simp] noncomputable def Ot x0 x1 x2 x3 x4 x5 x6:=Env.args [x0,x1,x2,x3,x4,x5,x6]
@[simp] noncomputable def Hi x0 x1 x2 x3 x4 x5 x6 x7 x8:=Gk x0 x1 x2 (Bo x3 x4 x5 x6 x7 x8)
@[simp] noncomputable def EK x0 x1 x2 x3 x4:=mi x0 undef x1 x2 x1 x3 x4
@[simp] noncomputable def D9 x0 x1 x2 x3 x4 x5:=DO x0 x1 x2 x1 x3 x4 x5
@[simp] noncomputable def E_ x0 x1 x2 x3:=zK True x0 x1 x2 x3
@[simp] noncomputable def Iz x0 x1 x2 x3 x4:=(H2 x0 x1 x2 x3)∧x4
@[simp] noncomputable def AIu (x0:AB) x1 x2 x3 x4:=x0 (.exit x1) x2 x3 x4
@[simp] noncomputable def Ds x0 x1 x2 x3 x4 x5 x6 x7:=Hy x0 x1 x2 (BJ x3 x4 x2 x5 x6 x7)
@[simp] noncomputable def Ig x0 x1 x2 x3 x4 x5 x6:=Ic x0 (BS x1) x2 x3 x4 x5 x6
@[simp] noncomputable def Jn x0 x1 x2 x3:=UZ .eql x0 x1 x2 x3
@[simp] noncomputable def LV x0 x1 x2 x3 x4 x5:=Wh x0 x1 x2 x3 [] x4 x5
@[simp] noncomputable def Jo x0 x1 x2 x3 x4 x5:=Mw (rB x0 x1 x2 x3 x4) x5
@[simp] noncomputable def KU x0 x1 x2:=HY .sub x0 x1 x2
@[simp] noncomputable def Ee (x0:Env):=x0 9
@[simp] noncomputable def KW x0 x1 x2 x3 x4 x5 x6 x7:=fD x0 [x1,x2,x3,x4] x5 x6 x7
@[simp] noncomputable def GQ x0:=AEA x0 1 #[.pointer none] 89
@[simp] noncomputable def C9 x0 x1 x2 x3 x4 x5 x6:=Fu x0 x1 x2 0 x3 x4 x5 x6
@[simp] noncomputable def AIv (x0:Env) x1 x2 x3 x4 x5 x6 x7:=Wh (x0 x1) x2 x3 x4 x5 x6 x7
@[simp] noncomputable def GR x0 x1:=Wk x0 1 x1
@[simp] noncomputable def KX x0 x1 x2 x3 x4:=EU x0 (Hy x1 x2 x3 x4)
@[simp] noncomputable def I0 x0 x1 x2:=JH 100 x0 x1 x2
@[simp] noncomputable def GS x0 x1 x2 x3 x4 x5:=mj none x0 x1 0 x2 x3 [] x4 x5
@[simp] noncomputable def Jp x0 x1 x2 x3 x4 x5 x6:=GS x0 x1 (QY x2 x3) x4 x5 x6
@[simp] noncomputable def Gr x0 x1 x2:=Hy x0 x1 x2 []
@[simp] noncomputable def Jq x0 x1 x2 x3 x4 x5 x6:=LV x0 x1 (QY x2 x3) x4 x5 x6
@[simp] noncomputable def H4 (x0:Env):=x0 4
@[simp] noncomputable def Ef (x0:Env):=x0 3
@[simp] noncomputable def LW x0 x1 x2 x3:=wV (wE x0 x1 x2) x3
@[simp] noncomputable def I1 x0 x1 x2 x3:=J9 x0 x1 x2 1 x3
@[simp] noncomputable def KY x0 x1 x2 x3 x4 x5:=BJ x0 x1 x2 x3 (BS x4) x5
@[simp] noncomputable def KZ x0 x1 x2 x3 x4 x5:=DZ x0 (BS x1) x2 x3 x4 x5
@[simp] noncomputable def Mi x0 x1 x2:=HY .geq x0 x1 x2
@[simp] noncomputable def Mj x0 x1 x2:=HY .add x0 x1 x2
@[simp] noncomputable def Gs x0 x1 x2 x3:=Iy 40 x0 x1 x2 x3
@[simp] noncomputable def Wl x0 x1 x2 x3:=KT x0 x1 x0 x2 x3
@[simp] noncomputable def LX x0 x1 x2 x3 x4:=Jm x0 (QY x1 x2) x3 x4
@[simp] noncomputable def GU x0 x1 x2 x3 x4 x5:=wV (YB prog x0 x1 x2 x3 x4) x5
@[simp] noncomputable def D' x0 x1 x2 x3:=Dw 3 x0 x1 x2 x3
@[simp] noncomputable def Jr x0 x1 x2 x3 x4 x5 x6 x7 x8:=Bh x0 x1 x2 (BS x3) x4 x5 x6 x7 x8
@[simp] noncomputable def Js x0 x1 x2 x3 x4 x5 x6 x7 x8:=QZ x0 x1 x2 x3 x4 (Mq x5 x6 x7 x8)
@[simp] noncomputable def Eg x0 x1 x2:=BI 5 x0 x1 x2
@[simp] noncomputable def Ou x0:=CW.sz (GQ x0)
@[simp] noncomputable def FA x0 x1 x2 x3 x4 x5 x6 x7:=Bh x0 x1 x2 x1 x3 x4 x5 x6 x7
@[simp] noncomputable def NT x0 x1 x2:=HY .lss x0 x1 x2
@[simp] noncomputable def NU x0 x1 x2:=eC x0 (Jk x1) x2
@[simp] noncomputable def Km x0 x1 x2 x3 x4 x5 x6 x7:=wI x0 x1 (SV x2 x3 x4 x5 x6 x7)
@[simp] noncomputable def Kn x0 x1 x2 x3 x4 x5 x6 x7:=Oq (NS x0 x1 x2 x3) x4 x5 x6 x7
@[simp] noncomputable def GA x0 x1 x2 x3 x4 x5:=NP x0 x1 x2 x3 x4 (BS x1) x5
@[simp] noncomputable def Di x0 x1 x2 x3 x4 x5 x6:=ON x0 x1 x2 0 x3 x4 x5 x6
@[simp] noncomputable def Hj x0 x1 x2 x3:=Mw (bxw prog x0 x1 x2) x3
@[simp] noncomputable def Gt x0 x1 x2 x3 x4 x5:=DO x0 x1 x2 x3 x4 x5 []
@[simp] noncomputable def Hk x0 x1 x2 x3:=Fy 23 x0 x1 x2 x3
@[simp] noncomputable def AIw x0 x1 x2 x3:=zJ x0 #[x1,x2] x3
@[simp] noncomputable def Jt x0 x1 x2 x3 x4 x5 x6:=Mw (app x0 [x1,x2] x3 x4 x5) x6
@[simp] noncomputable def NV x0 x1 x2 x3:=tB .neq x0 x1 x2 x3
@[simp] noncomputable def NW x0 x1 x2 x3:=Jm x0 (Dg x1) x2 x3
@[simp] noncomputable def Qz x0 x1 x2 x3 x4:=NQ x0 x1 x2 x3 x4 []
@[simp] noncomputable def Ih x0 x1 x2:=I1 56 x0 x1 x2
@[simp] noncomputable def UE x0 x1 x2 x3 x4 x5 x6 x7 x8 x9:=BO x0 x1 x2 x3 x4 x5 x6 (.slice x7 x8 x9)
@[simp] noncomputable def I9 x0 x1 x2 x3:=Dw 78 x0 x1 x2 x3
@[simp] noncomputable def FB x0 x1 x2 x3:=UZ x0 3 x1 x2 x3
@[simp] noncomputable def FC x0 x1 x2:=NN .sub 3 x0 x1 1 x2
@[simp] noncomputable def fE x0 x1 x2 x3 x4:=Dw x0 (.pointer x1) x2 x3 x4
@[simp] noncomputable def AIx x0 x1:=F_ x0 (Jk x1)
@[simp] noncomputable def LY x0 x1 x2 x3:=Wi x0 false x1 x2 x3
@[simp] noncomputable def I_ x0 x1 x2 x3 x4 x5 x6 x7 x8:=LU x0 x1 x2 x3 (LU x4 x5 x6 x7 x8)
@[simp] noncomputable def Ko x0:=True∧x0
@[simp] noncomputable def Y_ x0 x1 x2 x3 x4 x5 x6:=AEC x0 x1 x2 (AG9 x3 x4 x5 x6)
@[simp] noncomputable def JA x0 x1 x2:=Wl 83 x0 x1 x2
@[simp] noncomputable def Kq x0:=Ie (Ie x0)
@[simp] noncomputable def H5 x0 x1 x2 x3 x4:=tF x0 3 x1 x2 x3 x4
@[simp] noncomputable def FU x0 x1 x2 x3:=Yb .lss 3 x0 x1 x2 x3
@[simp] noncomputable def Ov x0 x1 x2 x3:=Y' .neq x0 x1 x2 x3
@[simp] noncomputable def Ow x0 x1 x2 x3:=ez (.pointer (some x0)) x1 x2=x3
@[simp] noncomputable def Ox x0 x1 x2 x3:=H5 .add x0 x1 x2 x3
@[simp] noncomputable def NX x0 x1 x2 x3 x4 x5:=Es x0 (FT x1 x2 x3 x4) x5
end Go.Ce
namespace Go.Ce
open Go Go.Proofs Go.Proofs.Tryz
def G0 (ro:Option Nat) (K:AB):AB:=AW (fun e ds W=>K .ret e ds W) K
def G1 (ro:Option Nat) (K:AB):AB:=AW (fun a b c=>fD 16 [] c (fun c d=>let f:=NQ 177 (a 37) 176 a 37 (Gk 175 (a 37) 174 (Db 174 c 173 [])); CB c (CB (a 37) (H5 .eql a 15 17 fun c=>let f:=Db 182 c 181 (Gk 180 c 177 (NP 179 a 17 177 178 (a 15) f)); CB c (wV (cvb prog 29 9 (a 19) d) fun c=>wV (cvb prog 29 9 (a 21) d) fun g=>Jn 9 c g fun h=>let c:=Db 189 h 188 (Hi 187 h 182 186 g 182 185 (a 21) (Bo 184 c 182 183 (a 19) f)); let f:=Qy 189 (NP 191 a 25 189 190 (a 23) c); CB h (DZ 44 (a 23) (a 25) d (fun c d=>let f:=D9 194 c 193 192 c f; let g:=Qy 194 (NP 196 a 30 194 195 (a 27) f); CB c (DZ 24 (a 27) (a 30) d (fun c d=>let f:=D9 199 c 198 197 c g; CB c (H5 .eql a 28 31 fun c=>let f:=Db 204 c 203 (Gk 202 c 199 (NP 201 a 31 199 200 (a 28) f)); CB c (tF .eql 4 a 33 35 fun c=>D8 (G0 ro K) a 14 c 208 (Gk 207 c 204 (NP 206 a 35 204 205 (a 33) f)) b d) (G0 ro K) a (BG 14 208 207 204 206 205 f) b d) (G0 ro K) a (BG 14 208 207 204 206 205 (BG 204 203 202 199 201 200 f)) b d) fun c d=>CM (G0 ro K) c a g b d) (G0 ro K) a (BG 14 208 207 204 206 205 (BG 204 203 202 199 201 200 (BG 199 198 197 194 196 195 f))) b d) fun c d=>CM (G0 ro K) c a f b d) (G0 ro K) a (BG 14 208 207 204 206 205 (BG 204 203 202 199 201 200 (BG 199 198 197 194 196 195 (BG 194 193 192 189 191 190 c)))) b d) (G0 ro K) a (BG 14 208 207 204 206 205 (BG 204 203 202 199 201 200 (BG 199 198 197 194 196 195 (BG 194 193 192 189 191 190 (BG 189 188 187 182 186 185 (Ia 184 182 183 f)))))) b d) (G0 ro K) a (BG 14 208 207 204 206 205 (BG 204 203 202 199 201 200 (BG 199 198 197 194 196 195 (BG 194 193 192 189 191 190 (BG 189 188 187 182 186 185 (Ia 184 182 183 (BG 182 181 180 177 179 178 f))))))) b d) (G0 ro K) a (BG 14 208 207 204 206 205 (BG 204 203 202 199 201 200 (BG 199 198 197 194 196 195 (BG 194 193 192 189 191 190 (BG 189 188 187 182 186 185 (Ia 184 182 183 (BG 182 181 180 177 179 178 (SX 177 false 176 175 undef 174 (Db 174 c 173 []))))))))) b d) fun c d=>(G0 ro K) (.panic c) a b d) K
def od:=by
 have h:=@G1.eq_1; dsimp at h; exact h
def Q0 (ro:Option Nat) (K:AB):AB:=AW (fun a b c=>KZ 27 a (Bt a) c (fun c d=>CX c fun f=>CY c fun g=>let c:=EC 70 (Bt a) 69 (BS a) (Bh 16 g 15 f 67 g 66 f (BQ 62 c 65 c 64 a 2 63 [])); KZ 36 a (Bt a) d (fun d f=>CX d fun h=>CY d fun i=>let c:=Jr 76 (EY a) 75 a 18 i 17 h (Da 73 i 72 h 68 d 71 c); KZ 26 a (EY a) f (fun d f=>CX d fun h=>CY d fun j=>let c:=Jr 82 (EY a) 81 a 20 j 19 h (Da 79 j 78 h 74 d 77 c); KZ 37 a (EY a) f (fun d f=>CX d fun h=>CY d fun k=>let c:=eC 89 (H4 a) (Jr 88 (Bt a) 87 a 22 k 21 h (Da 85 k 84 h 80 d 83 c)); Ig 22 a (Bt a) (H4 a) f (fun d f=>CX d fun h=>CY d fun l=>let c:=eC 96 (H4 a) (Jr 95 (Bt a) 94 a 24 l 23 h (Da 92 l 91 h 86 d 90 c)); Ig 38 a (Bt a) (H4 a) f (fun d f=>CX d fun h=>CY d fun m=>let c:=eC 103 (H4 a) (Jr 102 (Bt a) 101 a 26 m 25 h (Da 99 m 98 h 93 d 97 c)); Ig 21 a (Bt a) (H4 a) f (fun d f=>CX d fun h=>CY d fun n=>oa d 2 fun o=>let c:=DO 111 (H4 a) 110 (Bt a) 109 (BS a) (Bh 29 o 28 n 27 h 107 o (Da 106 n 105 h 100 d 104 c)); Ig 39 a (Bt a) (H4 a) f (fun d f=>CX d fun h=>CY d fun n=>oa d 2 fun p=>let c:=eC 121 (DS a) (BQ 120 (Ef a) 119 (H4 a) 118 a 2 117 (Bh 32 p 31 n 30 h 115 p (Da 114 n 113 h 108 d 112 c))); fD 20 [BS a,Bt a,H4 a,Ef a,DS a] f (fun d f=>CX d fun h=>CY d fun n=>let c:=oc 130 (DS a) 129 (Ef a) 128 a 4 (Jr 127 (Bt a) 126 a 34 n 33 h (Da 124 n 123 h 116 d 122 c)); fD 40 [BS a,Bt a,H4 a,Ef a,DS a] f (fun d f=>CX d fun h=>CY d fun q=>let c:=DO 134 (BS a) 36 q 35 h (Da 133 q 132 h 125 d 131 c); DR 23 (BS a) f (fun d f=>DR 41 (BS a) f (fun f h=>Jn 30 d f fun r=>let c:=eC 139 r (Dl 138 r 137 f 136 a 0 135 d c); let d:=Qy 139 (GA 141 a 1 139 140 c); CB r (KZ 42 a (BE a) h (fun c f=>let d:=Wi 139 true 144 (BE a) (zL 139 143 (BS a) 139 142 c d); KZ 43 a (BE a) f (fun f h=>Jn 30 c f fun c=>let d:=eC 148 c (Jl 147 c 146 c 139 true 145 f d); CB c (Jn 30 g i fun c=>let d:=Db 153 c 152 (Hi 151 c 148 150 i 148 149 g d); CB c (Jn 30 j k fun c=>let d:=Db 158 c 157 (Hi 156 c 153 155 k 153 154 j d); CB c (Jn 30 l m fun c=>let d:=Db 163 c 162 (Hi 161 c 158 160 m 158 159 l d); CB c (Jn 30 o p fun c=>let d:=Db 168 c 167 (Hi 166 c 163 165 p 163 164 o d); CB c (Jn 30 n q fun c=>D8 (G1 ro K) a 37 c 172 (Hi 171 c 168 170 q 168 169 n d) b h) (G1 ro K) a (BG 37 172 171 168 170 169 d) b h) (G1 ro K) a (BG 37 172 171 168 170 169 (BG 168 167 166 163 165 164 d)) b h) (G1 ro K) a (BG 37 172 171 168 170 169 (BG 168 167 166 163 165 164 (BG 163 162 161 158 160 159 d))) b h) (G1 ro K) a (BG 37 172 171 168 170 169 (BG 168 167 166 163 165 164 (BG 163 162 161 158 160 159 (BG 158 157 156 153 155 154 d)))) b h) (G1 ro K) a (BG 37 172 171 168 170 169 (BG 168 167 166 163 165 164 (BG 163 162 161 158 160 159 (BG 158 157 156 153 155 154 (BG 153 152 151 148 150 149 d))))) b h) fun c f=>CM (G1 ro K) c a d b f) fun c f=>CM (G1 ro K) c a d b f) (G1 ro K) a (BG 37 172 171 168 170 169 (BG 168 167 166 163 165 164 (BG 163 162 161 158 160 159 (BG 158 157 156 153 155 154 (BG 153 152 151 148 150 149 (BG 148 147 146 139 145 144 (CC 143 139 142 141 140 c))))))) b h) fun f g=>CM (G1 ro K) f a (EC 136 (BS a) 135 d c) b g) fun d f=>CM (G1 ro K) d a c b f) fun d f=>CM K d a c b f) fun d f=>CM K d a c b f) fun d f=>CM K d a c b f) fun d f=>CM K d a c b f) fun d f=>CM K d a c b f) fun d f=>CM K d a c b f) fun d f=>CM K d a c b f) fun d f=>CM K d a c b f) fun d f=>CM K d a c b f) fun c d=>CM K c a (EC 64 (Bt a) 63 (BS a) []) b d) K
def ZA:=by
 have h:=@Q0.eq_1; dsimp at h; exact h
def G2 (ro:Option Nat) (K:AB):AB:=AW (fun e ds W=>wI (e 60) (AX prog Br 16 [] W (DQ (fun v61 W37=>(Q0 ro K) .ret (Env.of e [(14,v61),(61,v61)]) ds W37) (fun AG' W38=>(Q0 ro K) (.panic AG') e ds W38))) ((Q0 ro K) .normal e ds W)) (Q0 ro K)
def AED (v0 v1 v2 v3 v4 v5 v6:Value) (K:AB) (W:CW):=by
 have h:PH 11 209 (Ot v0 v1 v2 v3 v4 v5 v6) W K=DR 13 v0 W (fun a b=>D1 a fun c=>let a:=D9 41 c 40 39 a (Gr 38 v0 14); let d:=KX 41 42 v1 41 a; EW c (G2 none K) (Ot v0 v1 v2 v3 v4 v5 v6) 60 (EK 59 56 58 57 (Gq 56 true 55 54 undef 51 53 51 52 (Gq 51 true 50 49 undef 46 48 46 47 (Gq 46 true 45 44 undef 41 43 41 42 a)))) [] b (DR 14 v1 b (fun a b=>D1 a fun c=>let a:=eC 46 c (Jl 45 c 44 c 41 false 43 a d); let d:=KX 46 47 v2 46 a; EW c (G2 none K) (Ot v0 v1 v2 v3 v4 v5 v6) 60 (EK 59 56 58 57 (Gq 56 true 55 54 undef 51 53 51 52 (Gq 51 true 50 49 undef 46 48 46 47 a))) [] b (DR 15 v2 b (fun a b=>D1 a fun c=>let a:=eC 51 c (Jl 50 c 49 c 46 false 48 a d); let d:=KX 51 52 v3 51 a; EW c (G2 none K) (Ot v0 v1 v2 v3 v4 v5 v6) 60 (EK 59 56 58 57 (Gq 56 true 55 54 undef 51 53 51 52 a)) [] b (DR 15 v3 b (fun a b=>D1 a fun c=>let a:=eC 56 c (Jl 55 c 54 c 51 false 53 a d); EW c (G2 none K) (Ot v0 v1 v2 v3 v4 v5 v6) 60 (EK 59 56 58 57 a) [] b (DD 9 v6 b fun c=>DF c 70 fun d=>Dh (G2 none K) (Ot v0 v1 v2 v3 v4 v5 v6) 60 d (Ds 59 d 56 58 c 57 v6 a) [] b)) fun a b=>Ib (G2 none K) a (Ot v0 v1 v2 v3 v4 v5 v6) d b)) fun a b=>Ib (G2 none K) a (Ot v0 v1 v2 v3 v4 v5 v6) d b)) fun a b=>Ib (G2 none K) a (Ot v0 v1 v2 v3 v4 v5 v6) d b)) fun a b=>Ib (G2 none K) a (Ot v0 v1 v2 v3 v4 v5 v6) (Gr 38 v0 14) b:=by kernel_rfl
 dsimp at h; exact h
theorem oe (Q:Ending→CW→Prop) (e:Env) (W:CW):AJ prog Tryz.f11 Q .ret e [] W=Q (.returned (e 14)) W:=by kernel_rfl
def AEE {Q v0 v1 v2 v3 v4 v5 v6 W}:=Eo 11 209 [v0,v1,v2,v3,v4,v5,v6] Tryz.f11 Q W Tryz.func11 (by kernel_rfl)
end Go.Ce
namespace Go.Ce
open Go Go.Proofs Go.Proofs.Tryz
def AEF (v0:Value) (K:AB) (W:CW):=by
 have h:GO 23 12 v0 W K=DR 47 v0 W (fun a b=>CX a fun c=>CY a fun d=>CI 78 b fun b f=>I9 b c f fun f=>D1 d fun g=>let a:=EC 11 g 10 d (Bh 4 d 3 b 9 d 8 c (BO 5 a 7 a 6 v0 2 A5)); LV g K (Dg v0) (NU 2 210 a) f (NW K v0 (eC 2 A5 a) f)) fun a b=>Ib K a (Dg v0) (EC 6 v0 2 A5 []) b:=by kernel_rfl
 dsimp at h; exact h
theorem ZB (Q:Ending→CW→Prop) (e:Env) (W:CW):AJ prog Tryz.f23 Q .ret e [] W=Q (.returned (e 2)) W:=by kernel_rfl
def AEG {Q v0 W}:=Eo 23 12 [v0] Tryz.f23 Q W Tryz.func23 (by kernel_rfl)
def AEH (v0 v1:Value) (K:AB) (W:CW):=by
 have h:Dp 36 19 v0 v1 W K=(let a:=Gt 8 v0 5 A5 4 A5; DR 41 v0 W (fun b c=>NV 30 b 0 fun d=>let a:=NO 11 d 10 b 6 9 a; Jq d K v0 v1 (DO 5 b 4 A5 12 b a) c (DZ 94 v0 v1 c (fun b c=>Mi b 0 fun d=>let a:=EC 17 d 16 b (FA 7 b 15 14 v1 13 v0 a); Jq d K v0 v1 (DO 5 (Jk 211) 4 b 18 b a) c (LX K v0 v1 (EC 5 A5 4 A5 a) c)) fun b c=>Fv K b v0 v1 (EC 14 v1 13 v0 a) c)) fun b c=>Fv K b v0 v1 a c):=by kernel_rfl
 dsimp at h; exact h
theorem SY (Q:Ending→CW→Prop) (e:Env) (W:CW):AJ prog Tryz.f36 Q .ret e [] W=Q (.returned (.tuple #[e 4,e 5])) W:=by kernel_rfl
def AEI {Q v0 v1 W}:=Eo 36 19 [v0,v1] Tryz.f36 Q W Tryz.func36 (by kernel_rfl)
def AEJ (v0 v1:Value) (K:AB) (W:CW):=by
 have h:Dp 37 21 v0 v1 W K=(let a:=Gt 8 v0 5 A5 4 (.slice none 0 0); DR 41 v0 W (fun b c=>NV 30 b 0 fun d=>let a:=NO 11 d 10 b 6 9 a; Jq d K v0 v1 (DO 5 b 4 (.slice none 0 0) 12 b a) c (DZ 69 v0 v1 c (fun b c=>NT b 0 fun d=>let a:=EC 17 d 16 b (FA 7 b 15 14 v1 13 v0 a); Jq d K v0 v1 (EC 5 (Jk 213) 4 (.slice none 0 0) a) c (DZ 88 v0 b c (fun c d=>LX K v0 v1 (eC 5 A5 (FA 4 c 20 19 b 18 v0 a)) d) fun c d=>Fv K c v0 v1 (EC 19 b 18 v0 a) d)) fun b c=>Fv K b v0 v1 (EC 14 v1 13 v0 a) c)) fun b c=>Fv K b v0 v1 a c):=by kernel_rfl
 dsimp at h; exact h
theorem SZ (Q:Ending→CW→Prop) (e:Env) (W:CW):AJ prog Tryz.f37 Q .ret e [] W=Q (.returned (.tuple #[e 4,e 5])) W:=by kernel_rfl
def AEK {Q v0 v1 W}:=Eo 37 21 [v0,v1] Tryz.f37 Q W Tryz.func37 (by kernel_rfl)
def tJ (ro:Option Nat) (K:AB):AB:=AW (fun e ds W=>K .ret (Env.of e [(7,(.int .i64 0)),(6,(e 11)),(42,(e 11))]) ds W) K
def AEL (v0 v1 v2:Value) (K:AB) (W:CW):=by
 have h:H3 38 43 v0 v1 v2 W K=(let a:=eC 15 v2 (UE 14 v1 13 v0 7 A5 6 none 0 0); KW 63 v0 (.slice none 0 0) v1 v2 W (fun b c=>NV 30 b 0 fun d=>let a:=NO 18 d 17 b 8 16 a; let f:=DO 23 v2 22 v1 21 v0 a; LV d K (E6 v0 v1 v2) (DO 7 b 6 (.slice none 0 0) 19 b a) c (KW 64 v0 (.slice none 0 0) v1 v2 c (fun a b=>CX a fun c=>CY a fun d=>GS 38 43 (E6 v0 v1 v2) (Bh 12 (Jk 1) 11 (.slice none 0 0) 10 d 9 c (Da 26 d 25 c 20 a 24 f)) b (tJ none K)) fun a b=>Gn K a v0 v1 v2 f b)) fun b c=>Gn K b v0 v1 v2 a c):=by kernel_rfl
 dsimp at h; exact h
def jM (ro:Option Nat) (K:AB):AB:=AW (fun a b c=>Bc a 12 fun d=>CQ K a 12 d 32 31 b c) K
def fF:=by
 have h:=@jM.eq_1; dsimp at h; exact h
def AAj (ro:Option Nat) (e:Env) (ds:List Deferred) (K:AB) (W:CW):=by
 have h:C9 ro 38 43 e ds W K=DD 24 (BE e) W fun a=>Yb .leq 3 e 12 a fun b=>let a:=DG 30 b 29 a 28 e 1 27 12; Di b (LS e 10 12 fun b=>Aj b W fun c=>DF c 0 fun d=>let a:=eC 37 d (Dl 36 c 35 b 34 e 12 33 (D2 e) a); CB d (Jo prog 40 1 [(0,e 12)] W fun b c=>Jt prog 40 40 (Dq e) b c fun c d=>Dh (jM ro K) e 11 c (Dl 41 c 40 b 39 e 12 38 (Dq e) a) ds d) (jM ro K) e a ds W) K e a ds W:=by kernel_rfl
 dsimp at h; exact h
theorem ZC (Q:Ending→CW→Prop) (e:Env) (W:CW):AJ prog Tryz.f38 Q .ret e [] W=Q (.returned (.tuple #[e 6,e 7])) W:=by kernel_rfl
def AEM {Q v0 v1 v2 W}:=Eo 38 43 [v0,v1,v2] Tryz.f38 Q W Tryz.func38 (by kernel_rfl)
def tK (ro:Option Nat) (K:AB):AB:=AW (fun a b c=>LS a 11 2 fun d=>Aj d c fun f=>GZ (FT 3 d c f) (G_ K a (Dl 8 A5 7 f 6 a 12 52 f (DG 51 d 50 (Bt a) 49 a 11 48 12)) b c)) K
def tL:=by
 have h:=@tK.eq_1; dsimp at h; exact h
def AEN (v0 v1 v2:Value) (K:AB) (W:CW):=by
 have h:H3 39 53 v0 v1 v2 W K=(let a:=EC 16 v2 15 v1 (UE 14 v0 8 A5 7 A5 6 none 0 0); KW 63 v0 (.slice none 0 0) v1 v2 W (fun b c=>NV 30 b 0 fun d=>let a:=NO 19 d 18 b 9 17 a; let f:=DO 24 v2 23 v1 22 v0 a; LV d K (E6 v0 v1 v2) (Bh 8 b 7 A5 6 (.slice none 0 0) 20 b a) c (KW 64 v0 (.slice none 0 0) v1 v2 c (fun a b=>CX a fun c=>CY a fun d=>GS 39 53 (E6 v0 v1 v2) (Bh 13 A5 12 (.slice none 0 0) 11 d 10 c (Da 27 d 26 c 21 a 25 f)) b (tK none K)) fun a b=>Gn K a v0 v1 v2 f b)) fun b c=>Gn K b v0 v1 v2 a c):=by kernel_rfl
 dsimp at h; exact h
def jN (ro:Option Nat) (K:AB):AB:=AW (fun a b c=>Bc a 13 fun d=>CQ K a 13 d 33 32 b c) K
def tM:=by
 have h:=@jN.eq_1; dsimp at h; exact h
def AAk (ro:Option Nat) (e:Env) (ds:List Deferred) (K:AB) (W:CW):=by
 have h:C9 ro 39 53 e ds W K=CP (D2 e) W fun a=>FU e 13 a fun b=>let a:=DG 31 b 30 a 29 e 10 28 13; Di b (LS e 10 13 fun b=>Aj b W fun c=>KU c 1 fun d=>Iy 24 e 1 d fun f=>BI 56 f W fun g=>let a:=DO 44 (Dq e) 43 g 42 f (Bh 41 d 40 c 39 b 38 (e 13) (Dl 37 (D2 e) 36 (BE e) 35 e 0 34 (e 12) a)); Ig 90 e g (Dq e) W (fun b c=>Jo prog 24 1 [(0,b)] c fun c d=>Jt prog 24 24 (e 12) c d fun d f=>UA (jN ro K) e (FA 12 d 47 46 c 45 b a) ds f) fun b c=>CM (jN ro K) b e a ds c) K e a ds W:=by kernel_rfl
 dsimp at h; exact h
theorem ZD (Q:Ending→CW→Prop) (e:Env) (W:CW):AJ prog Tryz.f39 Q .ret e [] W=Q (.returned (.tuple #[e 6,e 7,e 8])) W:=by kernel_rfl
def AEO {Q v0 v1 v2 W}:=Eo 39 53 [v0,v1,v2] Tryz.f39 Q W Tryz.func39 (by kernel_rfl)
def Wm (ro:Option Nat) (K:AB):AB:=AW (fun e ds W=>K .ret e ds W) K
def AEP (v0 v1 v2 v3 v4:Value) (K:AB) (W:CW):=by
 have h:PH 40 47 (F' v0 v1 v2 v3 v4) W K=(let a:=DO 20 v2 19 v1 18 v0 (Gr 11 A5 10); Ic 39 v0 v1 v2 W (fun b c=>CX b fun d=>CY b fun f=>oa b 2 fun g=>NV 30 g 0 fun h=>let a:=EC 26 h 25 g (Bh 14 g 13 f 12 d 24 g (Da 23 f 22 d 17 b 21 a)); let b:=DO 31 v4 30 v3 29 v0 a; LV h K (F' v0 v1 v2 v3 v4) (DO 11 g 10 DX 27 g a) c (Ic 39 v0 v3 v4 c (fun a c=>CX a fun g=>CY a fun h=>oa a 2 fun i=>NV 30 i 0 fun j=>let a:=EC 37 j 36 i (Bh 14 i 16 h 15 g 35 i (Da 34 h 33 g 28 a 32 b)); LV j K (F' v0 v1 v2 v3 v4) (DO 11 i 10 DX 38 i a) c (Jn 3 f h fun b=>let a:=FA 42 b 41 40 h 39 f a; let f:=Qy 42 (Bo 44 g 42 43 d a); CB b (DZ 24 d g c (fun a b=>UA (Wm none K) (F' v0 v1 v2 v3 v4) (NO 11 A5 10 a 46 45 f) [] b) fun a b=>Ib (Wm none K) a (F' v0 v1 v2 v3 v4) f b) (Wm none K) (F' v0 v1 v2 v3 v4) (eC 11 A5 (BG 10 46 45 42 44 43 a)) [] c)) fun a c=>Ib K a (F' v0 v1 v2 v3 v4) b c)) fun b c=>Ib K b (F' v0 v1 v2 v3 v4) a c):=by kernel_rfl
 dsimp at h; exact h
theorem Sh (Q:Ending→CW→Prop) (e:Env) (W:CW):AJ prog Tryz.f40 Q .ret e [] W=Q (.returned (.tuple #[e 10,e 11])) W:=by kernel_rfl
def AEQ {Q v0 v1 v2 v3 v4 W}:=Eo 40 47 [v0,v1,v2,v3,v4] Tryz.f40 Q W Tryz.func40 (by kernel_rfl)
def AER (v0 v1:Value) (K:AB) (W:CW):=by
 have h:Dp 42 24 v0 v1 W K=DR 47 v0 W (fun a b=>CX a fun c=>CY a fun d=>CI 78 b fun b f=>I9 b c f fun f=>D1 d fun g=>let a:=EC 15 g 14 d (Bh 6 d 5 b 13 d 12 c (BO 9 a 11 a 10 v0 4 A5)); Jq g K v0 v1 (NU 4 210 a) f (BI 78 b f fun b=>DZ 48 b v1 f (fun c d=>CX c fun f=>CY c fun g=>CI 83 d fun d h=>Dw 83 d f h fun h=>D1 g fun i=>let a:=EC 23 i 22 g (Bh 8 g 7 d 21 g 20 f (FA 16 c 19 18 v1 17 b a)); Jq i K v0 v1 (NU 4 212 a) h (LX K v0 v1 (eC 4 A5 a) h)) fun c d=>Fv K c v0 v1 (EC 18 v1 17 b a) d)) fun a b=>Fv K a v0 v1 (EC 10 v0 4 A5 []) b:=by kernel_rfl
 dsimp at h; exact h
theorem Sp (Q:Ending→CW→Prop) (e:Env) (W:CW):AJ prog Tryz.f42 Q .ret e [] W=Q (.returned (e 4)) W:=by kernel_rfl
def AES {Q v0 v1 W}:=Eo 42 24 [v0,v1] Tryz.f42 Q W Tryz.func42 (by kernel_rfl)
def tN (ro:Option Nat) (K:AB):AB:=AW (fun e ds W=>K .ret (Env.of e [(4,(.bool true))]) ds W) K
def AET (v0 v1:Value) (K:AB) (W:CW):=by
 have h:Dp 44 26 v0 v1 W K=CP v0 W fun a=>CP v1 W fun b=>HZ 3 a b fun c=>let a:=Bh 10 c 9 b 8 v1 7 a (Gr 6 v0 4); Jq c K v0 v1 (EU 4 a) W (Jp 44 26 v0 v1 (eC 5 A5 a) W (tN none K)):=by kernel_rfl
 dsimp at h; exact h
def jO (ro:Option Nat) (K:AB):AB:=AW (fun a b c=>Bc a 5 fun d=>CQ K a 5 d 16 15 b c) K
def tO:=by
 have h:=@jO.eq_1; dsimp at h; exact h
def AAl (ro:Option Nat) (e:Env) (ds:List Deferred) (K:AB) (W:CW):=by
 have h:C9 ro 44 26 e ds W K=CP (BS e) W fun a=>FU e 5 a fun b=>let a:=DG 14 b 13 a 12 e 0 11 5; Di b (Bx e 5 fun b=>Aj b W fun c=>LS e 1 5 fun d=>Aj d W fun f=>HZ 3 c f fun g=>let a:=eC 25 g (Dl 24 f 23 d 22 e 5 21 (BE e) (BQ 20 c 19 b 18 e 5 17 a)); GZ (HN 3 d W f 3 b W c) (CB g (G_ (jO ro K) e (EU 4 a) ds W) (jO ro K) e a ds W)) K e a ds W:=by kernel_rfl
 dsimp at h; exact h
theorem og (Q:Ending→CW→Prop) (e:Env) (W:CW):AJ prog Tryz.f44 Q .ret e [] W=Q (.returned (e 4)) W:=by kernel_rfl
def AEU {Q v0 v1 W}:=Eo 44 26 [v0,v1] Tryz.f44 Q W Tryz.func44 (by kernel_rfl)
def jP (ro:Option Nat) (K:AB):AB:=AW (fun e ds W=>wV (ld prog 56 (e 8) W) fun v45=>wV (Mf prog 56 (e 6) v45 W) fun W6=>K .ret (Env.of e [(45,v45)]) ds W6) K
def AEV (v0 v1 v2:Value) (K:AB) (W:CW):=by
 have h:H3 90 46 v0 v1 v2 W K=Hj 56 v1 W fun a b=>CI 56 b fun b c=>Dr a 0 fun d=>BA d c fun f=>let b:=eC 13 f (BO 12 d 11 v0 6 b 4 a); DZ 69 v0 f c (fun c d=>Dr a 0 fun a=>BA a d fun f=>LW prog 56 [(0,f)] fun g=>CI 56 d fun d h=>Dw 56 d g h fun h=>GS 90 46 (E6 v0 v1 v2) (DO 9 A5 8 d 17 g (Da 16 f 15 a 7 c 14 b)) h (jP none K)) fun a c=>Gn K a v0 v1 v2 b c:=by kernel_rfl
 dsimp at h; exact h
def jQ (ro:Option Nat) (K:AB):AB:=AW (fun a b c=>Bc a 9 fun d=>CQ K a 9 d 24 23 b c) K
def tP:=by
 have h:=@jQ.eq_1; dsimp at h; exact h
def Q1 (ro:Option Nat) (K:AB):AB:=GR (fun a b c=>Ih a 8 fun d=>Bb d c fun f=>Jo prog 40 1 [(0,D2 a)] c fun c g=>Jt prog 40 40 f c g fun g h=>Ih a 8 fun i=>Dw 40 i g h fun h=>UA (jQ ro K) a (EC 44 i 43 g (BO 42 c 41 (D2 a) 40 f 39 d)) b h) (jQ ro K)
def oh:=by
 have h:=@Q1.eq_1; dsimp at h; exact h
def AAm (ro:Option Nat) (e:Env) (ds:List Deferred) (K:AB) (W:CW):=by
 have h:C9 ro 90 46 e ds W K=Ih e 4 fun a=>Bb a W fun b=>CP b W fun c=>FU e 9 c fun d=>let a:=eC 22 d (BO 21 c 20 b 19 a 18 (Ee e)); Di d (Ih e 4 fun b=>Bb b W fun c=>EZ c (Ee e) fun d=>Aj d W fun f=>let a:=eC 32 (Ee e) (Da 31 (D3 e) 30 (BS e) 10 f 29 (Bh 28 d 27 (Ee e) 26 c 25 b a)); Ig 70 e (D3 e) (Ee e) W (fun b c=>HL 5 b 2 fun d=>CB d (Gs e 2 f fun g=>Aj g c fun h=>UA (Q1 ro K) e (D9 10 h 38 37 g (Bh 36 f 35 (Bt e) 34 d 33 b a)) ds c) (Q1 ro K) e (EC 34 d 33 b a) ds c) fun b c=>CM (Q1 ro K) b e a ds c) K e a ds W:=by kernel_rfl
 dsimp at h; exact h
def AEW {Q v0 v1 v2 W}:=Eo 90 46 [v0,v1,v2] Tryz.f90 Q W Tryz.func90 (by kernel_rfl)
end Go.Ce
namespace Go.Ce
open Go Go.Proofs Go.Proofs.Tryz
def AEX (v0 v1 v2:Value) (K:AB) (W:CW):=by
 have h:H3 22 30 v0 v1 v2 W K=(let a:=eC 13 v2 (UE 12 v1 11 v0 7 A5 6 none 0 0); Ic 49 v0 v1 v2 W (fun b c=>CX b fun d=>CY b fun f=>CI 78 c fun c g=>I9 c d g fun g=>NV 30 f 0 fun h=>let a:=Bh 18 h 17 f 9 f 8 c (Da 16 f 15 d 10 b 14 a); LV h K (E6 v0 v1 v2) (DO 7 f 6 (.slice none 0 0) 19 f a) g (BI 78 c g fun b=>LW prog 131 [(0,b),(1,v1)] fun c=>let a:=Bh 23 v2 22 c 21 v1 20 b a; DZ 78 c v2 g (fun b c=>EV b fun d=>I0 d 0 fun f=>Bb f c fun g=>let a:=Bh 27 g 26 f 25 d 24 b a; DR 81 g c (fun b c=>DR 80 b c (fun c d=>Jm K (E6 v0 v1 v2) (Bh 7 A5 6 c 29 c 28 b a) d) fun c d=>Gn K c v0 v1 v2 (eC 28 b a) d) fun b c=>Gn K b v0 v1 v2 a c) fun b c=>Gn K b v0 v1 v2 a c)) fun b c=>Gn K b v0 v1 v2 a c):=by kernel_rfl
 dsimp at h; exact h
theorem ZE (Q:Ending→CW→Prop) (e:Env) (W:CW):AJ prog Tryz.f22 Q .ret e [] W=Q (.returned (.tuple #[e 6,e 7])) W:=by kernel_rfl
def AEY {Q v0 v1 v2 W}:=Eo 22 30 [v0,v1,v2] Tryz.f22 Q W Tryz.func22 (by kernel_rfl)
def AEZ (v0:Value) (K:AB) (W:CW):=by
 have h:GO 80 9 v0 W K=DR 112 v0 W (fun a b=>let c:=eC 6 a (UE 3 a 5 a 4 v0 2 none 0 0); DR 113 a b (fun b d=>NW K v0 (D9 2 a 8 7 b c) d) fun a b=>Ib K a (Dg v0) c b) fun a b=>Ib K a (Dg v0) (EC 4 v0 2 (.slice none 0 0) []) b:=by kernel_rfl
 dsimp at h; exact h
theorem ZF (Q:Ending→CW→Prop) (e:Env) (W:CW):AJ prog Tryz.f80 Q .ret e [] W=Q (.returned (e 2)) W:=by kernel_rfl
def AEa {Q v0 W}:=Eo 80 9 [v0] Tryz.f80 Q W Tryz.func80 (by kernel_rfl)
def AEb (v0:Value) (K:AB) (W:CW):=by
 have h:GO 81 4 v0 W K=Hj 40 v0 W fun a b=>wV (some (.func (.func 114) #[] #[a])) fun c=>NW K v0 (BO 2 c 3 c 2 .nilFunc 1 a) b:=by kernel_rfl
 dsimp at h; exact h
theorem om (Q:Ending→CW→Prop) (e:Env) (W:CW):AJ prog Tryz.f81 Q .ret e [] W=Q (.returned (e 2)) W:=by kernel_rfl
def AEc {Q v0 W}:=Eo 81 4 [v0] Tryz.f81 Q W Tryz.func81 (by kernel_rfl)
def AAn (v0:Value) (K:AB) (W:CW):=by
 have h:GO 112 5 v0 W K=DZ 127 (.slice none 0 0) v0 W (fun a b=>NW K v0 (UE 2 a 4 a 3 v0 2 none 0 0) b) fun a b=>Ib K a (Dg v0) (EC 3 v0 2 (.slice none 0 0) []) b:=by kernel_rfl
 dsimp at h; exact h
theorem jR (Q:Ending→CW→Prop) (e:Env) (W:CW):AJ prog Tryz.f112 Q .ret e [] W=Q (.returned (e 2)) W:=by kernel_rfl
def AAo {Q v0 W}:=Eo 112 5 [v0] Tryz.f112 Q W Tryz.func112 (by kernel_rfl)
def tQ (v0:Value) (K:AB) (W:CW):=by
 have h:GO 113 11 v0 W K=CP v0 W fun a=>wV (oV prog 3 164 a) fun b=>let c:=DO 8 b 7 a 6 a (BO 5 v0 2 a 4 a 3 v0); DR 116 b W (fun b d=>KW 128 v0 A5 a b d (fun a d=>UA K (Dg v0) (EC 10 a 9 b c) [] d) fun a d=>Ib K a (Dg v0) (eC 9 b c) d) fun a b=>Ib K a (Dg v0) c b:=by kernel_rfl
 dsimp at h; exact h
def tR {Q v0 W}:=Eo 113 11 [v0] Tryz.f113 Q W Tryz.func113 (by kernel_rfl)
def AAp (v0 v1:Value) (K:AB) (W:CW):=by
 have h:Dp 114 16 v0 v1 W K=Bb v1 W fun a=>CP a W fun b=>Jp 114 16 v0 v1 (Gt 7 A5 6 b 5 a) W K:=by kernel_rfl
 dsimp at h; exact h
def U2 (ro:Option Nat) (K:AB):AB:=AW (fun a b c=>Bc a 7 fun d=>D8 K a 7 d 15 [] b c) K
def oo:=by
 have h:=@U2.eq_1; dsimp at h; exact h
def xG (ro:Option Nat) (e:Env) (ds:List Deferred) (K:AB) (W:CW):=by
 have h:C9 ro 114 16 e ds W K=HM 3 e 7 6 fun a=>Di a (LS e 5 7 fun b=>Aj b W fun c=>let a:=EC 12 c 11 (BS e) (BO 4 c 10 c 9 b 8 a); G9 prog Br (BS e) [c] W (fun b c=>D1 b fun d=>CB d (G_ (U2 ro K) e (EC 14 d 13 b a) ds c) (U2 ro K) e (EC 14 d 13 b a) ds c) fun b c=>CM (U2 ro K) b e a ds c) K e (F_ 8 a) ds W:=by kernel_rfl
 dsimp at h; exact h
def AAq {Q v0 v1 W}:=Eo 114 16 [v0,v1] Tryz.f114 Q W Tryz.func114 (by kernel_rfl)
def ml (ro:Option Nat) (K:AB):AB:=AW (fun e ds W=>wV (ld prog 40 (e 2) W) fun v12=>K .ret (Env.of e [(4,v12),(12,v12)]) ds W) K
def AAr (v0 v1:Value) (K:AB) (W:CW):=by
 have h:Dp 127 13 v0 v1 W K=Hj 40 v0 W fun a b=>Fk prog Br none 127 13 (.rangeFunc (.tmp 6) #[7] (AM prog 127 0) (AN prog 127 0)) (Env.of (QY v0 v1) (Gt 6 v1 4 (.slice none 0 0) 2 a)) [] b (CL 0 (ml none K)):=by kernel_rfl
 dsimp at h; exact h
theorem xH (ro:Option Nat) (e:Env) (ds:List Deferred) (K:AB) (W:CW):Ft prog Br ro 127 13 (AM prog 127 0) e ds W K=(K .normal (Env.of e [(5,(e 7))]) ds W):=by kernel_rfl
def xI (ro:Option Nat) (e:Env) (ds:List Deferred) (K:AB) (W:CW):=by
 have h:jL ro 127 13 (AN prog 127 0) e ds W K=EJ 40 e 2 W fun a=>Jo prog 40 1 [(0,DS e)] W fun b c=>Jt prog 40 40 a b c fun c d=>Dw 40 (Bt e) c d fun d=>UA K e (NR 11 c 10 b 9 e 5 8 a) ds d:=by kernel_rfl
 dsimp at h; exact h
theorem jS (Q:Ending→CW→Prop) (e:Env) (W:CW):AJ prog Tryz.f127 Q .ret e [] W=Q (.returned (e 4)) W:=by kernel_rfl
def AAs {Q v0 v1 W}:=Eo 127 13 [v0,v1] Tryz.f127 Q W Tryz.func127 (by kernel_rfl)
def AAt (v0:Value) (K:AB) (W:CW):=by
 have h:GO 116 8 v0 W K=DR 139 v0 W (fun a b=>NW K v0 (BO 2 a 7 a 6 v0 2 A5) b) fun a b=>Ib K a (Dg v0) (EC 6 v0 2 A5 []) b:=by kernel_rfl
 dsimp at h; exact h
theorem jT (Q:Ending→CW→Prop) (e:Env) (W:CW):AJ prog Tryz.f116 Q .ret e [] W=Q (.returned (e 2)) W:=by kernel_rfl
def AAu {Q v0 W}:=Eo 116 8 [v0] Tryz.f116 Q W Tryz.func116 (by kernel_rfl)
def bO (ro:Option Nat) (K:AB):AB:=AW (fun a b c=>wV (oV prog 197 5 (BS a)) fun d=>wV (idx prog 9 (.string ⟨#[0,1,2,2,3,3,3,3,4,4,4,4,4,4,4,4,5,5,5,5,5,5,5,5,5,5,5,5,5,5,5,5,6,6,6,6,6,6,6,6,6,6,6,6,6,6,6,6,6,6,6,6,6,6,6,6,6,6,6,6,6,6,6,6,7,7,7,7,7,7,7,7,7,7,7,7,7,7,7,7,7,7,7,7,7,7,7,7,7,7,7,7,7,7,7,7,7,7,7,7,7,7,7,7,7,7,7,7,7,7,7,7,7,7,7,7,7,7,7,7,7,7,7,7,7,7,7,7,8,8,8,8,8,8,8,8,8,8,8,8,8,8,8,8,8,8,8,8,8,8,8,8,8,8,8,8,8,8,8,8,8,8,8,8,8,8,8,8,8,8,8,8,8,8,8,8,8,8,8,8,8,8,8,8,8,8,8,8,8,8,8,8,8,8,8,8,8,8,8,8,8,8,8,8,8,8,8,8,8,8,8,8,8,8,8,8,8,8,8,8,8,8,8,8,8,8,8,8,8,8,8,8,8,8,8,8,8,8,8,8,8,8,8,8,8,8,8,8,8,8,8,8,8,8,8,8]⟩) d) fun f=>wV (oV prog 5 3 f) fun g=>Yb .add 3 a 2 g fun h=>G_ K a (D9 2 h 24 23 g (DG 22 f 21 d 20 a 0 19 2)) b c) K
def oq:=by
 have h:=@bO.eq_1; dsimp at h; exact h
def bP (ro:Option Nat) (K:AB):AB:=AW (fun a b c=>Wg .geq 197 true (BS a) .u64 256 fun d=>CB d (Wg .shr 197 true (BS a) .u64 8 fun f=>tH a 2 8 fun g=>UA (bO ro K) a (Dl 2 g 18 g 17 a 2 0 f (BO 16 f 15 (BS a) 14 d 13 (BS a))) b c) (bO ro K) a (EC 14 d 13 (BS a) []) b c) K
def ot:=by
 have h:=@bP.eq_1; dsimp at h; exact h
def bQ (ro:Option Nat) (K:AB):AB:=AW (fun a b c=>Wg .geq 197 true (BS a) .u64 65536 fun d=>CB d (Wg .shr 197 true (BS a) .u64 16 fun f=>tH a 2 16 fun g=>UA (bP ro K) a (Dl 2 g 12 g 11 a 2 0 f (BO 10 f 9 (BS a) 8 d 7 (BS a))) b c) (bP ro K) a (EC 8 d 7 (BS a) []) b c) K
def ou:=by
 have h:=@bQ.eq_1; dsimp at h; exact h
def AAv (v0:Value) (K:AB) (W:CW):=by
 have h:GO 139 25 v0 W K=Wg .geq 197 true v0 .u64 4294967296 fun a=>let b:=Gt 4 a 3 v0 2 A5; CB a (Wg .shr 197 true v0 .u64 32 fun a=>UA (bQ none K) (Dg v0) (Bh 2 (Jk 32) 0 a 6 a 5 v0 b) [] W) (bQ none K) (Dg v0) b [] W:=by kernel_rfl
 dsimp at h; exact h
theorem jU (Q:Ending→CW→Prop) (e:Env) (W:CW):AJ prog Tryz.f139 Q .ret e [] W=Q (.returned (e 2)) W:=by kernel_rfl
def AAw {Q v0 W}:=Eo 139 25 [v0] Tryz.f139 Q W Tryz.func139 (by kernel_rfl)
def Nz (ro:Option Nat) (K:AB):AB:=AW (fun e ds W=>K .ret e ds W) K
def AAx (v0 v1:Value) (K:AB) (W:CW):=by
 have h:Dp 147 17 v0 v1 W K=DR 159 v0 W (fun a b=>let c:=Db 7 a 6 (Gr 5 v0 4); let d:=Qy 7 (Gk 8 v1 7 c); wI a (DR 159 v1 b (fun a b=>D1 a fun c=>let a:=eC 12 c (Jl 11 c 10 c 7 true 9 a d); UB c (Nz none K) (QY v0 v1) (Gq 4 true 16 15 undef 12 14 12 13 a) [] b (FB .lss v0 v1 fun c=>D8 (Nz none K) (QY v0 v1) 4 c 16 (Ds 15 c 12 14 v1 13 v0 a) [] b)) fun a b=>Fv (Nz none K) a v0 v1 d b) (FB .lss v0 v1 fun a=>D8 (Nz none K) (QY v0 v1) 4 a 16 (Ds 15 a 12 14 v1 13 v0 (BG 12 11 10 7 9 8 c)) [] b)) fun a b=>Fv (Nz none K) a v0 v1 (Gr 5 v0 4) b:=by kernel_rfl
 dsimp at h; exact h
theorem jV (Q:Ending→CW→Prop) (e:Env) (W:CW):AJ prog Tryz.f147 Q .ret e [] W=Q (.returned (e 4)) W:=by kernel_rfl
def AAy {Q v0 v1 W}:=Eo 147 17 [v0,v1] Tryz.f147 Q W Tryz.func147 (by kernel_rfl)
def AAz (v0:Value) (K:AB) (W:CW):=by
 have h:GO 159 6 v0 W K=HZ 3 v0 v0 fun a=>NW K v0 (D9 2 a 5 4 v0 (Gr 3 v0 2)) W:=by kernel_rfl
 dsimp at h; exact h
theorem jW (Q:Ending→CW→Prop) (e:Env) (W:CW):AJ prog Tryz.f159 Q .ret e [] W=Q (.returned (e 2)) W:=by kernel_rfl
def AA0 {Q v0 W}:=Eo 159 6 [v0] Tryz.f159 Q W Tryz.func159 (by kernel_rfl)
end Go.Ce
namespace Go.Ce
open Go Go.Proofs Go.Proofs.Tryz
def tS (v0 v1 v2 v3:Value) (K:AB) (W:CW):=by
 have h:PH 128 134 (Gm v0 v1 v2 v3) W K=GS 128 134 (Gm v0 v1 v2 v3) (Gk 9 Bs 8 []) W K:=by kernel_rfl
 dsimp at h; exact h
def LZ (ro:Option Nat) (K:AB):AB:=GR (fun a b c=>let d:=BQ 98 (Dq a) 97 (Bt a) 96 a 1 95 []; KW 149 (BS a) (BE a) (Bt a) (Dq a) c (fun c f=>CX c fun g=>CY c fun h=>FB .sub g (BE a) fun i=>Yb .sub 3 a 2 g fun j=>NN .quo 3 a 10 8 fun k=>FB .lss i j fun l=>let c:=EC 113 l 112 j (Bh 111 i 18 k 110 k 109 (D2 a) (Bh 17 j 16 i 108 j 107 g (Dl 106 (Bt a) 105 i 104 a 1 103 g (FA 9 h 102 15 h 14 g (Da 101 h 100 g 94 c 99 d))))); wI l (FB .geq i k fun d=>let c:=BQ 120 (Ef a) 119 g 118 a 1 117 (FA 8 d 116 115 k 114 i c); KW 128 (BS a) (BE a) g (Ef a) f (fun d f=>Mj g 1 fun h=>UA K a (FA 1 h 123 122 g 121 d c) b f) fun d f=>CM K d a c b f) (FB .geq j k fun d=>Mj g 1 fun h=>let c:=eC 131 (Ef a) (Bh 130 (Bt a) 129 h 128 g 127 (BS a) (FA 8 d 126 125 k 124 j c)); KW 128 (BS a) h (Bt a) (Ef a) f (fun d f=>UA K a (D9 2 g 133 132 d c) b f) fun d f=>CM K d a c b f)) fun c f=>CM K c a d b f) K
def Wo:=by
 have h:=@LZ.eq_1; dsimp at h; exact h
def Q2 (ro:Option Nat) (K:AB):AB:=AW (fun a b c=>let d:=BQ 91 (Dq a) 90 (Bt a) 89 a 1 88 []; Y_ a 87 (KW 148 (BS a) (BE a) (Bt a) (Dq a) c (fun c f=>tC (LZ ro K) 1 a (NO 1 c 93 c 13 92 d) b f) fun c f=>CM (LZ ro K) c a d b f) (LZ ro K) a b c) (LZ ro K)
def jX:=by
 have h:=@Q2.eq_1; dsimp at h; exact h
def Ju (ro:Option Nat) (K:AB):AB:=GR (fun a b c=>NN .gtr 3 a 1 0 fun d=>let f:=tG 75 d 74 73 a 1; Km d (FC a 1 fun d=>Gs a 0 d fun g=>Aj g c fun h=>Bx a 11 fun i=>Aj i c fun j=>DZ 147 h j c (fun k l=>D1 k fun m=>Fw (Gp 3 i c j 3 g c h) (Q2 ro K) a 87 m (Hi 86 m 75 85 k 75 84 j (Bo 83 i 75 82 (Dq a) (Bo 81 (BS a) 75 80 h (Bo 79 g 75 78 d (GA 77 a 1 75 76 f))))) b l) fun _ _=>False) True (Q2 ro K) a (KX 87 86 undef 75 (Ia 85 75 84 (CC 83 75 82 81 80 (CC 79 75 78 77 76 f)))) b c) K
def Wp:=by
 have h:=@Ju.eq_1; dsimp at h; exact h
def NY (ro:Option Nat) (K:AB):AB:=AW (fun a b c=>let d:=Gt 71 (Bt a) 70 (BE a) 69 (BS a); Y_ a 68 (Ig 146 a (BE a) (Bt a) c (fun c f=>CB c (G_ (Ju ro K) a (eC 72 c d) b f) (Ju ro K) a (eC 72 c d) b f) fun c f=>CM (Ju ro K) c a d b f) (Ju ro K) a b c) (Ju ro K)
def jY:=by
 have h:=@NY.eq_1; dsimp at h; exact h
def NZ (ro:Option Nat) (K:AB):AB:=GR (fun a b c=>let d:=NQ 65 (Ee a) 64 a 9 (Gk 63 (Ee a) 62 (Qz 62 (DH a) 61 a 8)); CB (DH a) (CB (Ee a) (NN .eql 186 a 12 1 fun f=>Dh (NY ro K) a 68 f (Bo 67 f 65 66 (a 12) d) b c) (NY ro K) a (EU 68 (Ia 67 65 66 d)) b c) (NY ro K) a (EU 68 (Ia 67 65 66 (SX 65 false 64 63 undef 62 (Qz 62 (DH a) 61 a 8)))) b c) K
def jZ:=by
 have h:=@NZ.eq_1; dsimp at h; exact h
def Na (ro:Option Nat) (K:AB):AB:=GR (fun a b c=>let d:=Gt 45 (Bt a) 44 (BE a) 43 (BS a); Ig 144 a (BE a) (Bt a) c (fun c f=>CX c fun g=>CY c fun h=>tB .eql 186 h 2 fun i=>let c:=Bh 50 i 49 h 12 h 11 g (Da 48 h 47 g 42 c 46 d); let d:=DO 53 (Bt a) 52 (BE a) 51 (BS a) c; CB i (Ig 145 a (BE a) (Bt a) f (fun c f=>FC a 2 fun h=>FB .sub g (BE a) fun i=>FB .sub h i fun j=>Dh (NZ ro K) a 12 (Jk 1) (FA 11 j 60 59 i 58 (BE a) (Dl 57 g 56 h 55 a 2 54 c d)) b f) fun c f=>CM (NZ ro K) c a d b f) (NZ ro K) a c b f) fun c f=>CM K c a d b f) K
def ja:=by
 have h:=@Na.eq_1; dsimp at h; exact h
def mm (ro:Option Nat) (e:Env) (ds:List Deferred) (K:AB) (W:CW):=by
 have h:C9 ro 128 134 e ds W K=H5 .sub e 2 1 fun a=>HY .leq a 12 fun b=>let a:=EC 23 b 22 a (DG 10 a 21 a 20 e 1 19 2); let c:=DO 26 (Bt e) 25 (BE e) 24 (BS e) a; wI b (Ig 141 e (BE e) (Bt e) W (fun a b=>G_ K e (eC 27 a c) ds b) fun a b=>CM K a e c ds b) (NN .eql 3 e 3 0 fun b=>let c:=eC 32 (Bt e) (Jr 31 (BE e) 30 e 29 b 28 (Ef e) a); wI b (Ig 142 e (BE e) (Bt e) W (fun a b=>G_ K e (eC 33 a c) ds b) fun a b=>CM K a e c ds b) (D1 (DH e) fun c=>let a:=Bh 35 c 34 (DH e) 29 b 28 (Ef e) a; let b:=DO 38 (Bt e) 37 (BE e) 36 (BS e) a; CB c (Ig 143 e (BE e) (Bt e) W (fun a c=>FC e 3 fun d=>UA (Na ro K) e (Dl 3 d 41 d 40 e 3 39 a b) ds c) fun a c=>CM (Na ro K) a e b ds c) (Na ro K) e a ds W)):=by kernel_rfl
 dsimp at h; exact h
def tT {Q v0 v1 v2 v3 W}:=Eo 128 134 [v0,v1,v2,v3] Tryz.f128 Q W Tryz.func128 (by kernel_rfl)
def tU (v0 v1 v2:Value) (K:AB) (W:CW):=by
 have h:H3 141 49 v0 v1 v2 W K=Mj v1 1 fun a=>GS 141 49 (E6 v0 v1 v2) (D9 6 a 9 8 v1 []) W K:=by kernel_rfl
 dsimp at h; exact h
def bR (ro:Option Nat) (K:AB):AB:=AW (fun a b c=>Bc a 6 fun d=>CQ K a 6 d 14 13 b c) K
def ov:=by
 have h:=@bR.eq_1; dsimp at h; exact h
def mn (ro:Option Nat) (e:Env) (ds:List Deferred) (K:AB) (W:CW):=by
 have h:C9 ro 141 49 e ds W K=HM 3 e 6 2 fun a=>let b:=Oo 12 a 11 (Bt e) 10 e 6; Di a (Gl ro 141 49 1 e (NQ 7 (EY e) 15 e 6 b) ds W 2 (CL 1 (bR ro K))) K e b ds W:=by kernel_rfl
 dsimp at h; exact h
def mo (ro:Option Nat) (K:AB):AB:=AW (fun a b c=>FC a 7 fun d=>CQ K a 7 d 32 31 b c) K
def ZG:=by
 have h:=@mo.eq_1; dsimp at h; exact h
def U3 (ro:Option Nat) (K:AB):AB:=AW (fun a b c=>FC a 7 fun d=>FC a 7 fun f=>Gs a 0 f fun g=>Aj g c fun h=>Bx a 7 fun i=>Aj i c fun j=>Bx a 7 fun k=>D' k h c fun l=>Gs a 0 d fun m=>D' m j l fun l=>SV (Kn 3 i c j 3 g c h) (mo ro K) a (Bh 48 m 47 k 46 j 45 i (Jr 44 (D3 a) 43 a 42 h 41 g (Dl 40 f 39 (D3 a) 38 a 0 37 d (BQ 36 (D3 a) 35 (BS a) 34 a 7 33 [])))) b l) K
def ZH:=by
 have h:=@U3.eq_1; dsimp at h; exact h
def U4 (ro:Option Nat) (K:AB):AB:=AW (fun e ds W=>wI (e 30) ((U3 ro K) .normal e ds W) ((U3 ro K) (.exit 2) e ds W)) (U3 ro K)
def xJ (ro:Option Nat) (e:Env) (ds:List Deferred) (K:AB) (W:CW):=by
 have h:Fu ro 141 49 1 e ds W K=H5 .gtr e 7 1 fun a=>let b:=DG 19 a 18 a 17 e 1 16 7; Km a (Bx e 7 fun a=>Aj a W fun c=>FC e 7 fun d=>Gs e 0 d fun f=>Aj f W fun g=>DZ 147 c g W (fun h i=>Fw (Gp 3 f W g 3 a W c) (U4 ro K) e 30 h (Bo 29 h 19 28 g (Bo 27 f 19 26 d (GA 25 e 7 19 24 (Bo 23 c 19 22 a (GA 21 e 7 19 20 b))))) ds i) fun _ _=>False) True (U4 ro K) e (EU 30 (Ia 29 19 28 (CC 27 19 26 25 24 (CC 23 19 22 21 20 b)))) ds W:=by kernel_rfl
 dsimp at h; exact h
def tV {Q v0 v1 v2 W}:=Eo 141 49 [v0,v1,v2] Tryz.f141 Q W Tryz.func141 (by kernel_rfl)
def mq (ro:Option Nat) (K:AB):AB:=AW (fun a b c=>FC a 8 fun d=>Gl ro 142 56 1 a (tG 10 d 28 27 a 8) b c 2 K) K
def ow:=by
 have h:=@mq.eq_1; dsimp at h; exact h
def AA1 (v0 v1 v2:Value) (K:AB) (W:CW):=by
 have h:H3 142 56 v0 v1 v2 W K=FB .sub v2 v1 fun a=>KU a 1 fun b=>HY .quo b 2 fun c=>GS 142 56 (E6 v0 v1 v2) (D9 9 c 17 16 b (FA 15 a 8 14 a 13 v1 (Da 12 v2 7 A5 6 v1 11 []))) W (mq none K):=by kernel_rfl
 dsimp at h; exact h
def bS (ro:Option Nat) (K:AB):AB:=AW (fun a b c=>FC a 9 fun d=>CQ K a 9 d 21 20 b c) K
def ox:=by
 have h:=@bS.eq_1; dsimp at h; exact h
def xK (ro:Option Nat) (e:Env) (ds:List Deferred) (K:AB) (W:CW):=by
 have h:C9 ro 142 56 e ds W K=NN .geq 3 e 9 0 fun a=>let b:=NQ 25 (EY e) 24 e 8 (BO 23 (Ee e) 22 (BS e) 19 a 18 (Ee e)); Di a (KW 156 (BS e) (Ee e) (DH e) (EY e) W (fun a c=>Dh (bS ro K) e 26 a b ds c) fun a c=>CM (bS ro K) a e b ds c) K e (Qz 19 a 18 e 9) ds W:=by kernel_rfl
 dsimp at h; exact h
def bT (ro:Option Nat) (K:AB):AB:=AW (fun a b c=>FC a 10 fun d=>CQ K a 10 d 32 31 b c) K
def oy:=by
 have h:=@bT.eq_1; dsimp at h; exact h
def xL (ro:Option Nat) (e:Env) (ds:List Deferred) (K:AB) (W:CW):=by
 have h:Fu ro 142 56 1 e ds W K=NN .geq 3 e 10 0 fun a=>ON a (Ox e 6 10 fun b=>Ox e 6 10 fun c=>Gs e 0 c fun d=>Aj d W fun f=>Bx e 6 fun g=>Aj g W fun h=>Bx e 6 fun i=>D' i f W fun j=>Gs e 0 b fun k=>let a:=BQ 54 (EY e) 53 (D2 e) 52 e 7 51 (Bh 50 k 49 i 48 h 47 g (Jr 46 (EY e) 45 e 44 f 43 d (BQ 42 c 41 (D2 e) 40 e 6 39 (BQ 38 b 37 (D2 e) 36 e 6 35 (BO 34 (EY e) 33 (BS e) 30 a 29 (D2 e)))))); D' k h j fun b=>GZ (Kn 3 g W h 3 d W f) (KW 156 (BS e) (D3 e) (D2 e) (EY e) b (fun b c=>Dh (bT ro K) e 55 b a ds c) fun b c=>CM (bT ro K) b e a ds c)) K 2 e (Qz 30 a 29 e 10) ds W:=by kernel_rfl
 dsimp at h; exact h
def AA2 {Q v0 v1 v2 W}:=Eo 142 56 [v0,v1,v2] Tryz.f142 Q W Tryz.func142 (by kernel_rfl)
def AA3 (v0 v1 v2:Value) (K:AB) (W:CW):=by
 have h:H3 143 65 v0 v1 v2 W K=FB .sub v2 v1 fun a=>Mi a 8 fun b=>let c:=EC 15 b 14 a (BO 6 a 13 a 12 v1 11 v2); CB b (wV (oV prog 3 205 a) fun b=>CI 205 W fun d f=>let c:=Bh 18 a 7 d 17 b 16 a c; Dw 205 d b f fun b=>DR 151 a b (fun b d=>HY .quo a 4 fun f=>HY .mul f 2 fun g=>FB .add v1 g fun h=>KU h 1 fun i=>GS 143 65 (E6 v0 v1 v2) (eC 9 i (Bh 25 i 24 h 23 g 22 f (Da 21 a 20 v1 8 b 19 c))) d K) fun a b=>Gn K a v0 v1 v2 c b) K (E6 v0 v1 v2) c [] W:=by kernel_rfl
 dsimp at h; exact h
def U5 (ro:Option Nat) (K:AB):AB:=AW (fun a b c=>Bc a 9 fun d=>CQ K a 9 d 35 34 b c) K
def oz:=by
 have h:=@U5.eq_1; dsimp at h; exact h
def U6 (ro:Option Nat) (K:AB):AB:=GR (fun a b c=>Ox a 1 10 fun d=>Ox a 1 10 fun f=>Gs a 0 f fun g=>Aj g c fun h=>Bx a 9 fun i=>Aj i c fun j=>Bx a 9 fun k=>D' k h c fun l=>Gs a 0 d fun m=>D' m j l fun l=>SV (Kn 3 i c j 3 g c h) (U5 ro K) a (EC 64 m 63 k (BQ 62 j 61 i 60 a 9 59 (Bh 58 h 57 g 56 f 55 (D2 a) (Jr 54 (BE a) 53 a 52 d 51 (D2 a) (BQ 50 (BE a) 49 (BS a) 48 a 9 47 []))))) b l) (U5 ro K)
def o9:=by
 have h:=@U6.eq_1; dsimp at h; exact h
def xM (ro:Option Nat) (e:Env) (ds:List Deferred) (K:AB) (W:CW):=by
 have h:C9 ro 143 65 e ds W K=NN .quo 3 e 6 4 fun a=>HY .mul a 2 fun b=>Yb .add 3 e 1 b fun c=>Mj c 1 fun d=>Yb .leq 3 e 9 d fun f=>let a:=Bh 33 f 32 d 31 c 30 b (DG 29 a 28 (EY e) 27 e 1 26 9); Di f (DR 152 (D3 e) W (fun b c=>Wg .sub 164 true (DH e) .u64 1 fun d=>UZ .and 164 b d fun f=>wV (oV prog 164 3 f) fun g=>FB .geq g (EY e) fun h=>let a:=eC 43 h (NO 42 (EY e) 41 g 10 40 (Dl 39 f 38 d 37 e 8 36 b a)); CB h (FB .sub g (EY e) fun b=>UA (U6 ro K) e (Dl 10 b 46 b 45 e 6 44 g a) ds c) (U6 ro K) e a ds c) fun b c=>CM (U5 ro K) b e a ds c) K e a ds W:=by kernel_rfl
 dsimp at h; exact h
def AA4 {Q v0 v1 v2 W}:=Eo 143 65 [v0,v1,v2] Tryz.f143 Q W Tryz.func143 (by kernel_rfl)
def Q3 (ro:Option Nat) (K:AB):AB:=AW (fun a b c=>EJ 3 a 9 c fun d=>HY .eql d 0 fun f=>let g:=D9 51 f 52 49 d []; Wh f K a (oc 7 (Jk 1) 6 (Dq a) 53 a 11 g) b c (HY .eql d 12 fun d=>Wh d K a (NU 7 2 (Da 6 (Dq a) 56 (Dq a) 54 d 55 g)) b c (G_ K a (eC 7 A5 (Da 6 (Dq a) 50 (Dq a) 54 d 55 g)) b c))) K
def o_:=by
 have h:=@Q3.eq_1; dsimp at h; exact h
def N0 (ro:Option Nat) (K:AB):AB:=AW (fun a b c=>let d:=BQ 47 (a 12) 46 (Dq a) 45 a 10 44 []; fD 158 [BS a,D2 a,Dq a,a 12,Ee a] c (fun c f=>D8 (Q3 ro K) a 11 c 48 d b f) fun c f=>CM (Q3 ro K) c a d b f) (Q3 ro K)
def pA:=by
 have h:=@N0.eq_1; dsimp at h; exact h
def AA5 (v0 v1 v2:Value) (K:AB) (W:CW):=by
 have h:H3 144 57 v0 v1 v2 W K=FB .sub v2 v1 fun a=>CI 3 W fun b c=>HY .quo a 4 fun d=>HY .mul d 1 fun f=>FB .add v1 f fun g=>HY .quo a 4 fun h=>HY .mul h 2 fun i=>FB .add v1 i fun j=>HY .quo a 4 fun k=>HY .mul k 3 fun l=>FB .add v1 l fun m=>Mi a 8 fun n=>let d:=DO 32 n 31 a 12 m (Bh 30 m 29 l 28 k 27 a (Bh 26 v1 11 j 25 j 24 i (Bh 23 h 22 a 21 v1 10 g (Bh 20 g 19 f 18 d 17 a (Da 16 v1 9 b 8 a 15 (BO 14 v1 13 v2 7 A5 6 A5)))))); CB n (Mi a 50 fun f=>let h:=Bh 36 g 35 v0 34 f 33 a d; CB f (Ic 157 v0 g b c (fun a c=>let a:=Da 39 j 38 v0 10 a 37 h; Ic 157 v0 j b c (fun c d=>let a:=Da 42 m 41 v0 11 c 40 a; Ic 157 v0 m b d (fun b c=>D8 (N0 none K) (E6 v0 v1 v2) 12 b 43 a [] c) fun b c=>Gn (N0 none K) b v0 v1 v2 a c) fun b c=>Gn (N0 none K) b v0 v1 v2 a c) fun a b=>Gn (N0 none K) a v0 v1 v2 h b) (N0 none K) (E6 v0 v1 v2) (EC 34 f 33 a d) [] c) (Q3 none K) (E6 v0 v1 v2) d [] c:=by kernel_rfl
 dsimp at h; exact h
theorem PI (Q:Ending→CW→Prop) (e:Env) (W:CW):AJ prog Tryz.f144 Q .ret e [] W=Q (.returned (.tuple #[e 6,e 7])) W:=by kernel_rfl
def AA6 {Q v0 v1 v2 W}:=Eo 144 57 [v0,v1,v2] Tryz.f144 Q W Tryz.func144 (by kernel_rfl)
def AA7 (v0 v1 v2:Value) (K:AB) (W:CW):=by
 have h:H3 145 32 v0 v1 v2 W K=KU v2 1 fun a=>GS 145 32 (E6 v0 v1 v2) (eC 7 a (Da 10 a 9 v2 6 v1 8 [])) W K:=by kernel_rfl
 dsimp at h; exact h
def xN (ro:Option Nat) (e:Env) (ds:List Deferred) (K:AB) (W:CW):=by
 have h:C9 ro 145 32 e ds W K=HM 3 e 6 7 fun a=>let b:=Oo 13 a 12 (D3 e) 11 e 6; Di a (Bx e 7 fun a=>Aj a W fun c=>Bx e 6 fun d=>Aj d W fun f=>Bx e 6 fun g=>D' g c W fun h=>Bx e 7 fun i=>D' i f h fun h=>GZ (Kn 3 d W f 3 a W c) (Bc e 6 fun j=>FC e 7 fun k=>UA K e (Dl 7 k 31 k 30 e 7 6 j (Bh 29 j 28 (EY e) 27 i 26 g (BQ 25 f 24 d 23 e 6 22 (BQ 21 c 20 a 19 e 7 18 (BQ 17 (D3 e) 16 (BS e) 15 e 6 14 b))))) ds h)) K e b ds W:=by kernel_rfl
 dsimp at h; exact h
def AA8 {Q v0 v1 v2 W}:=Eo 145 32 [v0,v1,v2] Tryz.f145 Q W Tryz.func145 (by kernel_rfl)
def mr (ro:Option Nat) (K:AB):AB:=AW (fun e ds W=>K .ret (Env.of e [(6,(.bool false))]) ds W) K
def AA9 (v0 v1 v2:Value) (K:AB) (W:CW):=by
 have h:H3 146 133 v0 v1 v2 W K=Mj v1 1 fun a=>GS 146 133 (E6 v0 v1 v2) (DO 8 A5 7 a 12 a (Gr 11 v1 6)) W (mr none K):=by kernel_rfl
 dsimp at h; exact h
def MK (ro:Option Nat) (K:AB):AB:=AW (fun a b c=>Bc a 8 fun d=>CQ K a 8 d 16 15 b c) K
def ZI:=by
 have h:=@MK.eq_1; dsimp at h; exact h
def bU (ro:Option Nat) (K:AB):AB:=GR (fun a b c=>H5 .sub a 2 7 fun d=>Mi d 2 fun f=>let d:=DG 98 f 97 d 96 a 7 95 2; CB f (Bc a 7 fun f=>Gl ro 146 133 3 a (oc 10 f 100 f 99 a 7 d) b c 6 (CL 1 (MK ro K))) (MK ro K) a d b c) (MK ro K)
def ADR:=by
 have h:=@bU.eq_1; dsimp at h; exact h
def bV (ro:Option Nat) (K:AB):AB:=GR (fun a b c=>H5 .eql a 7 2 fun d=>let f:=Oo 37 d 36 (Bt a) 35 a 7; Wh d (MK ro K) a (Qy 6 f) b c (H5 .sub a 2 1 fun d=>NT d 50 fun g=>let d:=Dl 41 g 40 d 39 a 1 38 (Bt a) f; Wh g (MK ro K) a (EU 6 d) b c (FC a 7 fun f=>FC a 7 fun g=>Gs a 0 g fun h=>Aj h c fun i=>Bx a 7 fun j=>Aj j c fun k=>Bx a 7 fun l=>D' l i c fun m=>Gs a 0 f fun n=>D' n k m fun m=>GZ (Kn 3 j c k 3 h c i) (H5 .sub a 7 1 fun c=>Mi c 2 fun o=>let c:=Dl 61 o 60 c 59 a 1 58 (D3 a) (Bh 57 n 56 l 55 k 54 j (Jr 53 (D3 a) 52 a 51 i 50 h (Dl 49 g 48 (D3 a) 47 a 0 46 f (BQ 45 (D3 a) 44 (BS a) 43 a 7 42 d)))); CB o (FC a 7 fun d=>Gl ro 146 133 2 a (oc 9 d 63 d 62 a 7 c) b m 4 (bU ro K)) (bU ro K) a c b m)))) (MK ro K)
def pB:=by
 have h:=@bV.eq_1; dsimp at h; exact h
def xO (ro:Option Nat) (e:Env) (ds:List Deferred) (K:AB) (W:CW):=by
 have h:C9 ro 146 133 e ds W K=NN .lss 3 e 8 5 fun a=>Di a (Gl ro 146 133 1 e (Qz 14 a 13 e 8) ds W 2 (bV ro K)) K e (Qz 14 a 13 e 8) ds W:=by kernel_rfl
 dsimp at h; exact h
def U7 (ro:Option Nat) (K:AB):AB:=AW (fun a b c=>Bc a 7 fun d=>CQ K a 7 d 34 33 b c) K
def ZJ:=by
 have h:=@U7.eq_1; dsimp at h; exact h
def U8 (ro:Option Nat) (K:AB):AB:=AW (fun e ds W=>wI (e 32) ((U7 ro K) .normal e ds W) ((U7 ro K) (.exit 2) e ds W)) (U7 ro K)
def xP (ro:Option Nat) (e:Env) (ds:List Deferred) (K:AB) (W:CW):=by
 have h:Fu ro 146 133 1 e ds W K=HM 3 e 7 2 fun a=>let b:=DG 20 a 19 a 18 e 2 17 7; Km a (Bx e 7 fun a=>Aj a W fun c=>FC e 7 fun d=>Gs e 0 d fun f=>Aj f W fun g=>DZ 147 c g W (fun h i=>D1 h fun j=>Fw (Gp 3 f W g 3 a W c) (U8 ro K) e 32 j (Hi 31 j 20 30 h 20 29 g (Bo 28 f 20 27 d (GA 26 e 7 20 25 (Bo 24 c 20 23 a (GA 22 e 7 20 21 b))))) ds i) fun _ _=>False) True (U8 ro K) e (KX 32 31 undef 20 (Ia 30 20 29 (CC 28 20 27 26 25 (CC 24 20 23 22 21 b)))) ds W:=by kernel_rfl
 dsimp at h; exact h
theorem jb (Q:Ending→CW→Prop) (e:Env) (W:CW):AJ prog Tryz.f146 Q .ret e [] W=Q (.returned (e 6)) W:=by kernel_rfl
def AA' {Q v0 v1 v2 W}:=Eo 146 133 [v0,v1,v2] Tryz.f146 Q W Tryz.func146 (by kernel_rfl)
def mu (ro:Option Nat) (K:AB):AB:=AW (fun e ds W=>K .ret (Env.of e [(8,(e 9)),(83,(e 9))]) ds W) K
def AA_ (v0 v1 v2 v3:Value) (K:AB) (W:CW):=by
 have h:PH 148 84 (Gm v0 v1 v2 v3) W K=EZ v0 v3 fun a=>Aj a W fun b=>EZ v0 v1 fun c=>Aj c W fun d=>EZ v0 v1 fun f=>D' f b W fun g=>EZ v0 v3 fun h=>D' h d g fun g=>GZ (Kn 3 c W d 3 a W b) (Mj v1 1 fun i=>KU v2 1 fun j=>GS 148 84 (Gm v0 v1 v2 v3) (eC 10 j (Bh 9 i 28 j 27 v2 26 i (Bh 25 v1 24 h 23 f 22 d (Bh 21 c 20 v1 19 v0 18 b (Bh 17 a 16 v3 15 v0 14 v3 (BO 13 v0 12 v1 11 v0 8 A5)))))) g (mu none K)):=by kernel_rfl
 dsimp at h; exact h
def mv (ro:Option Nat) (K:AB):AB:=GR (fun a b c=>H5 .gtr a 9 10 fun d=>let f:=Oo 64 d 63 (D2 a) 62 a 9; wI d (tC K 0 a f b c) (Bx a 10 fun d=>Aj d c fun g=>Bx a 9 fun h=>Aj h c fun i=>Bx a 9 fun j=>D' j g c fun k=>Bx a 10 fun l=>D' l i k fun k=>GZ (Kn 3 h c i 3 d c g) (Bc a 9 fun c=>FC a 10 fun m=>UA K a (Dl 10 m 82 m 81 a 10 9 c (Bh 80 c 79 (Ee a) 78 l 77 j (BQ 76 i 75 h 74 a 9 73 (BQ 72 g 71 d 70 a 10 69 (BQ 68 (D2 a) 67 (BS a) 66 a 9 65 f))))) b k))) K
def pC:=by
 have h:=@mv.eq_1; dsimp at h; exact h
def mw (ro:Option Nat) (K:AB):AB:=AW (fun e ds W=>Fk prog Br ro 148 84 (.loop (ES prog 148 2)) e ds W (CL 4 (mv ro K))) (CL 1 K)
def xQ (ro:Option Nat) (e:Env) (ds:List Deferred) (K:AB) (W:CW):=by
 have h:C9 ro 148 84 e ds W K=tE ro 148 84 1 e ds W 2 (mw ro K):=by kernel_rfl
 dsimp at h; exact h
def U9 (ro:Option Nat) (K:AB):AB:=AW (fun a b c=>Bc a 9 fun d=>CQ K a 9 d 45 44 b c) K
def ZK:=by
 have h:=@U9.eq_1; dsimp at h; exact h
def U' (ro:Option Nat) (K:AB):AB:=AW (fun e ds W=>wI (e 43) ((U9 ro K) .normal e ds W) ((U9 ro K) (.exit 2) e ds W)) (U9 ro K)
def xR (ro:Option Nat) (e:Env) (ds:List Deferred) (K:AB) (W:CW):=by
 have h:Fu ro 148 84 1 e ds W K=H5 .leq e 9 10 fun a=>let b:=DG 32 a 31 a 30 e 10 29 9; Km a (Bx e 1 fun a=>Aj a W fun c=>Bx e 9 fun d=>Aj d W fun f=>DZ 147 c f W (fun g h=>D1 g fun i=>Fw (Gp 3 d W f 3 a W c) (U' ro K) e 43 i (Bo 42 i 32 41 g (Bo 40 f 32 39 d (GA 38 e 9 32 37 (Bo 36 c 32 35 a (GA 34 e 1 32 33 b))))) ds h) fun _ _=>False) True (U' ro K) e (EU 43 (Ia 42 32 41 (CC 40 32 39 38 37 (CC 36 32 35 34 33 b)))) ds W:=by kernel_rfl
 dsimp at h; exact h
def Q4 (ro:Option Nat) (K:AB):AB:=AW (fun a b c=>FC a 10 fun d=>CQ K a 10 d 61 60 b c) K
def Ws:=by
 have h:=@Q4.eq_1; dsimp at h; exact h
def Q5 (ro:Option Nat) (K:AB):AB:=AW (fun e ds W=>wI (e 59) ((Q4 ro K) .normal e ds W) ((Q4 ro K) (.exit 4) e ds W)) (Q4 ro K)
def xS (ro:Option Nat) (e:Env) (ds:List Deferred) (K:AB) (W:CW):=by
 have h:Fu ro 148 84 2 e ds W K=H5 .leq e 9 10 fun a=>let b:=DG 49 a 48 a 47 e 10 46 9; Km a (Bx e 1 fun a=>Aj a W fun c=>Bx e 10 fun d=>Aj d W fun f=>DZ 147 c f W (fun g h=>Fw (Gp 3 d W f 3 a W c) (Q5 ro K) e 59 g (Hi 58 g 49 57 f 49 56 d (GA 55 e 10 49 54 (Bo 53 c 49 52 a (GA 51 e 1 49 50 b)))) ds h) fun _ _=>False) True (Q5 ro K) e (KX 59 58 undef 49 (CC 57 49 56 55 54 (CC 53 49 52 51 50 b))) ds W:=by kernel_rfl
 dsimp at h; exact h
theorem jc (Q:Ending→CW→Prop) (e:Env) (W:CW):AJ prog Tryz.f148 Q .ret e [] W=Q (.returned (e 8)) W:=by kernel_rfl
def ABA {Q v0 v1 v2 v3 W}:=Eo 148 84 [v0,v1,v2,v3] Tryz.f148 Q W Tryz.func148 (by kernel_rfl)
def my (ro:Option Nat) (K:AB):AB:=AW (fun a b c=>Bx a 1 fun d=>Aj d c fun f=>Bx a 11 fun g=>Aj g c fun h=>Bx a 11 fun i=>D' i f c fun j=>Bx a 1 fun k=>D' k h j fun j=>GZ (Kn 3 g c h 3 d c f) (G_ K a (EU 9 (Bh 8 (Dq a) 167 (Dq a) 166 k 165 i (BQ 164 h 163 g 162 a 11 161 (BQ 160 f 159 d 158 a 1 157 (BQ 156 (BE a) 155 (BS a) 154 a 11 153 []))))) b j)) K
def pD:=by
 have h:=@my.eq_1; dsimp at h; exact h
def mz (ro:Option Nat) (K:AB):AB:=AW (fun a b c=>H5 .gtr a 10 11 fun d=>let f:=Oo 65 d 64 (Dq a) 63 a 10; wI d (Bx a 1 fun d=>Aj d c fun g=>Bx a 11 fun h=>Aj h c fun i=>Bx a 11 fun j=>D' j g c fun k=>Bx a 1 fun l=>D' l i k fun k=>GZ (Kn 3 h c i 3 d c g) (G_ K a (Qy 9 (Bh 8 (Dq a) 80 (Dq a) 79 l 78 j (BQ 77 i 76 h 75 a 11 74 (BQ 73 g 72 d 71 a 1 70 (BQ 69 (BE a) 68 (BS a) 67 a 11 66 f))))) b k)) (Bx a 11 fun d=>Aj d c fun g=>Bx a 10 fun h=>Aj h c fun i=>Bx a 10 fun j=>D' j g c fun k=>Bx a 11 fun l=>D' l i k fun k=>GZ (Kn 3 h c i 3 d c g) (Bc a 10 fun c=>FC a 11 fun m=>Gl ro 149 168 2 a (Dl 11 m 98 m 97 a 11 10 c (Bh 96 c 95 (D2 a) 94 l 93 j (BQ 92 i 91 h 90 a 10 89 (BQ 88 g 87 d 86 a 11 85 (BQ 84 (Dq a) 83 (BS a) 82 a 10 81 f))))) b k 4 (my ro K)))) K
def pE:=by
 have h:=@mz.eq_1; dsimp at h; exact h
def fG (ro:Option Nat) (K:AB):AB:=AW (fun e ds W=>Fk prog Br ro 149 168 (.loop (ES prog 149 1)) e ds W (CL 2 (mz ro K))) K
def ABB (v0 v1 v2 v3:Value) (K:AB) (W:CW):=by
 have h:PH 149 168 (Gm v0 v1 v2 v3) W K=EZ v0 v3 fun a=>Aj a W fun b=>EZ v0 v1 fun c=>Aj c W fun d=>EZ v0 v1 fun f=>D' f b W fun g=>EZ v0 v3 fun h=>D' h d g fun g=>GZ (Kn 3 c W d 3 a W b) (Mj v1 1 fun i=>KU v2 1 fun j=>GS 149 168 (Gm v0 v1 v2 v3) (EC 11 j 10 i (Bh 29 j 28 v2 27 i 26 v1 (Bh 25 h 24 f 23 d 22 c (Bh 21 v1 20 v0 19 b 18 a (Bh 17 v3 16 v0 15 v3 14 v0 (Jl 13 v1 12 v0 9 false 8 A5 [])))))) g (fG none K)):=by kernel_rfl
 dsimp at h; exact h
def Q6 (ro:Option Nat) (K:AB):AB:=AW (fun a b c=>Bc a 10 fun d=>CQ K a 10 d 45 44 b c) K
def Wt:=by
 have h:=@Q6.eq_1; dsimp at h; exact h
def Q7 (ro:Option Nat) (K:AB):AB:=AW (fun e ds W=>wI (e 43) ((Q6 ro K) .normal e ds W) ((Q6 ro K) (.exit 0) e ds W)) (Q6 ro K)
def xT (ro:Option Nat) (e:Env) (ds:List Deferred) (K:AB) (W:CW):=by
 have h:C9 ro 149 168 e ds W K=H5 .leq e 10 11 fun a=>let b:=DG 33 a 32 a 31 e 11 30 10; Km a (Bx e 10 fun a=>Aj a W fun c=>Bx e 1 fun d=>Aj d W fun f=>DZ 147 c f W (fun g h=>Fw (Gp 3 d W f 3 a W c) (Q7 ro K) e 43 g (Hi 42 g 33 41 f 33 40 d (GA 39 e 1 33 38 (Bo 37 c 33 36 a (GA 35 e 10 33 34 b)))) ds h) fun _ _=>False) True (Q7 ro K) e (KX 43 42 undef 33 (CC 41 33 40 39 38 (CC 37 33 36 35 34 b))) ds W:=by kernel_rfl
 dsimp at h; exact h
def Q8 (ro:Option Nat) (K:AB):AB:=AW (fun a b c=>FC a 11 fun d=>CQ K a 11 d 62 61 b c) K
def Wu:=by
 have h:=@Q8.eq_1; dsimp at h; exact h
def Q9 (ro:Option Nat) (K:AB):AB:=AW (fun e ds W=>wI (e 60) ((Q8 ro K) .normal e ds W) ((Q8 ro K) (.exit 2) e ds W)) (Q8 ro K)
def xU (ro:Option Nat) (e:Env) (ds:List Deferred) (K:AB) (W:CW):=by
 have h:Fu ro 149 168 1 e ds W K=H5 .leq e 10 11 fun a=>let b:=DG 49 a 48 a 47 e 11 46 10; Km a (Bx e 11 fun a=>Aj a W fun c=>Bx e 1 fun d=>Aj d W fun f=>DZ 147 c f W (fun g h=>D1 g fun i=>Fw (Gp 3 d W f 3 a W c) (Q9 ro K) e 60 i (Bo 59 i 49 58 g (Bo 57 f 49 56 d (GA 55 e 1 49 54 (Bo 53 c 49 52 a (GA 51 e 11 49 50 b))))) ds h) fun _ _=>False) True (Q9 ro K) e (EU 60 (Ia 59 49 58 (CC 57 49 56 55 54 (CC 53 49 52 51 50 b)))) ds W:=by kernel_rfl
 dsimp at h; exact h
def fH (ro:Option Nat) (K:AB):AB:=Wk (fun a b c=>H5 .gtr a 10 11 fun d=>let f:=Oo 134 d 133 (Dq a) 132 a 10; wI d (tC K 4 a f b c) (Bx a 11 fun d=>Aj d c fun g=>Bx a 10 fun h=>Aj h c fun i=>Bx a 10 fun j=>D' j g c fun k=>Bx a 11 fun l=>D' l i k fun k=>GZ (Kn 3 h c i 3 d c g) (Bc a 10 fun c=>FC a 11 fun m=>UA K a (Dl 11 m 152 m 151 a 11 10 c (Bh 150 c 149 (D2 a) 148 l 147 j (BQ 146 i 145 h 144 a 10 143 (BQ 142 g 141 d 140 a 11 139 (BQ 138 (Dq a) 137 (BS a) 136 a 10 135 f))))) b k))) 5 K
def jd:=by
 have h:=@fH.eq_1; dsimp at h; exact h
def fI (ro:Option Nat) (K:AB):AB:=AW (fun e ds W=>Fk prog Br ro 149 168 (.loop (ES prog 149 4)) e ds W (CL 8 (fH ro K))) (CL 5 K)
def xV (ro:Option Nat) (e:Env) (ds:List Deferred) (K:AB) (W:CW):=by
 have h:Fu ro 149 168 2 e ds W K=tE ro 149 168 3 e ds W 6 (fI ro K):=by kernel_rfl
 dsimp at h; exact h
def Q_ (ro:Option Nat) (K:AB):AB:=AW (fun a b c=>Bc a 10 fun d=>CQ K a 10 d 114 113 b c) K
def Wv:=by
 have h:=@Q_.eq_1; dsimp at h; exact h
def RA (ro:Option Nat) (K:AB):AB:=AW (fun e ds W=>wI (e 112) ((Q_ ro K) .normal e ds W) ((Q_ ro K) (.exit 6) e ds W)) (Q_ ro K)
def xW (ro:Option Nat) (e:Env) (ds:List Deferred) (K:AB) (W:CW):=by
 have h:Fu ro 149 168 3 e ds W K=H5 .leq e 10 11 fun a=>let b:=DG 102 a 101 a 100 e 11 99 10; Km a (Bx e 10 fun a=>Aj a W fun c=>Bx e 1 fun d=>Aj d W fun f=>DZ 147 c f W (fun g h=>Fw (Gp 3 d W f 3 a W c) (RA ro K) e 112 g (Hi 111 g 102 110 f 102 109 d (GA 108 e 1 102 107 (Bo 106 c 102 105 a (GA 104 e 10 102 103 b)))) ds h) fun _ _=>False) True (RA ro K) e (KX 112 111 undef 102 (CC 110 102 109 108 107 (CC 106 102 105 104 103 b))) ds W:=by kernel_rfl
 dsimp at h; exact h
def RB (ro:Option Nat) (K:AB):AB:=AW (fun a b c=>FC a 11 fun d=>CQ K a 11 d 131 130 b c) K
def Ww:=by
 have h:=@RB.eq_1; dsimp at h; exact h
def RC (ro:Option Nat) (K:AB):AB:=AW (fun e ds W=>wI (e 129) ((RB ro K) .normal e ds W) ((RB ro K) (.exit 8) e ds W)) (RB ro K)
def xX (ro:Option Nat) (e:Env) (ds:List Deferred) (K:AB) (W:CW):=by
 have h:Fu ro 149 168 4 e ds W K=H5 .leq e 10 11 fun a=>let b:=DG 118 a 117 a 116 e 11 115 10; Km a (Bx e 11 fun a=>Aj a W fun c=>Bx e 1 fun d=>Aj d W fun f=>DZ 147 c f W (fun g h=>D1 g fun i=>Fw (Gp 3 d W f 3 a W c) (RC ro K) e 129 i (Bo 128 i 118 127 g (Bo 126 f 118 125 d (GA 124 e 1 118 123 (Bo 122 c 118 121 a (GA 120 e 11 118 119 b))))) ds h) fun _ _=>False) True (RC ro K) e (EU 129 (Ia 128 118 127 (CC 126 118 125 124 123 (CC 122 118 121 120 119 b)))) ds W:=by kernel_rfl
 dsimp at h; exact h
theorem je (Q:Ending→CW→Prop) (e:Env) (W:CW):AJ prog Tryz.f149 Q .ret e [] W=Q (.returned (.tuple #[e 8,e 9])) W:=by kernel_rfl
def ABC {Q v0 v1 v2 v3 W}:=Eo 149 168 [v0,v1,v2,v3] Tryz.f149 Q W Tryz.func149 (by kernel_rfl)
def ABD (v0:Value) (K:AB) (W:CW):=by
 have h:GO 151 7 v0 W K=wV (oV prog 3 164 v0) fun a=>let b:=Gt 4 a 3 v0 2 (.int .u64 0); DR 116 a W (fun a c=>UY .shl 164 true (.int .u64 1) a fun d=>NW K v0 (D9 2 d 6 5 a b) c) fun a c=>Ib K a (Dg v0) b c:=by kernel_rfl
 dsimp at h; exact h
theorem jf (Q:Ending→CW→Prop) (e:Env) (W:CW):AJ prog Tryz.f151 Q .ret e [] W=Q (.returned (e 2)) W:=by kernel_rfl
def ABE {Q v0 W}:=Eo 151 7 [v0] Tryz.f151 Q W Tryz.func151 (by kernel_rfl)
def ABF (v0:Value) (K:AB) (W:CW):=by
 have h:GO 152 33 v0 W K=EV v0 fun a=>BI 205 a W fun b=>EV v0 fun c=>BI 205 c W fun d=>Wg .shl 205 true d .u64 13 fun f=>UZ .xor 205 b f fun g=>EV v0 fun h=>Dw 205 h g W fun i=>GZ (Gp 205 c W d 205 a W b) (EV v0 fun j=>BI 205 j i fun k=>EV v0 fun l=>BI 205 l i fun m=>Wg .shr 205 true m .u64 7 fun n=>UZ .xor 205 k n fun o=>EV v0 fun p=>Dw 205 p o i fun q=>GZ (Gp 205 l i m 205 j i k) (EV v0 fun i=>BI 205 i q fun r=>EV v0 fun s=>BI 205 s q fun t=>Wg .shl 205 true t .u64 17 fun u=>UZ .xor 205 r u fun v=>EV v0 fun w=>Dw 205 w v q fun y=>GZ (Gp 205 s q t 205 i q r) (EV v0 fun q=>BI 205 q y fun z=>NW K v0 (FA 2 z 32 31 q 30 v0 (Bh 29 w 28 v 27 u 26 t (Bh 25 s 24 v0 23 r 22 i (Bh 21 v0 20 p 19 o 18 n (Bh 17 m 16 l 15 v0 14 k (Bh 13 j 12 v0 11 h 10 g (Bh 9 f 8 d 7 c 6 v0 (BO 5 b 4 a 3 v0 2 (.int .u64 0))))))))) y))):=by kernel_rfl
 dsimp at h; exact h
theorem jg (Q:Ending→CW→Prop) (e:Env) (W:CW):AJ prog Tryz.f152 Q .ret e [] W=Q (.returned (e 2)) W:=by kernel_rfl
def ABG {Q v0 W}:=Eo 152 33 [v0] Tryz.f152 Q W Tryz.func152 (by kernel_rfl)
def ABH (v0 v1 v2 v3:Value) (K:AB) (W:CW):=by
 have h:PH 156 76 (Gm v0 v1 v2 v3) W K=GS 156 76 (Gm v0 v1 v2 v3) (Db 8 v1 10 []) W K:=by kernel_rfl
 dsimp at h; exact h
def RD (ro:Option Nat) (K:AB):AB:=GR (fun a b c=>Ox a 3 8 fun d=>Gs a 0 d fun f=>Aj f c fun g=>Ox a 3 9 fun h=>Gs a 0 h fun i=>Aj i c fun j=>DZ 147 g j c (fun k l=>D1 k fun m=>let d:=EC 52 m 51 k (Bh 50 j 49 i 48 h 47 (Ee a) (Jr 46 (Ef a) 45 a 44 g 43 f (BQ 42 d 41 (DH a) 40 a 3 39 []))); GZ (Gp 3 i c j 3 f c g) (Wh m K a d b l (Ox a 3 8 fun c=>Ox a 3 9 fun f=>Ox a 3 9 fun g=>Gs a 0 g fun h=>Aj h l fun i=>Ox a 3 8 fun j=>Gs a 0 j fun k=>Aj k l fun m=>Gs a 0 c fun n=>D' n i l fun o=>Gs a 0 f fun p=>D' p m o fun o=>SV (Kn 3 k l m 3 h l i) K a (Bh 8 (Ee a) 75 (Ee a) 74 p 73 n (Bh 72 m 71 k 70 j 69 (DH a) (Jr 68 (Ef a) 67 a 66 i 65 h (BQ 64 g 63 (Ee a) 62 a 3 61 (BQ 60 f 59 (Ee a) 58 a 3 57 (BQ 56 c 55 (DH a) 54 a 3 53 d)))))) b o))) fun _ _=>False) K
def pF:=by
 have h:=@RD.eq_1; dsimp at h; exact h
def U_ (ro:Option Nat) (K:AB):AB:=AW (fun a b c=>Y_ a 36 (Bc a 9 fun d=>CQ (RD ro K) a 9 d 38 37 b c) (RD ro K) a b c) (RD ro K)
def pG:=by
 have h:=@U_.eq_1; dsimp at h; exact h
def xY (ro:Option Nat) (e:Env) (ds:List Deferred) (K:AB) (W:CW):=by
 have h:C9 ro 156 76 e ds W K=UY .mul 3 true (Jk 2) (DH e) fun a=>Mj a 1 fun b=>FB .geq b (Bt e) fun c=>let a:=DO 16 c 15 (Bt e) 14 b (BO 9 b 13 b 12 a 11 (DH e)); wI c (tC K 0 e a ds W) (Mj b 1 fun c=>FB .lss c (Bt e) fun d=>let a:=eC 21 d (Bh 20 d 19 (Bt e) 18 c 17 b a); Km d (Yb .add 3 e 3 b fun c=>Gs e 0 c fun d=>Aj d W fun f=>Yb .add 3 e 3 b fun g=>Mj g 1 fun h=>Gs e 0 h fun i=>Aj i W fun j=>DZ 147 f j W (fun k l=>Fw (Gp 3 i W j 3 d W f) (U_ ro K) e 36 k (Bo 35 k 21 34 j (Bo 33 i 21 32 h (Bo 31 g 21 30 b (GA 29 e 3 21 28 (Bo 27 f 21 26 d (Bo 25 c 21 24 b (GA 23 e 3 21 22 a))))))) ds l) fun _ _=>False) True (U_ ro K) e (EU 36 (Ia 35 21 34 (CC 33 21 32 31 30 (CC 29 21 28 27 26 (CC 25 21 24 23 22 a))))) ds W):=by kernel_rfl
 dsimp at h; exact h
def ABI {Q v0 v1 v2 v3 W}:=Eo 156 76 [v0,v1,v2,v3] Tryz.f156 Q W Tryz.func156 (by kernel_rfl)
def ABJ (v0 v1 v2 v3 v4:Value) (K:AB) (W:CW):=by
 have h:PH 158 36 (F' v0 v1 v2 v3 v4) W K=(let a:=eC 15 v4 (BO 14 v2 13 v1 12 v0 10 A5); KW 161 v0 v1 v2 v4 W (fun b c=>CX b fun d=>CY b fun f=>let a:=EC 23 v4 22 v3 (Bh 21 f 20 v0 2 f 1 d (Da 18 f 17 d 11 b 16 a)); KW 161 v0 f v3 v4 c (fun b c=>CX b fun f=>CY b fun g=>let a:=EC 31 v4 30 f (Bh 29 d 28 v0 3 g 2 f (Da 26 g 25 f 19 b 24 a)); KW 161 v0 d f v4 c (fun b c=>CX b fun d=>CY b fun f=>Jm K (F' v0 v1 v2 v3 v4) (FA 10 f 35 2 f 1 d (Da 34 f 33 d 27 b 32 a)) c) fun b c=>Ib K b (F' v0 v1 v2 v3 v4) a c) fun b c=>Ib K b (F' v0 v1 v2 v3 v4) a c) fun b c=>Ib K b (F' v0 v1 v2 v3 v4) a c):=by kernel_rfl
 dsimp at h; exact h
theorem jh (Q:Ending→CW→Prop) (e:Env) (W:CW):AJ prog Tryz.f158 Q .ret e [] W=Q (.returned (e 10)) W:=by kernel_rfl
def ABK {Q v0 v1 v2 v3 v4 W}:=Eo 158 36 [v0,v1,v2,v3,v4] Tryz.f158 Q W Tryz.func158 (by kernel_rfl)
def ABL (v0 v1 v2 v3:Value) (K:AB) (W:CW):=by
 have h:PH 161 28 (Gm v0 v1 v2 v3) W K=EZ v0 v2 fun a=>Aj a W fun b=>EZ v0 v1 fun c=>Aj c W fun d=>DZ 147 b d W (fun f g=>let h:=DO 18 f 17 d 16 c (Bh 15 v1 14 v0 13 b 12 a (BO 11 v2 10 v0 9 A5 8 A5)); GZ (Gp 3 c W d 3 a W b) (wI f (EV v3 fun a=>Aj a g fun b=>Mj b 1 fun c=>EV v3 fun d=>D' d c g fun f=>Jm K (Gm v0 v1 v2 v3) (eC 9 v1 (Bh 8 v2 25 v1 24 v2 23 d (Bh 22 c 21 b 20 a 19 v3 h))) f) (Jm K (Gm v0 v1 v2 v3) (Bh 9 v2 8 v1 27 v2 26 v1 h) g))) fun _ _=>False:=by kernel_rfl
 dsimp at h; exact h
theorem Wx (Q:Ending→CW→Prop) (e:Env) (W:CW):AJ prog Tryz.f161 Q .ret e [] W=Q (.returned (.tuple #[e 8,e 9])) W:=by kernel_rfl
def ABM {Q v0 v1 v2 v3 W}:=Eo 161 28 [v0,v1,v2,v3] Tryz.f161 Q W Tryz.func161 (by kernel_rfl)
end Go.Ce
namespace Go.Ce
open Go Go.Proofs Go.Proofs.Tryz
def bW (ro:Option Nat) (K:AB):AB:=AW (fun e ds W=>K .ret e ds W) K
def ji (ro:Option Nat) (K:AB):AB:=AW (fun a b c=>HK 9 a c fun d=>Mi d 1 fun f=>let d:=BO 23 f 22 f 21 d 20 (BS a); CB f (HK 9 a c fun f=>HY .leq f 60 fun g=>D8 (bW ro K) a 2 g 27 (Hi 26 g 23 25 f 23 24 (BS a) d) b c) (bW ro K) a (BG 2 27 26 23 25 24 d) b c) K
def fJ:=by
 have h:=@ji.eq_1; dsimp at h; exact h
def AEd (v0:Value) (K:AB) (W:CW):=by
 have h:GO 95 28 v0 W K=GS 95 28 (Dg v0) (Gr 3 A5 2) W (ji none K):=by kernel_rfl
 dsimp at h; exact h
def bX (ro:Option Nat) (K:AB):AB:=AW (fun a b c=>Bc a 3 fun d=>CQ K a 3 d 9 8 b c) K
def fK:=by
 have h:=@bX.eq_1; dsimp at h; exact h
def bY (ro:Option Nat) (K:AB):AB:=AW (fun e ds W=>wI (e 19) ((bX ro K) .ret (Env.of e [(2,(.bool false))]) ds W) ((bX ro K) .normal e ds W)) (CL 1 (bX ro K))
def ABN (ro:Option Nat) (e:Env) (ds:List Deferred) (K:AB) (W:CW):=by
 have h:C9 ro 95 28 e ds W K=HK 9 e W fun a=>FU e 3 a fun b=>let a:=DG 7 b 6 a 5 e 0 4 3; Di b (wV (idx prog 9 (BS e) (Ef e)) fun b=>Y' .lss 5 b 33 fun c=>let a:=eC 14 c (BQ 13 c 12 b 11 e 3 10 a); EW c (bY ro K) e 19 (A_ 18 14 17 16 15 a) ds W (wV (idx prog 9 (BS e) (Ef e)) fun b=>Y' .gtr 5 b 126 fun c=>Dh (bY ro K) e 19 c (BJ 18 c 14 17 b (KY 16 (Ef e) 14 15 e a)) ds W)) K e a ds W:=by kernel_rfl
 dsimp at h; exact h
theorem Sq (Q:Ending→CW→Prop) (e:Env) (W:CW):AJ prog Tryz.f95 Q .ret e [] W=Q (.returned (e 2)) W:=by kernel_rfl
def AEe {Q v0 W}:=Eo 95 28 [v0] Tryz.f95 Q W Tryz.func95 (by kernel_rfl)
def jj (ro:Option Nat) (K:AB):AB:=AW (fun e ds W=>K .ret e ds W) K
def AEf (v0:Value) (K:AB) (W:CW):=by
 have h:GO 96 9 v0 W K=HL 5 v0 1 fun a=>let b:=Db 5 a 4 (Gr 3 v0 2); UB a (jj none K) (Dg v0) (mi 2 Bs 8 7 5 6 b) [] W (HL 5 v0 2 fun a=>D8 (jj none K) (Dg v0) 2 a 8 (BJ 7 a 5 6 v0 b) [] W):=by kernel_rfl
 dsimp at h; exact h
theorem pH (Q:Ending→CW→Prop) (e:Env) (W:CW):AJ prog Tryz.f96 Q .ret e [] W=Q (.returned (e 2)) W:=by kernel_rfl
def AEg {Q v0 W}:=Eo 96 9 [v0] Tryz.f96 Q W Tryz.func96 (by kernel_rfl)
def bZ (ro:Option Nat) (K:AB):AB:=AW (fun e ds W=>K .ret (Env.of e [(5,(.bool true)),(4,(e 6)),(43,(e 6))]) ds W) K
def AEh (v0 v1:Value) (K:AB) (W:CW):=by
 have h:Dp 97 44 v0 v1 W K=Jo prog 40 1 [(0,v1)] W fun a b=>Jp 97 44 v0 v1 (eC 6 a (Jl 8 a 7 v1 5 false 4 (.slice none 0 0) [])) b (bZ none K):=by kernel_rfl
 dsimp at h; exact h
def Wy (ro:Option Nat) (K:AB):AB:=AW (fun e ds W=>Mw (rB prog 40 1 [(0,(e 1))] W) fun v41 W4=>Mw (app prog [40,40] (e 6) v41 W4) fun v42 W5=>K .normal (Env.of e [(6,v42),(42,v42),(41,v41),(40,(e 1)),(39,(e 6))]) ds W5) (CL 1 K)
def Sr (ro:Option Nat) (K:AB):AB:=AW (fun e ds W=>wI (e 38) ((Wy ro K) .ret (Env.of e [(5,(.bool false)),(4,(.slice none 0 0))]) ds W) ((Wy ro K) .normal e ds W)) (Wy ro K)
def ABO (ro:Option Nat) (e:Env) (ds:List Deferred) (K:AB) (W:CW):=by
 have h:C9 ro 97 44 e ds W K=Fy 22 e 0 1 fun a=>CO a 1 fun b=>BA b W fun c=>UY .neq 9 true c (.string ⟨#[]⟩) fun d=>let a:=EC 14 d 13 c (BQ 12 b 11 a 10 e 1 9 []); Di d (Fy 22 e 0 1 fun b=>CO b 1 fun c=>BA c W fun d=>let a:=EC 20 d 19 c (BQ 18 b 17 (BE e) 16 e 0 15 a); KZ 69 e d W (fun b c=>NT b 0 fun d=>let a:=eC 24 d (NO 23 d 22 b 1 21 a); EW d (Sr ro K) e 38 (K9 37 31 36 (A_ 35 31 34 33 32 (SX 31 true 30 29 undef 24 (A_ 28 24 27 26 25 a)))) ds c (CP (EY e) c fun d=>HK 22 e c fun f=>FB .gtr d f fun g=>let a:=Db 31 g 30 (Ds 29 g 24 28 f 27 (BS e) (BJ 26 d 24 25 (EY e) a)); EW g (Sr ro K) e 38 (K9 37 31 36 (A_ 35 31 34 33 32 a)) ds c (Iy 22 e 0 b fun d=>CO d 3 fun f=>Eg f c fun g=>Ov 5 g 0 fun h=>Dh (Sr ro K) e 38 h (BJ 37 h 31 36 g (BJ 35 f 31 34 d (KY 33 b 31 32 e a))) ds c))) fun b c=>CM K b e a ds c) K e a ds W:=by kernel_rfl
 dsimp at h; exact h
theorem ZL (Q:Ending→CW→Prop) (e:Env) (W:CW):AJ prog Tryz.f97 Q .ret e [] W=Q (.returned (.tuple #[e 4,e 5])) W:=by kernel_rfl
def AEi {Q v0 v1 W}:=Eo 97 44 [v0,v1] Tryz.f97 Q W Tryz.func97 (by kernel_rfl)
def tW (ro:Option Nat) (K:AB):AB:=AW (fun e ds W=>K .ret (Env.of e [(4,(e 7)),(32,(e 7))]) ds W) K
def AEj (v0 v1:Value) (K:AB) (W:CW):=by
 have h:Dp 98 33 v0 v1 W K=(let a:=Gt 11 v1 10 v0 4 (.slice none 0 0); DZ 97 v0 v1 W (fun b c=>CX b fun d=>CY b fun f=>CP d c fun g=>KU g 1 fun h=>Jp 98 33 v0 v1 (D9 8 h 17 16 g (Bh 15 d 7 (.slice none 0 0) 6 f 5 d (Da 14 f 13 d 9 b 12 a))) c (tW none K)) fun b c=>Fv K b v0 v1 a c):=by kernel_rfl
 dsimp at h; exact h
def tX (ro:Option Nat) (K:AB):AB:=AW (fun a b c=>FC a 8 fun d=>CQ K a 8 d 21 20 b c) K
def tY:=by
 have h:=@tX.eq_1; dsimp at h; exact h
def ABP (ro:Option Nat) (e:Env) (ds:List Deferred) (K:AB) (W:CW):=by
 have h:C9 ro 98 33 e ds W K=NN .geq 3 e 8 0 fun a=>Di a (LS e 5 8 fun b=>Aj b W fun c=>Iy 22 e 0 c fun d=>CO d 2 fun f=>BI 45 f W fun g=>Jt prog 45 45 (D3 e) g W fun h i=>Dh (tX ro K) e 7 h (Bh 31 h 30 g 29 f 28 d (Dl 27 c 26 b 25 e 8 24 (DS e) (BO 23 (BS e) 22 (D3 e) 19 a 18 (DH e)))) ds i) K e (Qz 19 a 18 e 8) ds W:=by kernel_rfl
 dsimp at h; exact h
theorem pI (Q:Ending→CW→Prop) (e:Env) (W:CW):AJ prog Tryz.f98 Q .ret e [] W=Q (.returned (e 4)) W:=by kernel_rfl
def AEk {Q v0 v1 W}:=Eo 98 33 [v0,v1] Tryz.f98 Q W Tryz.func98 (by kernel_rfl)
def tZ (ro:Option Nat) (K:AB):AB:=AW (fun e ds W=>K .ret (Env.of e [(4,(e 6)),(25,(e 6))]) ds W) K
def AEl (v0 v1:Value) (K:AB) (W:CW):=by
 have h:Dp 88 26 v0 v1 W K=(let a:=Gt 9 v1 8 v0 4 (.slice none 0 0); DZ 98 v0 v1 W (fun b c=>Jp 88 26 v0 v1 (Da 7 A5 6 (.slice none 0 0) 5 b 10 a) c (tZ none K)) fun b c=>Fv K b v0 v1 a c):=by kernel_rfl
 dsimp at h; exact h
def tc (ro:Option Nat) (K:AB):AB:=AW (fun a b c=>Bc a 7 fun d=>CQ K a 7 d 16 15 b c) K
def td:=by
 have h:=@tc.eq_1; dsimp at h; exact h
def ABQ (ro:Option Nat) (e:Env) (ds:List Deferred) (K:AB) (W:CW):=by
 have h:C9 ro 88 26 e ds W K=DD 45 (DS e) W fun a=>FU e 7 a fun b=>let a:=DG 14 b 13 a 12 e 5 11 7; Di b (Fy 45 e 5 7 fun b=>JH 72 b 1 fun c=>Eg c W fun d=>Jo prog 29 1 [(0,d)] W fun f g=>Jt prog 29 29 (EY e) f g fun g h=>Dh (tc ro K) e 6 g (Bh 24 g 23 f 22 d 21 c (Dl 20 b 19 (D3 e) 18 e 5 17 (EY e) a)) ds h) K e a ds W:=by kernel_rfl
 dsimp at h; exact h
theorem pJ (Q:Ending→CW→Prop) (e:Env) (W:CW):AJ prog Tryz.f88 Q .ret e [] W=Q (.returned (e 4)) W:=by kernel_rfl
def AEm {Q v0 v1 W}:=Eo 88 26 [v0,v1] Tryz.f88 Q W Tryz.func88 (by kernel_rfl)
def AEo (v0 v1 v2:Value) (K:AB) (W:CW):=by
 have h:H3 70 24 v0 v1 v2 W K=Mh 22 v0 v1 fun a=>CO a 3 fun b=>Eg b W fun c=>Ov 5 c 0 fun d=>let a:=DO 12 d 11 c 10 b (BO 9 a 8 v1 7 v0 6 (.int .u8 0)); wI d (Mh 22 v0 v1 fun b=>CO b 3 fun c=>Eg c W fun d=>Jm K (E6 v0 v1 v2) (Db 6 d 17 (Bh 16 c 15 b 14 v1 13 v0 a)) W) (DZ 88 v0 v1 W (fun b c=>Mh 29 b v2 fun d=>Eg d c fun f=>Jm K (E6 v0 v1 v2) (D9 6 f 23 22 d (Bh 21 v2 20 b 19 v1 18 v0 a)) c) fun b c=>Gn K b v0 v1 v2 (EC 19 v1 18 v0 a) c):=by kernel_rfl
 dsimp at h; exact h
theorem ZM (Q:Ending→CW→Prop) (e:Env) (W:CW):AJ prog Tryz.f70 Q .ret e [] W=Q (.returned (e 6)) W:=by kernel_rfl
def AEp {Q v0 v1 v2 W}:=Eo 70 24 [v0,v1,v2] Tryz.f70 Q W Tryz.func70 (by kernel_rfl)
end Go.Ce
namespace Go.Ce
open Go Go.Proofs Go.Proofs.Tryz
def jk (ro:Option Nat) (K:AB):AB:=AW (fun e ds W=>K .ret (Env.of e [(4,(.int .i64 (-1)))]) ds W) K
def AEq (v0 v1:Value) (K:AB) (W:CW):=by
 have h:Dp 69 20 v0 v1 W K=Jp 69 20 v0 v1 (EC 5 A5 4 A5 []) W (jk none K):=by kernel_rfl
 dsimp at h; exact h
def jl (ro:Option Nat) (K:AB):AB:=AW (fun a b c=>Bc a 5 fun d=>CQ K a 5 d 11 10 b c) K
def fL:=by
 have h:=@jl.eq_1; dsimp at h; exact h
def ABR (ro:Option Nat) (e:Env) (ds:List Deferred) (K:AB) (W:CW):=by
 have h:C9 ro 69 20 e ds W K=HK 22 e W fun a=>FU e 5 a fun b=>let a:=DG 9 b 8 a 7 e 0 6 5; Di b (Fy 22 e 0 5 fun b=>CO b 0 fun c=>BA c W fun d=>Jn 9 d (BE e) fun f=>let a:=DO 18 f 17 (BE e) 16 d (BQ 15 c 14 b 13 e 5 12 a); CB f (G_ (jl ro K) e (NQ 4 (DS e) 19 e 5 a) ds W) (jl ro K) e a ds W) K e a ds W:=by kernel_rfl
 dsimp at h; exact h
theorem ZN (Q:Ending→CW→Prop) (e:Env) (W:CW):AJ prog Tryz.f69 Q .ret e [] W=Q (.returned (e 4)) W:=by kernel_rfl
def AEr {Q v0 v1 W}:=Eo 69 20 [v0,v1] Tryz.f69 Q W Tryz.func69 (by kernel_rfl)
def bb (ro:Option Nat) (K:AB):AB:=AW (fun e ds W=>K .ret e ds W) K
def ABS (v0 v1 v2:Value) (K:AB) (W:CW):=by
 have h:H3 103 15 v0 v1 v2 W K=FB .geq v0 v1 fun a=>let b:=D9 10 a 9 8 v1 (Gr 7 v0 6); CB a (FB .leq v0 v2 fun a=>D8 (bb none K) (E6 v0 v1 v2) 6 a 14 (Hi 13 a 10 12 v2 10 11 v0 b) [] W) (bb none K) (E6 v0 v1 v2) (BG 6 14 13 10 12 11 b) [] W:=by kernel_rfl
 dsimp at h; exact h
theorem jm (Q:Ending→CW→Prop) (e:Env) (W:CW):AJ prog Tryz.f103 Q .ret e [] W=Q (.returned (e 6)) W:=by kernel_rfl
def ABT {Q v0 v1 v2 W}:=Eo 103 15 [v0,v1,v2] Tryz.f103 Q W Tryz.func103 (by kernel_rfl)
def bc (ro:Option Nat) (K:AB):AB:=AW (fun e ds W=>K .ret e ds W) K
def ABU (v0:Value) (K:AB) (W:CW):=by
 have h:GO 100 9 v0 W K=HL 5 v0 1 fun a=>let b:=Db 5 a 4 (Gr 3 v0 2); UB a (bc none K) (Dg v0) (mi 2 Bs 8 7 5 6 b) [] W (HL 5 v0 2 fun a=>D8 (bc none K) (Dg v0) 2 a 8 (BJ 7 a 5 6 v0 b) [] W):=by kernel_rfl
 dsimp at h; exact h
theorem jn (Q:Ending→CW→Prop) (e:Env) (W:CW):AJ prog Tryz.f100 Q .ret e [] W=Q (.returned (e 2)) W:=by kernel_rfl
def ABV {Q v0 W}:=Eo 100 9 [v0] Tryz.f100 Q W Tryz.func100 (by kernel_rfl)
def N1 (ro:Option Nat) (K:AB):AB:=AW (fun e ds W=>K .ret e ds W) K
def ABW (v0:Value) (K:AB) (W:CW):=by
 have h:GO 101 12 v0 W K=DD 9 v0 W fun a=>let b:=eC 4 a (Gr 3 v0 2); Ic 103 a (Jk 1) (Jk 60) W (fun a c=>CB a (Mw (cvs prog 9 29 v0 c) fun c d=>let a:=Qy 6 (Bo 8 c 6 7 v0 (Db 6 a 5 b)); DZ 123 c (.func (.func 124) #[] #[]) d (fun b c=>D1 b fun d=>Dh (N1 none K) (Dg v0) 2 d (Jl 11 d 10 d 6 true 9 b a) [] c) fun b c=>Ib (N1 none K) b (Dg v0) a c) (N1 none K) (Dg v0) (Hy 2 DX 11 (CC 10 6 9 8 7 (Db 6 a 5 b))) [] c) fun a c=>Ib (N1 none K) a (Dg v0) b c:=by kernel_rfl
 dsimp at h; exact h
theorem Wz (Q:Ending→CW→Prop) (e:Env) (W:CW):AJ prog Tryz.f101 Q .ret e [] W=Q (.returned (e 2)) W:=by kernel_rfl
def ABX {Q v0 W}:=Eo 101 12 [v0] Tryz.f101 Q W Tryz.func101 (by kernel_rfl)
def ABY (v0 v1:Value) (K:AB) (W:CW):=by
 have h:Dp 123 9 v0 v1 W K=(let a:=eC 6 v1 (Gr 5 v0 4); DZ 140 v0 v1 W (fun b c=>Mi b 0 fun d=>LX K v0 v1 (D9 4 d 8 7 b a) c) fun b c=>Fv K b v0 v1 a c):=by kernel_rfl
 dsimp at h; exact h
theorem jo (Q:Ending→CW→Prop) (e:Env) (W:CW):AJ prog Tryz.f123 Q .ret e [] W=Q (.returned (e 4)) W:=by kernel_rfl
def ABZ {Q v0 v1 W}:=Eo 123 9 [v0,v1] Tryz.f123 Q W Tryz.func123 (by kernel_rfl)
def bg (ro:Option Nat) (K:AB):AB:=AW (fun e ds W=>K .ret (Env.of e [(4,(.int .i64 (-1)))]) ds W) K
def ABa (v0 v1:Value) (K:AB) (W:CW):=by
 have h:Dp 140 19 v0 v1 W K=DD 29 v0 W fun a=>Jp 140 19 v0 v1 (BO 8 A5 7 a 6 v0 4 A5) W (bg none K):=by kernel_rfl
 dsimp at h; exact h
def VA (ro:Option Nat) (K:AB):AB:=AW (fun a b c=>Bc a 8 fun d=>D8 K a 8 d 18 [] b c) K
def ZO:=by
 have h:=@VA.eq_1; dsimp at h; exact h
def xZ (ro:Option Nat) (e:Env) (ds:List Deferred) (K:AB) (W:CW):=by
 have h:C9 ro 140 19 e ds W K=HM 3 e 8 7 fun a=>Di a (Fy 29 e 0 8 fun b=>Eg b W fun c=>let a:=BQ 15 c 14 b 13 e 8 12 (NR 11 (BE e) 5 (DH e) 10 e 8 9 a); G9 prog Br (BE e) [c] W (fun b c=>CB b (G_ (VA ro K) e (DO 4 (DH e) 17 (DH e) 16 b a) ds c) (VA ro K) e (eC 16 b a) ds c) fun b c=>CM (VA ro K) b e a ds c) K e (F_ 9 a) ds W:=by kernel_rfl
 dsimp at h; exact h
theorem W_ (Q:Ending→CW→Prop) (e:Env) (W:CW):AJ prog Tryz.f140 Q .ret e [] W=Q (.returned (e 4)) W:=by kernel_rfl
def ABb {Q v0 v1 W}:=Eo 140 19 [v0,v1] Tryz.f140 Q W Tryz.func140 (by kernel_rfl)
def bh (ro:Option Nat) (K:AB):AB:=AW (fun e ds W=>K .ret e ds W) K
def ABc (v0:Value) (K:AB) (W:CW):=by
 have h:GO 124 9 v0 W K=Y' .lss 5 v0 33 fun a=>let b:=Db 5 a 4 (Gr 3 v0 2); UB a (bh none K) (Dg v0) (mi 2 Bs 8 7 5 6 b) [] W (Y' .gtr 5 v0 126 fun a=>D8 (bh none K) (Dg v0) 2 a 8 (BJ 7 a 5 6 v0 b) [] W):=by kernel_rfl
 dsimp at h; exact h
theorem jq (Q:Ending→CW→Prop) (e:Env) (W:CW):AJ prog Tryz.f124 Q .ret e [] W=Q (.returned (e 2)) W:=by kernel_rfl
def ABd {Q v0 W}:=Eo 124 9 [v0] Tryz.f124 Q W Tryz.func124 (by kernel_rfl)
def ABe (v0 v1:Value) (K:AB) (W:CW):=by
 have h:Dp 102 17 v0 v1 W K=Hj 78 v0 W fun a b=>Mw (zH b) fun b c=>CI 181 c fun c d=>Dw 181 c b d fun d=>Mw (zH d) fun d f=>CI 181 f fun f g=>Dw 181 f d g fun g=>CI 161 g fun g h=>wV (some (.func (.func 125) #[] #[a,c,g,f])) fun i=>Dw 161 g i h fun h=>BI 161 g h fun j=>let a:=DO 13 v1 12 j 11 i (Bh 8 g 7 f 10 d 6 c (Hy 9 b 5 (EC 4 (.slice none 0 0) 2 a []))); G9 prog Br j [v1] h (fun b c=>CX b fun d=>CY b fun f=>LX K v0 v1 (eC 5 f (Bh 4 d 16 f 15 d 14 b a)) c) fun b c=>Fv K b v0 v1 a c:=by kernel_rfl
 dsimp at h; exact h
theorem XA (Q:Ending→CW→Prop) (e:Env) (W:CW):AJ prog Tryz.f102 Q .ret e [] W=Q (.returned (.tuple #[e 4,e 5])) W:=by kernel_rfl
def ABf {Q v0 v1 W}:=Eo 102 17 [v0,v1] Tryz.f102 Q W Tryz.func102 (by kernel_rfl)
def m0 (ro:Option Nat) (K:AB):AB:=AW (fun a b c=>DD 29 (D2 a) c fun d=>HY .leq d 60 fun f=>G_ K a (NQ 7 f 6 a 10 (DG 83 f 82 d 81 a 10 80 10)) b c) K
def ID:=by
 have h:=@m0.eq_1; dsimp at h; exact h
def ML (ro:Option Nat) (K:AB):AB:=AW (fun a b c=>J9 48 a 8 2 fun d=>BI 45 d c fun f=>DD 45 f c fun g=>mj ro 125 84 0 a (BO 51 A5 50 g 49 f 48 d) b c (m0 ro K)) K
def JU:=by
 have h:=@ML.eq_1; dsimp at h; exact h
def VB (ro:Option Nat) (K:AB):AB:=AW (fun a b c=>EJ 181 a 2 c fun d=>wV (hX prog 181 d (BS a) Bs c) fun c=>I1 48 a 8 fun f=>BA f c fun g=>UY .neq 9 true g (.string ⟨#[]⟩) fun h=>let d:=EC 31 h 30 g (NR 29 f 10 (.slice none 0 0) 28 a 0 27 d); CB h (J9 78 a 1 0 fun f=>BI 75 f c fun g=>I1 48 a 8 fun h=>BA h c fun i=>GU 75 g i false c fun j=>wV (fld prog 48 j 3) fun k=>Ov 5 k 0 fun l=>let d:=DO 38 l 37 k 36 j (Bh 35 i 34 h 33 g 32 f d); Wh l (ML ro K) a (LY 7 6 (.slice none 0 0) d) b c (EJ 161 a 3 c fun f=>I1 48 a 8 fun g=>BA g c fun h=>let d:=DO 42 h 41 g 40 f d; G9 prog Br f [h] c (fun c f=>CX c fun g=>CY c fun h=>D1 h fun i=>let c:=Bh 47 i 46 h 9 h 10 g (Da 45 h 44 g 39 c 43 d); CB i (G_ (ML ro K) a (LY 7 6 (.slice none 0 0) c) b f) (ML ro K) a c b f) fun c f=>CM (ML ro K) c a d b f)) (ML ro K) a d b c) K
def Ss:=by
 have h:=@VB.eq_1; dsimp at h; exact h
def VC (ro:Option Nat) (K:AB):AB:=AW (fun e ds W=>wI (e 26) ((VB ro K) .ret (Env.of e [(7,(.bool false)),(6,(.slice none 0 0))]) ds W) ((VB ro K) .normal e ds W)) (VB ro K)
def ABg (v0 v1 v2 v3 v4:Value) (K:AB) (W:CW):=by
 have h:PH 125 84 (F' v0 v1 v2 v3 v4) W K=JH 78 v1 0 fun a=>BI 75 a W fun b=>GU 75 b v0 true W fun c=>CX c fun d=>CY c fun f=>CI 48 W fun g h=>Dw 48 g d h fun h=>D1 f fun i=>let a:=Db 22 i 21 (FA 20 f 9 8 g 19 f (Bh 18 d 13 c 17 c 16 v0 (Jl 15 b 14 a 7 false 6 (.slice none 0 0) []))); EW i (VC none K) (F' v0 v1 v2 v3 v4) 26 (EK 25 22 24 23 a) [] h (BI 181 v2 h fun b=>GU 181 b v0 false h fun c=>Dh (VC none K) (F' v0 v1 v2 v3 v4) 26 c (Ds 25 c 22 24 v0 23 b a) [] h):=by kernel_rfl
 dsimp at h; exact h
def bj (ro:Option Nat) (K:AB):AB:=AW (fun a b c=>Bc a 51 fun d=>D8 K a 51 d 79 [] b c) K
def ZQ:=by
 have h:=@bj.eq_1; dsimp at h; exact h
def RE (ro:Option Nat) (K:AB):AB:=GR (fun a b c=>EJ 181 a 4 c fun d=>J9 72 a 12 0 fun f=>BA f c fun g=>wV (hX prog 181 d g Bs c) fun c=>I1 72 a 12 fun h=>Eg h c fun i=>Jo prog 29 1 [(0,i)] c fun c j=>Jt prog 29 29 (D2 a) c j fun j k=>Dh (bj ro K) a 10 j (Bh 78 j 77 c 76 i 75 h (BO 74 (D2 a) 73 g 72 f 71 d)) b k) (bj ro K)
def XB:=by
 have h:=@RE.eq_1; dsimp at h; exact h
def Jv (ro:Option Nat) (K:AB):AB:=AW (fun e ds W=>wI (e 70) ((RE ro K) .ret (Env.of e [(7,(.bool false)),(6,(.slice none 0 0))]) ds W) ((RE ro K) .normal e ds W)) (RE ro K)
def xa (ro:Option Nat) (e:Env) (ds:List Deferred) (K:AB) (W:CW):=by
 have h:C9 ro 125 84 e ds W K=HM 3 e 51 50 fun a=>Di a (Fy 45 e 49 51 fun b=>BI 72 b W fun c=>CI 72 W fun d f=>Dw 72 d c f fun f=>JH 72 d 0 fun g=>BA g f fun h=>let a:=EC 56 h 55 g (BO 12 d 54 c 53 b 52 a); DR 101 h f (fun b c=>D1 b fun f=>let a:=D9 59 f 58 57 b a; EW f (Jv ro K) e 70 (EK 69 65 68 67 (WZ 66 undef 65 true 65 Bs 64 (A_ 63 59 62 61 60 a))) ds c (JH 72 d 1 fun b=>Eg b c fun f=>let a:=EU 59 (BJ 61 f 59 60 b a); DR 100 f c (fun b c=>D1 b fun f=>let a:=eC 65 f (Jl 64 f 63 f 59 false 62 b a); EW f (Jv ro K) e 70 (A_ 69 65 68 67 66 a) ds c (EJ 181 e 4 c fun b=>JH 72 d 0 fun d=>BA d c fun f=>GU 181 b f false c fun g=>Dh (Jv ro K) e 70 g (BJ 69 g 65 68 f (BJ 67 d 65 66 b a)) ds c)) fun b c=>CM (Jv ro K) b e a ds c)) fun b c=>CM (Jv ro K) b e a ds c) K e (F_ 52 a) ds W:=by kernel_rfl
 dsimp at h; exact h
theorem XC (Q:Ending→CW→Prop) (e:Env) (W:CW):AJ prog Tryz.f125 Q .ret e [] W=Q (.returned (.tuple #[e 6,e 7])) W:=by kernel_rfl
def ABh {Q v0 v1 v2 v3 v4 W}:=Eo 125 84 [v0,v1,v2,v3,v4] Tryz.f125 Q W Tryz.func125 (by kernel_rfl)
end Go.Ce
namespace Go.Ce
theorem BW (W:CW) (o:Az) (b:Nat):(W.new o).obj b=if b=W.sz then some o else W.obj b:=by
 unfold CW.new CW.obj; simp only [Tr.Bw]
theorem G3 (W:CW) (i:Nat) (o:Az) (b:Nat):(W.BB i o).obj b=if b=i then some o else W.obj b:=by
 unfold CW.BB CW.obj; simp only [Tr.Bw]
theorem HA (W:CW) (o:Az):(W.new o).sz=W.sz+1:=rfl
theorem te (W:CW) (i:Nat) (o:Az):(W.BB i o).sz=W.sz:=rfl
def CW.cell (W:CW) (b k:Nat):Option Value:=match W.obj b with
 | some (.cells c n z _)=>if k<n then some (cellAt c z k) else none
 | some (.fixed f n _)=>if k<n then some (f k) else none
 | _=>none
def Ag (W:CW):Prop:=∀ i o,W.obj i=some o→i<W.sz
structure Kp (W W':CW):Prop where
 sz:W.sz≤W'.sz
 obj:∀ b,b<W.sz→W'.obj b=W.obj b
structure ED (b:Nat) (W W':CW):Prop where
 sz:W'.sz=W.sz
 obj:∀ i,i≠b→W'.obj i=W.obj i
theorem Kp.refl (W:CW):Kp W W:=⟨Nat.le_refl _,fun _ _=>rfl⟩
theorem Kp.trans {A B C:CW} (h:Kp A B) (k:Kp B C):Kp A C:=⟨Nat.le_trans h.sz k.sz,fun b hb=>(k.obj b (Nat.lt_of_lt_of_le hb h.sz)).trans (h.obj b hb)⟩
theorem Kp.new {W:CW} (o:Az):Kp W (W.new o):=⟨Nat.le_succ _,fun b hb=>by rw [BW,if_neg (Nat.ne_of_lt hb)]⟩
theorem Kp.BB {A B C:CW} {b:Nat} (h:Kp A B) (hb:A.sz≤b) (k:ED b B C):Kp A C:=⟨by rw [k.sz]; exact h.sz,fun i hi=>(k.obj i (by omega)).trans (h.obj i hi)⟩
theorem Ag.new {W:CW} (h:Ag W) (o:Az):Ag (W.new o):=by
 intro i u hu; rw [BW] at hu; rw [HA]
 split at hu
 ·omega
 ·have:=h i u hu; omega
theorem Ag.BB {W W':CW} {b:Nat} (h:Ag W) (hb:b<W.sz) (k:ED b W W'):Ag W':=by
 intro i u hu; rw [k.sz]
 by_cases e:i=b
 ·omega
 ·rw [k.obj i e] at hu; exact h i u hu
theorem ED.of (W:CW) (b:Nat) (o:Az):ED b W (W.BB b o):=⟨rfl,fun i hi=>by rw [G3,if_neg hi]⟩
theorem bn {W:CW} (h:Ag W) {b k:Nat} {v:Value} (hc:W.cell b k=some v):b<W.sz:=by
 unfold CW.cell at hc
 cases ho:W.obj b with
 | none=>rw [ho] at hc; cases hc
 | some o=>exact h b o ho
theorem MM {W W':CW} {b:Nat} (h:W'.obj b=W.obj b) (k:Nat):W'.cell b k=W.cell b k:=by unfold CW.cell; rw [h]
theorem Kp.cell {W W':CW} (h:Kp W W') (ht:Ag W) {b k:Nat} {v:Value} (hc:W.cell b k=some v):W'.cell b k=some v:=by
 rw [MM (h.obj b (bn ht hc))]; exact hc
theorem ED.cell {W W':CW} {i:Nat} (h:ED i W W') {b:Nat} (hb:b≠i) (k:Nat):W'.cell b k=W.cell b k:=MM (h.obj b hb) k
def BX (W:CW) (b:Nat) (e:TypeId) (vs:List Value):Prop:=∃ c n z,W.obj b=some (.cells c n z e)∧vs.length=n∧∀ k v,vs[k]?=some v→cellAt c z k=v
theorem BX.cell {W:CW} {b:Nat} {e:TypeId} {vs:List Value} (h:BX W b e vs) {k:Nat} {v:Value} (hk:vs[k]?=some v):W.cell b k=some v:=by
 obtain ⟨c,n,z,ho,hn,hv⟩:=h; unfold CW.cell; rw [ho]; have:k<n:=by rw [←hn]; exact (List.getElem?_eq_some_iff.1 hk).1
 simp only [if_pos this,hv k v hk]
theorem BX.congr {W W':CW} {b:Nat} {e:TypeId} {vs:List Value} (h:BX W b e vs) (ho:W'.obj b=W.obj b):BX W' b e vs:=by
 obtain ⟨c,n,z,h1,h2⟩:=h; exact ⟨c,n,z,ho.trans h1,h2⟩
theorem BX.lt {W:CW} (ht:Ag W) {b:Nat} {e:TypeId} {vs:List Value} (h:BX W b e vs):b<W.sz:=by
 obtain ⟨c,n,z,h1,h2⟩:=h; exact ht _ _ h1
theorem BX.ext {W W':CW} {b:Nat} {e:TypeId} {vs:List Value} (h:BX W b e vs) (ht:Ag W) (k:Kp W W'):BX W' b e vs:=h.congr (k.obj b (h.lt ht))
section
variable {P:Program}
theorem AF {t:TypeId} (h:agg? P t=some false) {a:Addr} {W:CW} {v:Value} (hc:W.cell a.block a.off=some v):ld P t (.pointer (some a)) W=some v:=by
 unfold CW.cell at hc; unfold ld LI; simp only
 split at hc
 ·rename_i c n z e ho; rw [ho]; simp only [h,cond_eq_ite]
  split at hc
  ·rename_i Ae; rw [if_pos (show Nat.blt a.off n=true from Nat.ble_eq_true_of_le Ae)]; exact hc
  ·cases hc
 ·rename_i f n e ho; rw [ho]; simp only [h,cond_eq_ite]
  split at hc
  ·rename_i Ae; rw [if_pos (show Nat.blt a.off n=true from Nat.ble_eq_true_of_le Ae)]; exact hc
  ·cases hc
 ·cases hc
theorem Hl {c:Tr Value} {z:Array Value}:∀ {vs:List Value} {k:Nat},(∀ j v,vs[j]?=some v→cellAt c z (k+j)=v)→Bk c z vs.length k=vs
 | [],_,_=>rfl
 | v::vs,k,h=>by
  simp only [List.length_cons,Bk]; have e:=h 0 v rfl; rw [Nat.add_zero] at e; rw [e,Hl fun j w hj=>?_]; have:=h (j+1) w (by simpa using hj); rw [show k+1+j=k+(j+1) by omega]; exact this
theorem PJ {f:Nat→Value}:∀ {vs:List Value} {k:Nat},(∀ j v,vs[j]?=some v→f (k+j)=v)→FF f vs.length k=vs
 | [],_,_=>rfl
 | v::vs,k,h=>by
  simp only [List.length_cons,FF]; have e:=h 0 v rfl; rw [Nat.add_zero] at e; rw [e,PJ fun j w hj=>?_]; have:=h (j+1) w (by simpa using hj); rw [show k+1+j=k+(j+1) by omega]; exact this
def Cells (W:CW) (b k:Nat) (vs:List Value):Prop:=∀ j v,vs[j]?=some v→W.cell b (k+j)=some v
theorem Cells.ext {W W':CW} {b k:Nat} {vs:List Value} (h:Cells W b k vs) (ht:Ag W) (hx:Kp W W'):Cells W' b k vs:=fun j v hj=>hx.cell ht (h j v hj)
theorem BX.cells {W:CW} {b:Nat} {e:TypeId} {vs:List Value} (h:BX W b e vs):Cells W b 0 vs:=fun j v hj=>by rw [Nat.zero_add]; exact h.cell hj
theorem CG {t:TypeId} {m:Nat} (h:agg? P t=some true) (hs:D_ P t=some m) {a:Addr} {W:CW} {vs:List Value} (hl:vs.length=m) (hm:0<m) (hc:Cells W a.block a.off vs):ld P t (.pointer (some a)) W=some (.agg vs.toArray):=by
 obtain ⟨l,Tx⟩:∃ l,l+1=m:=⟨m-1,by omega⟩
 have T0:∃ v,vs[l]?=some v:=⟨vs[l]'(by omega),List.getElem?_eq_getElem _⟩
 obtain ⟨v,hv⟩:=T0; have LP:=hc l v hv; unfold CW.cell at LP; unfold ld LI; simp only
 split at LP
 ·rename_i c n z e ho
  split at LP
  ·rename_i Ae; rw [ho]; simp only [h,hs,cond_eq_ite]; rw [if_pos (Nat.ble_eq_true_of_le (by omega)),←hl,Hl fun j w hj=>?_]; have:=hc j w hj; unfold CW.cell at this; rw [ho] at this; simp only at this
   split at this
   ·exact Option.some.inj this
   ·cases this
  ·cases LP
 ·rename_i f n e ho
  split at LP
  ·rename_i Ae; rw [ho]; simp only [h,hs,cond_eq_ite]; rw [if_pos (Nat.ble_eq_true_of_le (by omega)),←hl,PJ fun j w hj=>?_]; have:=hc j w hj; unfold CW.cell at this; rw [ho] at this; simp only at this
   split at this
   ·exact Option.some.inj this
   ·cases this
  ·cases LP
 ·cases LP
theorem As {α:Type} {x:Option α} {v:α} {K:α→Prop} (h:x=some v) (hk:K v):wV x K:=by rw [h]; exact hk
theorem Hm {x:Option (Value × CW)} {v:Value} {W:CW} {K:Value→CW→Prop} (h:x=some (v,W)) (hk:K v W):Mw x K:=by rw [h]; exact hk
theorem JB {t:TypeId} {n:Nat} {z:Value} (hz:Hz P t=some z) (hs:D_ P t=some n) {W:CW} {K:Value→CW→Prop} (ht:Ag W)
  (hk:∀ W1,Kp W W1→Ag W1→W1.sz=W.sz+1→BX W1 W.sz t z.cells.toList→K (.pointer (some ⟨W.sz,0,none⟩)) W1):Mw (zG P t W) K:=by
 refine Hm (by unfold zG; rw [hz,hs]) (hk _ (.new _) (ht.new _) rfl ⟨.nil,_,_,by rw [BW,if_pos rfl],by simp,fun k v hv=>?_⟩); have Ae:=(List.getElem?_eq_some_iff.1 hv).1; simp only [Array.length_toList] at Ae; unfold cellAt; simp only [Tr.get_nil]; rw [Nat.mod_eq_of_lt Ae]; rw [Array.getElem?_toList] at hv; simp only [Array.getD_eq_getD_getElem?,hv,Option.getD_some]
theorem Hn {t:TypeId} {n:Nat} (hs:D_ P t=some n) {v:Value} {W:CW} {K:Value→CW→Prop} (ht:Ag W)
  (hk:∀ W1,Kp W W1→Ag W1→W1.sz=W.sz+1→BX W1 W.sz t v.cells.toList→K (.pointer (some ⟨W.sz,0,none⟩)) W1):Mw (bxw P t v W) K:=by
 refine Hm (by unfold bxw; rw [hs]; rfl) (hk _ (.new _) (ht.new _) rfl ⟨_,_,_,by rw [BW,if_pos rfl],by simp,fun k w hv=>?_⟩); have Ae:=(List.getElem?_eq_some_iff.1 hv).1; rw [DE _ _ _ Ae,List.getD_eq_getElem?_getD,hv]; rfl
def putAt (vs:List Value) (k:Nat) (ws:List Value):List Value:=vs.take k++ws++vs.drop (k+ws.length)
theorem bo {vs ws:List Value} {k:Nat} (h:k+ws.length≤vs.length):(putAt vs k ws).length=vs.length:=by
 simp only [putAt,List.length_append,List.length_take,List.length_drop]; omega
theorem N2 {vs ws:List Value} {k:Nat} (h:k+ws.length≤vs.length) (j:Nat):(putAt vs k ws)[j]?=if k≤j∧j<k+ws.length then ws[j-k]? else vs[j]?:=by
 have h1:(vs.take k).length=k:=by rw [List.length_take]; omega
 simp only [putAt,List.append_assoc]
 by_cases h2:j<k
 ·rw [List.getElem?_append_left (by omega),if_neg (by omega),List.getElem?_take,if_pos h2]
 ·rw [List.getElem?_append_right (by omega),h1]
  by_cases h3:j<k+ws.length
  ·rw [List.getElem?_append_left (by omega),if_pos ⟨by omega,h3⟩]
  ·rw [List.getElem?_append_right (by omega),if_neg (by omega),List.getElem?_drop]; congr 1; omega
theorem BX.put {W:CW} {b:Nat} {e:TypeId} {vs ws:List Value} {k:Nat} (h:BX W b e vs) (hk:k+ws.length≤vs.length):∃ c n z,W.obj b=some (.cells c n z e)∧vs.length=n∧BX (W.BB b (.cells (c.Aa k ws) n z e)) b e (putAt vs k ws):=by
 obtain ⟨c,n,z,ho,hn,hv⟩:=h; refine ⟨c,n,z,ho,hn,_,_,_,by rw [G3,if_pos rfl],by rw [bo hk,hn],fun j v hj=>?_⟩; rw [N2 hk] at hj; unfold cellAt; rw [Tr.KH]
 split at hj
 ·rename_i h1; rw [if_pos h1,hj]
 ·rename_i h1; rw [if_neg h1]; exact hv j v hj
theorem An {t:TypeId} (hs:D_ P t=some 1) {a:Addr} {v:Value} (h1:Ba v=true) {W:CW} {e:TypeId} {vs:List Value} (hb:BX W a.block e vs) (ha:a.off<vs.length) {K:CW→Prop}
  (hk:∀ W1,ED a.block W W1→BX W1 a.block e (putAt vs a.off [v])→K W1):wV (Mf P t (.pointer (some a)) v W) K:=by
 obtain ⟨c,n,z,ho,hn,wx⟩:=hb.put (k:=a.off) (ws:=[v]) (by simp only [List.length_singleton]; omega); refine As ?_ (hk _ (ED.of _ _ _) wx); have:Mf P t (.pointer (some a)) v W=Kx P t a v W:=rfl; rw [this]; unfold Kx; rw [ho]; have Ae:Nat.blt a.off n=true:=Nat.ble_eq_true_of_le (by omega)
 cases v <;> first | (cases h1; done) | (simp only [hs,Ae,Nat.beq_refl,Bool.and_self,cond_true,Tr.Aa])
theorem Eu {t:TypeId} {m:Nat} (hs:D_ P t=some m) {a:Addr} {ws:List Value} (h1:ws.all Ba=true) (hm:ws.length=m) {W:CW} {e:TypeId} {vs:List Value} (hb:BX W a.block e vs) (ha:a.off+m≤vs.length) {K:CW→Prop}
  (hk:∀ W1,ED a.block W W1→BX W1 a.block e (putAt vs a.off ws)→K W1):wV (Mf P t (.pointer (some a)) (.agg ws.toArray) W) K:=by
 obtain ⟨c,n,z,ho,hn,wx⟩:=hb.put (k:=a.off) (ws:=ws) (by omega); refine As ?_ (hk _ (ED.of _ _ _) wx); have:Mf P t (.pointer (some a)) (.agg ws.toArray) W=Kx P t a (.agg ws.toArray) W:=rfl; rw [this]; unfold Kx; rw [ho]; have Ae:Nat.ble (a.off+m) n=true:=Nat.ble_eq_true_of_le (by omega); simp only [hs,Ae,hm,List.size_toArray,Nat.beq_refl,Bool.and_self,cond_true,h1]
end
end Go.Ce
namespace Go.Ce
theorem AA {α:Type} (v:α) (K:α→Prop):wV (some v) K=K v:=rfl
theorem A3 (X Y:Prop):wI (.bool true) X Y=X:=rfl
theorem Ab (X Y:Prop):wI (.bool false) X Y=Y:=rfl
theorem Ac (b:Bool):ngt (.bool b)=some (.bool (!b)):=rfl
theorem Ay (Y:Env→List Deferred→CW→Prop) (K:AB) (e:Env) (ds:List Deferred) (W:CW):AW Y K .normal e ds W=Y e ds W:=rfl
theorem G4 (Y:Env→List Deferred→CW→Prop) (K:AB) (e:Env) (ds:List Deferred) (W:CW):AW Y K .ret e ds W=K .ret e ds W:=rfl
theorem Mk (Y:Env→List Deferred→CW→Prop) (K:AB) (i:Nat) (e:Env) (ds:List Deferred) (W:CW):AW Y K (.exit i) e ds W=K (.exit i) e ds W:=rfl
theorem xc (Y:Env→List Deferred→CW→Prop) (K:AB) (ch:List PanicEntry) (e:Env) (ds:List Deferred) (W:CW):AW Y K (.panic ch) e ds W=K (.panic ch) e ds W:=rfl
theorem jr (i:Nat) (K:AB) (e:Env) (ds:List Deferred) (W:CW):CL i K .normal e ds W=K .normal e ds W:=rfl
theorem JI (i:Nat) (K:AB) (e:Env) (ds:List Deferred) (W:CW):CL i K .ret e ds W=K .ret e ds W:=rfl
theorem bKp (i:Nat) (K:AB) (ch:List PanicEntry) (e:Env) (ds:List Deferred) (W:CW):CL i K (.panic ch) e ds W=K (.panic ch) e ds W:=rfl
theorem Gc (i j:Nat) (K:AB) (e:Env) (ds:List Deferred) (W:CW):CL i K (.exit j) e ds W=if j=i then K .normal e ds W else K (.exit j) e ds W:=by
 simp only [CL,cond_eq_ite,Nat.beq_eq]
theorem rC (vs:List Value) (t:Nat):Env.args vs t=(vs[t]?).getD undef:=by
 unfold Env.args
 cases vs[t]? <;> rfl
def FD (I:Nat→Env→List Deferred→CW→Prop) (k:Nat) (K:AB):AB:=fun x e ds W=>match x with
 | .normal=>∃ k',k'<k∧I k' e ds W
 | x=>K x e ds W
theorem St (I:Nat→Env→List Deferred→CW→Prop) (k:Nat) (K:AB) (e:Env) (ds:List Deferred) (W:CW):FD I k K .normal e ds W=∃ k',k'<k∧I k' e ds W:=rfl
theorem tf (I:Nat→Env→List Deferred→CW→Prop) (k:Nat) (K:AB) (e:Env) (ds:List Deferred) (W:CW):FD I k K .ret e ds W=K .ret e ds W:=rfl
theorem UF (I:Nat→Env→List Deferred→CW→Prop) (k:Nat) (K:AB) (i:Nat) (e:Env) (ds:List Deferred) (W:CW):FD I k K (.exit i) e ds W=K (.exit i) e ds W:=rfl
theorem tKp (I:Nat→Env→List Deferred→CW→Prop) (k:Nat) (K:AB) (ch:List PanicEntry) (e:Env) (ds:List Deferred) (W:CW):FD I k K (.panic ch) e ds W=K (.panic ch) e ds W:=rfl
theorem DK {P:Program} {L:List FuncId} {ro:Option Nat} {fn:FuncId} {nt:Nat} {b:Code} {K:AB} (I:Nat→Env→List Deferred→CW→Prop) (k:Nat) {e:Env} {ds:List Deferred} {W:CW} (h0:I k e ds W)
  (Og:∀ k e ds W,I k e ds W→Ft P L ro fn nt b e ds W (FD I k K)):Fk P L ro fn nt (.loop b) e ds W K :=
 AD5 I (fun k e ds W hi=>Og k e ds W hi) k e ds W h0
def GV (v:Value) (W:CW):Ending→CW→Prop:=fun e W'=>e=.returned v∧W'=W
theorem At {P:Program} {L:List FuncId} {f:FuncId} {args:List Value} {W:CW} {K:Value→CW→Prop} {KP:List PanicEntry→CW→Prop} {v:Value} (h:AX P L f args W (GV v W)) (hk:K v W):AX P L f args W (DQ K KP) :=
 h.mono fun e W' ⟨he,hw⟩=>by subst he; subst hw; exact hk
theorem VD {P:Program} {L:List FuncId} {f:FuncId} {first cap:Array Value} {args:List Value} {W:CW} {K:Value→CW→Prop} {KP:List PanicEntry→CW→Prop} {fn:Func} (hf:P.funcs[f]?=some fn) (hb:fn.body.isNone=false)
  (h:AX P L f (first.toList++args++cap.toList) W (DQ K KP)):G9 P L (.func (.func f) first cap) args W K KP:=by
 unfold G9 Iu; simp only; have:KG P f (first.toList++args++cap.toList) W=none:=by unfold KG; rw [hf]; simp only [hb,cond_false]
 rw [this]; exact h
def AV {α:Type} (n:Nat) (R:Nat→Nat→α→Prop) (v:Value) (l:List α):Prop:=∃ a cap,v=.slice a l.length cap∧∀ i x,l[i]?=some x→∃ p,a=some p∧R p.block (p.off+i*n) x
section
variable {P:Program} {t:TypeId} {k:Bool}
theorem BK (kk:IntKind) (a b:Int):D6 P .eql t k (.int kk a) (.int kk b)=some (.bool (a == b)):=by simp [D6,O5]
theorem Au (kk:IntKind) (a b:Int):D6 P .neq t k (.int kk a) (.int kk b)=some (.bool (a != b)):=by simp [D6,O5]
theorem AS (kk:IntKind) (a b:Int):D6 P .lss t k (.int kk a) (.int kk b)=some (.bool (decide (a<b))):=by simp [D6,O5]
theorem DY (kk:IntKind) (a b:Int):D6 P .leq t k (.int kk a) (.int kk b)=some (.bool (decide (a≤b))):=by simp [D6,O5]
theorem Av (kk:IntKind) (a b:Int):D6 P .gtr t k (.int kk a) (.int kk b)=some (.bool (decide (a>b))):=by simp [D6,O5]
theorem CZ (kk:IntKind) (a b:Int):D6 P .geq t k (.int kk a) (.int kk b)=some (.bool (decide (a≥b))):=by simp [D6,O5]
theorem AO (kk:IntKind) (a b:Int):D6 P .add t k (.int kk a) (.int kk b)=some (.int kk (kk.wrap (a+b))):=by simp [D6,O5]
theorem Ak (kk:IntKind) (a b:Int):D6 P .sub t k (.int kk a) (.int kk b)=some (.int kk (kk.wrap (a-b))):=by simp [D6,O5]
theorem RF (kk:IntKind) (a b:Int):D6 P .mul t k (.int kk a) (.int kk b)=some (.int kk (kk.wrap (a*b))):=by simp [D6,O5]
theorem th (kk:IntKind) (a b:Int) (h:b≠0):D6 P .quo t k (.int kk a) (.int kk b)=some (.int kk (kk.wrap (a.tdiv b))):=by simp [D6,O5,beq_false_of_ne h]
theorem JV (a b:ByteArray):D6 P .eql t k (.string a) (.string b)=some (.bool (YK (sb a) (sb b))):=rfl
theorem JW (a b:ByteArray):D6 P .neq t k (.string a) (.string b)=some (.bool (!YK (sb a) (sb b))):=rfl
theorem N3 (a b:ByteArray):D6 P .geq t k (.string a) (.string b)=some (.bool (!SA (sb a) (sb b))):=rfl
theorem XD:∀ l:List UInt8,YK l l=true
 | []=>rfl
 | a::l=>by simp only [YK,Nat.beq_refl,XD l,Bool.and_self]
theorem xd {a b:ByteArray}:YK (sb a) (sb b)=true↔a=b:=⟨M6,fun h=>by rw [h]; exact XD _⟩
theorem G5 (a b:ByteArray):YK (sb a) (sb b)=decide (a=b):=by
 cases h:YK (sb a) (sb b) with
 | true=>exact (decide_eq_true (M6 h)).symm
 | false=>exact (decide_eq_false fun e=>by rw [xd.2 e] at h; cases h).symm
theorem AU {el:TypeId} (u:P.underlying t=some (.slice el)) (a:Option Addr) (n c:Nat) (W:CW):OI P t (.slice a n c) W=some (.int .i64 n):=by unfold OI; rw [u]
theorem Ii (u:P.underlying t=some .string) (s:ByteArray) (W:CW):OI P t (.string s) W=some (.int .i64 s.size):=by unfold OI; rw [u]
theorem Ad {el:TypeId} {n:Nat} (u:P.underlying t=some (.slice el)) (hs:D_ P el=some n) {a:Addr} {len cap:Nat} {kk:IntKind} {i:Nat} (hi:i<len):ew P t (.slice (some a) len cap) (.int kk i)=some (.pointer (some ⟨a.block,a.off+i*n,none⟩)):=by
 unfold ew; simp only [u,DJ,hs]; simp only [cond_eq_ite]; rw [if_pos (by simp only [Bool.and_eq_true,decide_eq_true_eq]; omega)]; simp
theorem xe (u:P.underlying t=some .string) {s:ByteArray} {kk:IntKind} {i:Nat} {b:UInt8} (hi:s[i]?=some b):idx P t (.string s) (.int kk i)=some (.int .u8 b.toNat):=by
 unfold idx; simp only [u,cond_eq_ite]; rw [if_pos (by simp)]; simp [hi]
theorem wrap64 {x:Int} (h1:-9223372036854775808≤x) (h2:x≤9223372036854775807):IntKind.i64.wrap x=x:=by
 unfold IntKind.wrap; simp [IntKind.bits,IntKind.signed]; omega
end
theorem gKz {α:Type} (a:α) (l:List α):(a::l)[0]?=some a:=rfl
theorem gKs {α:Type} (a:α) (l:List α) (i:Nat):(a::l)[i+1]?=l[i]?:=rfl
theorem dKs {α:Type} (a b:α):(some a).getD b=a:=rfl
end Go.Ce
namespace Go.Ce
open Go Go.Proofs Go.Proofs.Tryz
structure RG where
 name:ByteArray
 kind:Int
structure Al where
 name:ByteArray
 BR:ByteArray
 fields:List RG
 elem:Int
structure C5 where
 type:ByteArray
 to:ByteArray
 map:List Int
structure B9 where
 type:ByteArray
 AH:List Int
def Dx (W:CW) (b o:Nat) (x:Int):Prop:=W.cell b o=some (.int .i64 x)∧-9223372036854775808≤x∧x≤9223372036854775807
structure Su (W:CW) (b o:Nat) (x:RG):Prop where
 name:W.cell b o=some (.string x.name)
 kind:W.cell b (o+1)=some (.int .u8 x.kind)
 lo:0≤x.kind
 hi:x.kind<256
structure Dc (W:CW) (b o:Nat) (x:Al):Prop where
 name:W.cell b o=some (.string x.name)
 BR:W.cell b (o+1)=some (.string x.BR)
 fields:∃ v,W.cell b (o+2)=some v∧AV 2 (Su W) v x.fields
 elem:W.cell b (o+3)=some (.int .u8 x.elem)
 binds:∃ a l k,W.cell b (o+4)=some (.slice a l k)
 lo:0≤x.elem
 hi:x.elem<256
def OO (W:CW) (el:TypeId) (v:Value):Prop:=∀ a l c,v=.slice a l c→Vt W a el=true∧l≤c
theorem OO.of {W W':CW} {el:TypeId} {v:Value} (h:OO W el v) (ho:∀ b o,W.obj b=some o→(∃ c n z e,o=.cells c n z e)∨(∃ f n e,o=.fixed f n e)→W'.obj b=some o):OO W' el v:=by
 intro a l c hv; obtain ⟨h1,h2⟩:=h a l c hv; refine ⟨?_,h2⟩
 cases a with
 | none=>rfl
 | some a =>
  unfold Vt at h1 ⊢; simp only [Bool.or_eq_true] at h1 ⊢
  rcases h1 with h1 | h1
  ·exact .inl h1
  ·right
   cases hb:W.obj a.block with
   | none=>rw [hb] at h1; cases h1
   | some o =>
    rw [hb] at h1
    cases o with
    | cells c n z e=>rw [ho _ _ hb (.inl ⟨_,_,_,_,rfl⟩)]; exact h1
    | fixed f n e=>rw [ho _ _ hb (.inr ⟨_,_,_,rfl⟩)]; exact h1
    | _=>cases h1
theorem OO.kp {W W':CW} {el:TypeId} {v:Value} (h:OO W el v) (ht:Ag W) (k:Kp W W'):OO W' el v:=h.of fun b o hb _=>by rw [k.obj b (ht _ _ hb)]; exact hb
structure Ho (W:CW) (b o:Nat) (x:C5):Prop where
 type:W.cell b o=some (.string x.type)
 to:W.cell b (o+1)=some (.string x.to)
 map:∃ v,W.cell b (o+2)=some v∧AV 1 (Dx W) v x.map∧OO W 3 v
structure Ek (W:CW) (b o:Nat) (x:B9):Prop where
 type:W.cell b o=some (.string x.type)
 AH:∃ v,W.cell b (o+1)=some v∧AV 1 (Dx W) v x.AH
theorem u9:prog.underlying 9=some .string:=by kernel_rfl
theorem R_:prog.underlying 22=some (.slice 48):=by kernel_rfl
theorem Uq:prog.underlying 23=some (.slice 58):=by kernel_rfl
theorem P3:prog.underlying 24=some (.slice 56):=by kernel_rfl
theorem Yc:prog.underlying 29=some (.slice 5):=by kernel_rfl
theorem FJ:prog.underlying 40=some (.slice 3):=by kernel_rfl
theorem Yd:prog.underlying 45=some (.slice 72):=by kernel_rfl
theorem s3:D_ prog 3=some 1:=by kernel_rfl
theorem s5:D_ prog 5=some 1:=by kernel_rfl
theorem Ui:D_ prog 48=some 5:=by kernel_rfl
theorem MN:D_ prog 56=some 2:=by kernel_rfl
theorem bq:D_ prog 58=some 3:=by kernel_rfl
theorem xg:D_ prog 72=some 2:=by kernel_rfl
theorem a3:agg? prog 3=some false:=by kernel_rfl
theorem a5:agg? prog 5=some false:=by kernel_rfl
theorem a9:agg? prog 9=some false:=by kernel_rfl
theorem Nb:agg? prog 40=some false:=by kernel_rfl
theorem a45:agg? prog 45=some false:=by kernel_rfl
theorem a48:agg? prog 48=some true:=by kernel_rfl
theorem m5:agg? prog 56=some true:=by kernel_rfl
theorem a58:agg? prog 58=some true:=by kernel_rfl
theorem a72:agg? prog 72=some true:=by kernel_rfl
theorem Kr (a:Addr):R' prog 48 (.pointer (some a)) 0=some (.pointer (some ⟨a.block,a.off,none⟩)):=by kernel_rfl
theorem RH (a:Addr):R' prog 48 (.pointer (some a)) 1=some (.pointer (some ⟨a.block,a.off+1,none⟩)):=by kernel_rfl
theorem MO (a:Addr):R' prog 48 (.pointer (some a)) 2=some (.pointer (some ⟨a.block,a.off+2,none⟩)):=by kernel_rfl
theorem Ks (a:Addr):R' prog 48 (.pointer (some a)) 3=some (.pointer (some ⟨a.block,a.off+3,none⟩)):=by kernel_rfl
theorem RI (a:Addr):R' prog 72 (.pointer (some a)) 0=some (.pointer (some ⟨a.block,a.off,none⟩)):=by kernel_rfl
theorem VE (a:Addr):R' prog 72 (.pointer (some a)) 1=some (.pointer (some ⟨a.block,a.off+1,none⟩)):=by kernel_rfl
theorem IP (a:Addr):R' prog 56 (.pointer (some a)) 0=some (.pointer (some ⟨a.block,a.off,none⟩)):=by kernel_rfl
theorem FL (a:Addr):R' prog 56 (.pointer (some a)) 1=some (.pointer (some ⟨a.block,a.off+1,none⟩)):=by kernel_rfl
theorem JJ (a:Addr):R' prog 58 (.pointer (some a)) 0=some (.pointer (some ⟨a.block,a.off,none⟩)):=by kernel_rfl
theorem JK (a:Addr):R' prog 58 (.pointer (some a)) 1=some (.pointer (some ⟨a.block,a.off+1,none⟩)):=by kernel_rfl
theorem Kt (a:Addr):R' prog 58 (.pointer (some a)) 2=some (.pointer (some ⟨a.block,a.off+2,none⟩)):=by kernel_rfl
end Go.Ce
namespace Go.Ce
open Go Go.Proofs Go.Proofs.Tryz
theorem fN (n a b:Int) (W:CW):AX prog Br 103 [.int .i64 n,.int .i64 a,.int .i64 b] W (GV (.bool (decide (a≤n) && decide (n≤b))) W):=by
 refine ABT ?_; rw [ABS]; simp only [CZ,DY,AA]; refine AD (fun h=>?_) (fun h=>?_) <;> simp only [bb,Ay,jm,AI] <;> refine ⟨?_,rfl⟩ <;> simp at h <;> simp [h]
 omega
theorem ZR (n:Int) (W:CW):AX prog Br 100 [.int .u8 n] W (GV (.bool (n == 1 || n == 2)) W):=by
 refine ABV ?_; rw [ABU]; simp only [BK,AA]; refine AD (fun h=>?_) (fun h=>?_) <;> simp only [bc,Ay,jn,AI] <;> refine ⟨?_,rfl⟩ <;> simp [h]
theorem br (n:Int) (W:CW):AX prog Br 124 [.int .u8 n] W (GV (.bool (decide (n<33) || decide (n>126))) W):=by
 refine ABd ?_; rw [ABc]; simp only [AS,Av,AA]; refine AD (fun h=>?_) (fun h=>?_) <;> simp only [bh,Ay,jq,AI] <;> refine ⟨?_,rfl⟩ <;> simp [h]
def La (c:List Al) (s:ByteArray):Int:=match c.findIdx? (fun x=>decide (x.name=s)) with
 | some i=>i
 | none=>-1
theorem MP {v:Value} {c:List Al} {s:ByteArray} {W:CW} (hc:AV 5 (Dc W) v c) (hlen:c.length<1000000):AX prog Br 69 [v,.string s] W (GV (.int .i64 (La c s)) W):=by
 refine AEr ?_; rw [AEq]
 refine DK (fun k e ds W'=>W'=W∧ds=[]∧∃ i:Nat,e 0=v∧e 1=.string s∧e 5=.int .i64 i∧i≤c.length∧k=c.length-i∧∀ j x,j<i→c[j]?=some x→x.name≠s) c.length ⟨rfl,rfl,0,?_,?_,?_,by omega,by omega,by omega⟩ ?_
 ·simp [AI,AQ,rC]
 ·simp [AI,AQ,rC]
 ·simp [AI]
 rintro k e ds W' ⟨rfl,rfl,i,h0,h1,h5,hi,rfl,A0⟩; obtain ⟨a,cap,rfl,Ah⟩:=hc; rw [ABR,h0,h1,h5,AU R_]; simp only [AA,AS]
 refine AD (fun h=>?_) (fun h=>?_)
 ·have Ae:i<c.length:=by simpa using h
  have hx:=List.getElem?_eq_getElem Ae; obtain ⟨p,rfl,hp⟩:=Ah i _ hx; rw [Ad R_ Ui Ae]; simp only [AA,Kr,AF a9 (a:=⟨p.block,p.off+i*5,none⟩) hp.name,JV,G5]
  refine AD (fun hq=>?_) (fun hq=>?_)
  ·have hq:=of_decide_eq_true hq; simp only [fL,G4,tf,JI,jk,ZN,AI]; refine ⟨?_,rfl⟩
   have:c.findIdx? (fun x=>decide (x.name=s))=some i:=by
    rw [List.findIdx?_eq_some_iff_getElem]; refine ⟨Ae,by simpa using hq,fun j hj=>?_⟩; have:=A0 j c[j] hj (List.getElem?_eq_getElem _)
    simpa using this
   simp [La,this]
  ·have hq:=of_decide_eq_false hq; simp only [fL,Ay,AI,AQ,Nat.reduceEqDiff,↓reduceIte,h0,h1,h5,AO,AA,St]
   refine ⟨c.length-(i+1),by omega,trivial,trivial,i+1,trivial,trivial,?_,Ae,rfl,fun j x hj J'=>?_⟩
   ·rw [wrap64 (by omega) (by omega)]; rfl
   ·rcases Nat.lt_succ_iff_lt_or_eq.1 hj with h2 | rfl
    ·exact A0 j x h2 J'
    ·rw [hx] at J'; cases J'; exact hq
 ·have HQ:i=c.length:=by have:¬i<c.length:=(by simpa using h); omega
  simp only [UF,Gc,if_true,jk,Ay,ZN,AI]; refine ⟨?_,rfl⟩
  have:c.findIdx? (fun x=>decide (x.name=s))=none:=by
   rw [List.findIdx?_eq_none_iff]; intro x hx; obtain ⟨j,hj,rfl⟩:=List.mem_iff_getElem.1 hx; have:=A0 j c[j] (by omega) (List.getElem?_eq_getElem _)
   simpa using this
  simp [La,this]
end Go.Ce
namespace Go.Ce
def pK (T:Tr Value) (t:Nat):Value:=match T.get t with | some v=>v | none=>undef
theorem bt (a:AK) (t:Nat):a.at t=pK a.t t:=by
 unfold AK.at pK
 cases a.t.get t <;> rfl
def ET (W:CW) (l:Nat) (st:LoopState) (EH:Option Code) (fn:FuncId) (e:Env) (nt:Nat) (ps:Array Tmp) (A B:Code) (d:Nat):Prop :=
 ∃ T:Tr Value,W.obj l=some (.loop st EH fn T nt ps A B d)∧∀ t,pK T t=e t
theorem ET.congr {W W':CW} {l:Nat} {st:LoopState} {EH:Option Code} {fn:FuncId} {e:Env} {nt:Nat} {ps:Array Tmp} {A B:Code} {d:Nat} (h:ET W l st EH fn e nt ps A B d) (ho:W'.obj l=W.obj l):ET W' l st EH fn e nt ps A B d:=by
 obtain ⟨T,h1,h2⟩:=h; exact ⟨T,ho.trans h1,h2⟩
def Env.Hx (e:Env):List (Tmp × Value)→Env
 | []=>e
 | p::ps=>Env.Hx (fun t=>if t=p.1 then p.2 else e t) ps
theorem m6:∀ (ps:List (Tmp × Value)) (T:Tr Value) (e:Env),(∀ t,pK T t=e t) →
  ∀ t,pK (ps.foldl (fun t (p:Tmp × Value)=>t.set p.1 p.2) T) t=e.Hx ps t
 | [],T,e,h=>h
 | p::ps,T,e,h=>by
  intro t; refine m6 ps (T.set p.1 p.2) _ (fun t=>?_) t; unfold pK; rw [Tr.Bw]
  by_cases ht:t=p.1
  ·rw [if_pos ht,if_pos ht]
  ·rw [if_neg ht,if_neg ht]; exact h t
def AG_ (l:Nat) (Q:Ending→CW→Prop):AB:=fun x _ ds W=>∃ st EH fn e nt ps A B d,ET W l st EH fn e nt ps A B d∧match x with
 | .normal=>∀ W',ED l W W'→ET W' l .ready none fn e nt ps A B d→Q (.returned (.bool true)) W'
 | .ret=>∀ W',ED l W W'→ET W' l .done (some .ret) fn e nt ps A B d→Q (.returned (.bool false)) W'
 | .exit id=>∀ W',ED l W W'→ET W' l .done (some (.exit id)) fn e nt ps A B d→Q (.returned (.bool false)) W'
 | .panic ch=>ds=[]∧Q (.panicked ch) W
 | _=>False
section
variable {P:Program} {L:List FuncId}
theorem m8 {l:Nat} {args:List Value} {W:CW} {Q:Ending→CW→Prop} {EH:Option Code} {fn:FuncId} {e:Env} {nt:Nat} {ps:Array Tmp} {A B:Code} {d:Nat} (hl:ET W l .ready EH fn e nt ps A B d) (hn:args.length=ps.size)
  (h:Ft P L (some l) fn nt A (e.Hx (ps.toList.zip args)) [] W fun x e1 ds W1=>x=.normal∧∃ fP e2 nt1 ps1 A1 B1 d1,ET W1 l .ready fP fn e2 nt1 ps1 A1 B1 d1∧∀ W2,ED l W1 W2→ET W2 l .busy fP fn e2 nt1 ps1 A1 B1 d1→Ft P L (some l) fn nt B e1 ds W2 (AG_ l Q)):MI P L l args W Q:=by
 obtain ⟨T,ho,hT⟩:=hl
 let a0:AK:=⟨(ps.toList.zip args).foldl (fun t (p:Tmp × Value)=>t.set p.1 p.2) T,nt,[]⟩
 have hae:AE a0 (e.Hx (ps.toList.zip args)) []:=⟨fun t=>by rw [bt]; exact m6 _ T e hT t,rfl⟩
 obtain ⟨n,⟨x1,a1,W1⟩,h1,e1,h2,h3,h4⟩:=IZ h a0 hae rfl; simp only at h2 h3 h4; obtain ⟨rfl,fP,e2,nt1,ps1,A1,B1,d1,YY,h4⟩:=h4; obtain ⟨T1,db,hT1⟩:=YY; obtain ⟨m,⟨x2,a2,W2⟩,h5,e3,h6,h7,h8⟩:=IZ (h4 _ (ED.of W1 l (.loop .busy fP fn T1 nt1 ps1 A1 B1 d1)) ⟨T1,by rw [G3,if_pos rfl],hT1⟩) a1 h2 h3; simp only at h8; obtain ⟨st,AIy,fn2,e4,nt2,ps2,A2,B2,d2,NI,h8⟩:=h8; obtain ⟨T2,dW,hT2⟩:=NI; have up1:(Du P L (max n m)).code (some l) fn A a0 W=some [(.normal,a1,W1)]:=HX (Nat.le_max_left n m) h1; have up2:(Du P L (max n m)).code (some l) fn B a1 (W1.BB l (.loop .busy fP fn T1 nt1 ps1 A1 B1 d1))=some [(x2,a2,W2)]:=HX (Nat.le_max_right n m) h5
 have key:∀ {o:Ending × CW},(match x2 with
   | .normal=>Vz l none W2
   | .ret=>Vz l (some .ret) W2
   | .exit id=>Vz l (some (.exit id)) W2
   | .panic ch=>cond a2.defers.isEmpty (some [(.panicked ch,W2)]) none
   | _=>none)=some [o]→(Du P L (max n m+1)).round l args W=some [o]:=by
  intro o hx; rw [Jg]; simp only [DL,ho]; have hq:Nat.beq args.length ps.size=true:=by rw [hn]; exact Nat.beq_refl _
  rw [hq]; simp only [cond_true]; rw [show (Du P L (max n m)).code (some l) fn A ⟨(ps.toList.zip args).foldl (fun t (p:Tmp × Value)=>t.set p.1 p.2) T,nt,[]⟩ W=some [(.normal,a1,W1)] from up1]; refine Dv _ _ ?_; simp only [db]; rw [up2]; refine Dv _ _ ?_; rw [←hx]
  cases x2 <;> rfl
 cases x2 with
 | normal=>exact ⟨_,(.returned (.bool true),W2.BB l (.loop .ready none fn2 T2 nt2 ps2 A2 B2 d2)),key (by simp only [Vz,dW]; rfl),h8 _ (ED.of _ _ _) ⟨T2,by rw [G3,if_pos rfl],hT2⟩⟩
 | ret=>exact ⟨_,(.returned (.bool false),W2.BB l (.loop .done (some .ret) fn2 T2 nt2 ps2 A2 B2 d2)),key (by simp only [Vz,dW]; rfl),h8 _ (ED.of _ _ _) ⟨T2,by rw [G3,if_pos rfl],hT2⟩⟩
 | exit id=>exact ⟨_,(.returned (.bool false),W2.BB l (.loop .done (some (.exit id)) fn2 T2 nt2 ps2 A2 B2 d2)),key (by simp only [Vz,dW]; rfl),h8 _ (ED.of _ _ _) ⟨T2,by rw [G3,if_pos rfl],hT2⟩⟩
 | panic ch =>
  obtain ⟨hd,hq⟩:=h8; exact ⟨_,(.panicked ch,W2),key (by simp only [hd]; rfl),hq⟩
 | goto id=>exact h8.elim
 | outgrown=>exact h8.elim
def js (l:Nat) (e:Env) (ds:List Deferred) (K:AB):Ending→CW→Prop:=fun en W=>(∃ v,en=.returned v)∧∃ st EH fn e0 nt ps A B d,ET W l st EH fn e0 nt ps A B d∧st≠.busy∧∀ W',ED l W W'→match EH with
 | none=>K .normal e ds W'
 | some .ret=>K .ret e ds W'
 | some (.exit id)=>K (.exit id) e ds W'
 | _=>False
def mark (r:Nat):Deferred:={ target:=.collected r,args:=#[] }
def VF (EH:Option Code) (a:AK) (W:CW):L8:=match EH with
 | none=>some [(.normal,a,W)]
 | some .ret=>some [(.ret,a,W)]
 | some (.exit id)=>some [(.exit id,a,W)]
 | _=>none
theorem jt {ro:Option Nat} {fn:FuncId} {nt:Nat} {f:Operand} {ps:Array Tmp} {A B:Code} {e:Env} {ds:List Deferred} {W W1:CW} {K:AB} {dl:Nat} {mk:List Deferred} {g:FuncId} {args:List Value} (har:Vy ro W=some (dl,mk,W1))
  (hf:Iu (e.ev f) [.func (.yield W1.sz) #[] #[]]=some (.enter g args))
  (h:∀ W2,ED W1.sz (W1.new .deferred) W2→ET W2 W1.sz .ready none fn e nt ps A B dl→AX P L g args W2 (js W1.sz e (mk++ds) K)):Fk P L ro fn nt (.rangeFunc f ps A B) e ds W K:=by
 intro a ha hn; have h0:W1.new (.loop .ready none fn a.t a.nt ps A B dl)=(W1.new .deferred).BB W1.sz (.loop .ready none fn a.t a.nt ps A B dl)∨True:=.inr trivial; have hu:ED W1.sz (W1.new .deferred) (W1.new (.loop .ready none fn a.t a.nt ps A B dl)):=⟨rfl,fun i hi=>by rw [BW,BW,if_neg hi,if_neg hi]⟩
 have hl:ET (W1.new (.loop .ready none fn a.t a.nt ps A B dl)) W1.sz .ready none fn e nt ps A B dl:=⟨a.t,by rw [BW,if_pos rfl,hn],fun t=>(bt a t).symm.trans (ha.1 t)⟩
 obtain ⟨n,⟨en,W3⟩,h1,⟨v,hv⟩,st,EH,YW,e0,m9,ju,A',B',d',⟨T,ho,hT⟩,EB,hk⟩:=h _ hu hl; simp only at hv; subst hv; have AI5:AE ({ a with defers:=mk++a.defers }:AK) e (mk++ds):=⟨ha.1,by rw [ha.2]⟩
 have key:∀ {o:Exit × AK × CW},VF EH { a with defers:=mk++a.defers } (W3.BB W1.sz (.loop .exhausted EH YW T m9 ju A' B' d'))=some [o]→(Du P L (n+1)).code ro fn (.rangeFunc f ps A B) a W=some [o]:=by
  intro o hx; rw [Jg]; show B0 P (Du P L n) ro fn (.rangeFunc f ps A B) a W=some [o]; unfold B0; simp only [har,ha.eval,hf]; rw [h1]; refine Dv _ _ ?_; simp only [ho]; rw [←hx]
  cases st <;> first | exact (EB rfl).elim | (cases EH with | none=>rfl | some c=>cases c <;> rfl)
 have hk:=hk _ (ED.of W3 W1.sz (.loop .exhausted EH YW T m9 ju A' B' d'))
 have fin:∀ x:Exit,VF EH { a with defers:=mk++a.defers } (W3.BB W1.sz (.loop .exhausted EH YW T m9 ju A' B' d'))=some [(x,({ a with defers:=mk++a.defers }:AK),W3.BB W1.sz (.loop .exhausted EH YW T m9 ju A' B' d'))]→K x e (mk++ds) (W3.BB W1.sz (.loop .exhausted EH YW T m9 ju A' B' d'))→sr P L ro fn (.rangeFunc f ps A B) a W fun x a' W'=>∃ e',AE a' e' a'.defers∧a'.nt=nt∧K x e' a'.defers W':=by
  intro x hx hK
  refine ⟨n+1,_,key hx,e,?_,hn,?_⟩
  ·exact ⟨ha.1,rfl⟩
  ·show K x e (mk++a.defers) _; rw [ha.2]; exact hK
 cases EH with
 | none=>exact fin .normal rfl hk
 | some c =>
  cases c <;> first | exact hk.elim | exact fin _ rfl hk
def m_ (l:Nat) (e:Env) (ds:List Deferred) (K:AB):Ending→CW→Prop
 | .panicked ch,W=>K (.panic ch) e ds W
 | en,W=>js l e ds K en W
theorem fQ {ro:Option Nat} {fn:FuncId} {nt:Nat} {f:Operand} {ps:Array Tmp} {A B:Code} {e:Env} {ds:List Deferred} {W W1:CW} {K:AB} {dl:Nat} {mk:List Deferred} {g:FuncId} {args:List Value} (har:Vy ro W=some (dl,mk,W1))
  (hf:Iu (e.ev f) [.func (.yield W1.sz) #[] #[]]=some (.enter g args))
  (h:∀ W2,ED W1.sz (W1.new .deferred) W2→ET W2 W1.sz .ready none fn e nt ps A B dl→AX P L g args W2 (m_ W1.sz e (mk++ds) K)):Fk P L ro fn nt (.rangeFunc f ps A B) e ds W K:=by
 ·intro a ha hn; have hu:ED W1.sz (W1.new .deferred) (W1.new (.loop .ready none fn a.t a.nt ps A B dl)):=⟨rfl,fun i hi=>by rw [BW,BW,if_neg hi,if_neg hi]⟩
  have hl:ET (W1.new (.loop .ready none fn a.t a.nt ps A B dl)) W1.sz .ready none fn e nt ps A B dl:=⟨a.t,by rw [BW,if_pos rfl,hn],fun t=>(bt a t).symm.trans (ha.1 t)⟩
  obtain ⟨n,⟨en,W3⟩,h1,Lb⟩:=h _ hu hl
  cases en with
  | panicked ch =>
   refine ⟨n+1,(.panic ch,{ a with defers:=mk++a.defers },W3),?_,e,⟨ha.1,rfl⟩,hn,?_⟩
   ·rw [Jg]; show B0 P (Du P L n) ro fn (.rangeFunc f ps A B) a W=_; unfold B0; simp only [har,ha.eval,hf]; rw [h1]; exact Dv _ _ rfl
   ·show K (.panic ch) e (mk++a.defers) W3; rw [ha.2]; exact Lb
  | returned v =>
   obtain ⟨_,st,EH,YW,e0,m9,ju,A',B',d',⟨T,ho,hT⟩,EB,hk⟩:=Lb; have hk:=hk _ (ED.of W3 W1.sz (.loop .exhausted EH YW T m9 ju A' B' d'))
   have key:∀ {o:Exit × AK × CW},VF EH { a with defers:=mk++a.defers } (W3.BB W1.sz (.loop .exhausted EH YW T m9 ju A' B' d'))=some [o]→(Du P L (n+1)).code ro fn (.rangeFunc f ps A B) a W=some [o]:=by
    intro o hx; rw [Jg]; show B0 P (Du P L n) ro fn (.rangeFunc f ps A B) a W=some [o]; unfold B0; simp only [har,ha.eval,hf]; rw [h1]; refine Dv _ _ ?_; simp only [ho]; rw [←hx]
    cases st <;> first | exact (EB rfl).elim | (cases EH with | none=>rfl | some c=>cases c <;> rfl)
   have fin:∀ x:Exit,VF EH { a with defers:=mk++a.defers } (W3.BB W1.sz (.loop .exhausted EH YW T m9 ju A' B' d'))=some [(x,({ a with defers:=mk++a.defers }:AK),W3.BB W1.sz (.loop .exhausted EH YW T m9 ju A' B' d'))]→K x e (mk++ds) (W3.BB W1.sz (.loop .exhausted EH YW T m9 ju A' B' d'))→sr P L ro fn (.rangeFunc f ps A B) a W fun x a' W'=>∃ e',AE a' e' a'.defers∧a'.nt=nt∧K x e' a'.defers W':=by
    intro x hx hK; refine ⟨n+1,_,key hx,e,⟨ha.1,rfl⟩,hn,?_⟩; show K x e (mk++a.defers) _; rw [ha.2]; exact hK
   cases EH with
   | none=>exact fin .normal rfl hk
   | some c=>cases c <;> first | exact hk.elim | exact fin _ rfl hk
  | outgrown=>obtain ⟨⟨v,hv⟩,_⟩:=Lb; cases hv
theorem AEs {fn:FuncId} {nt:Nat} {f:Operand} {ps:Array Tmp} {A B:Code} {e:Env} {ds:List Deferred} {W:CW} {K:AB} {g:FuncId} {args:List Value} (ht:Ag W)
  (hf:Iu (e.ev f) [.func (.yield (W.sz+1)) #[] #[]]=some (.enter g args))
  (h:∀ W2,Kp W W2→Ag W2→W2.sz=W.sz+2→W2.obj W.sz=some .deferred→ET W2 (W.sz+1) .ready none fn e nt ps A B W.sz→AX P L g args W2 (m_ (W.sz+1) e (mark W.sz::ds) K)):Fk P L none fn nt (.rangeFunc f ps A B) e ds W K:=by
 refine fQ (dl:=W.sz) (mk:=[mark W.sz]) (W1:=W.new .deferred) rfl hf fun W2 hu hl=>?_; have k1:Kp W (W.new .deferred):=.new _; have k2:Kp W ((W.new .deferred).new .deferred):=k1.trans (.new _); have t2:Ag ((W.new .deferred).new .deferred):=(ht.new _).new _; refine h W2 (k2.BB (by rw [HA]; omega) hu) (t2.BB (by simp only [HA]; omega) hu) (by rw [hu.sz]; rfl) ?_ hl; rw [hu.obj _ (by rw [HA]; omega),BW,if_neg (by rw [HA]; omega),BW,if_pos rfl]
theorem nA {fn:FuncId} {nt:Nat} {f:Operand} {ps:Array Tmp} {A B:Code} {e:Env} {ds:List Deferred} {W:CW} {K:AB} {g:FuncId} {args:List Value} (ht:Ag W)
  (hf:Iu (e.ev f) [.func (.yield (W.sz+1)) #[] #[]]=some (.enter g args))
  (h:∀ W2,Kp W W2→Ag W2→W2.sz=W.sz+2→W2.obj W.sz=some .deferred→ET W2 (W.sz+1) .ready none fn e nt ps A B W.sz→AX P L g args W2 (js (W.sz+1) e (mark W.sz::ds) K)):Fk P L none fn nt (.rangeFunc f ps A B) e ds W K:=by
 refine jt (dl:=W.sz) (mk:=[mark W.sz]) (W1:=W.new .deferred) rfl hf fun W2 hu hl=>?_; have k1:Kp W (W.new .deferred):=.new _; have k2:Kp W ((W.new .deferred).new .deferred):=k1.trans (.new _); have t2:Ag ((W.new .deferred).new .deferred):=(ht.new _).new _; refine h W2 (k2.BB (by rw [HA]; omega) hu) (t2.BB (by simp only [HA]; omega) hu) (by rw [hu.sz]; rfl) ?_ hl; rw [hu.obj _ (by rw [HA]; omega),BW,if_neg (by rw [HA]; omega),BW,if_pos rfl]
end
end Go.Ce
namespace Go.Ce
section
variable {κ:Type} [DecidableEq κ]
def look (m:List (κ × Value)) (s:κ) (i:Nat):Option (Nat × Value):=match m with
 | []=>none
 | p::m=>if s=p.1 then some (i,p.2) else look m s (i+1)
def MQ (m:List (κ × Value)) (s:κ):Option Value:=match m with
 | []=>none
 | p::m=>if s=p.1 then some p.2 else MQ m s
def bu (m:List (κ × Value)) (s:κ) (x:Value):List (κ × Value):=match m with
 | []=>[(s,x)]
 | p::m=>if s=p.1 then (s,x)::m else p::bu m s x
theorem JX:∀ (m:List (κ × Value)) (s:κ) (x:Value) (u:κ),MQ (bu m s x) u=if u=s then some x else MQ m u
 | [],s,x,u=>by simp [bu,MQ]
 | p::m,s,x,u=>by
  simp only [bu]
  by_cases h:s=p.1
  ·rw [if_pos h]; simp only [MQ]
   by_cases hu:u=s
   ·rw [if_pos hu,if_pos hu]
   ·rw [if_neg hu,if_neg hu,if_neg (by rw [←h]; exact hu)]
  ·rw [if_neg h]; simp only [MQ]
   by_cases hu:u=p.1
   ·rw [if_pos hu,if_pos hu,if_neg (fun e=>h (by rw [←e]; exact hu))]
   ·rw [if_neg hu,if_neg hu,JX m s x u]
theorem fR:∀ (m:List (κ × Value)) (s:κ) (i:Nat),(look m s i).map (·.2)=MQ m s
 | [],s,i=>rfl
 | p::m,s,i=>by
  simp only [look,MQ]
  by_cases h:s=p.1
  ·rw [if_pos h,if_pos h]; rfl
  ·rw [if_neg h,if_neg h]; exact fR m s (i+1)
def GW (enc:κ→Value) (W:CW) (r:Nat) (m:List (κ × Value)):Prop:=∃ es E7,W.obj r=some (.map es E7)∧es.map (fun e=>(e.key,e.val))=m.map fun p=>(enc p.1,p.2)
theorem GW.congr {enc:κ→Value} {W W':CW} {r:Nat} {m:List (κ × Value)} (h:GW enc W r m) (ho:W'.obj r=W.obj r):GW enc W' r m:=by
 obtain ⟨es,E7,h1,h2⟩:=h; exact ⟨es,E7,ho.trans h1,h2⟩
theorem GW.lt {enc:κ→Value} {W:CW} (ht:Ag W) {r:Nat} {m:List (κ × Value)} (h:GW enc W r m):r<W.sz:=by
 obtain ⟨es,E7,h1,h2⟩:=h; exact ht _ _ h1
theorem GW.kp {enc:κ→Value} {W W':CW} {r:Nat} {m:List (κ × Value)} (h:GW enc W r m) (ht:Ag W) (k:Kp W W'):GW enc W' r m:=h.congr (k.obj r (h.lt ht))
variable {enc:κ→Value} {d:TypeDesc}
theorem XE (hk:∀ a b,OU d (enc a) (enc b)=some (decide (a=b))) (s:κ):∀ (es:List MapEntry) (m:List (κ × Value)) (i:Nat),es.map (fun e=>(e.key,e.val))=m.map (fun p=>(enc p.1,p.2))→LH d (enc s) es i=some (look m s i)
 | [],[],i,_=>rfl
 | e::es,p::m,i,h=>by
  simp only [List.map_cons,List.cons.injEq,Prod.mk.injEq] at h; obtain ⟨⟨h1,h2⟩,h3⟩:=h; simp only [LH,look]; rw [h1,hk]
  by_cases hs:s=p.1
  ·rw [if_pos hs,decide_eq_true hs]; simp only [h2]
  ·rw [if_neg hs,decide_eq_false hs]; exact XE hk s es m (i+1) h3
 | [],_::_,_,h=>by cases h
 | _::_,[],_,h=>by cases h
theorem nB (hk:∀ a b,OU d (enc a) (enc b)=some (decide (a=b))) (s:κ) (x:Value):∀ (es:List MapEntry) (m:List (κ × Value)) (i j:Nat) (y:Value),es.map (fun e=>(e.key,e.val))=m.map (fun p=>(enc p.1,p.2))→look m s i=some (j,y) →
  (KF x (enc s) (j-i) es).map (fun e=>(e.key,e.val))=(bu m s x).map (fun p=>(enc p.1,p.2))∧i≤j
 | [],[],i,j,y,_,hl=>by cases hl
 | e::es,p::m,i,j,y,h,hl=>by
  simp only [List.map_cons,List.cons.injEq,Prod.mk.injEq] at h; obtain ⟨⟨h1,h2⟩,h3⟩:=h; simp only [look] at hl; simp only [bu]
  by_cases hs:s=p.1
  ·rw [if_pos hs] at hl; rw [if_pos hs]
   cases hl
   refine ⟨?_,Nat.le_refl _⟩; rw [Nat.sub_self]; simp only [KF,List.map_cons,h3]
  ·rw [if_neg hs] at hl; rw [if_neg hs]; obtain ⟨h4,h5⟩:=nB hk s x es m (i+1) j y h3 hl; refine ⟨?_,by omega⟩; rw [show j-i=(j-(i+1))+1 by omega]; simp only [KF,List.map_cons,h4,h1,h2]
 | [],_::_,_,_,_,h,_=>by cases h
 | _::_,[],_,_,_,h,_=>by cases h
theorem Oy (s:κ) (x:Value):∀ (m:List (κ × Value)) (i:Nat),look m s i=none→bu m s x=m++[(s,x)]
 | [],i,_=>rfl
 | p::m,i,h=>by
  simp only [look] at h; simp only [bu]
  by_cases hs:s=p.1
  ·rw [if_pos hs] at h; cases h
  ·rw [if_neg hs] at h ⊢; rw [Oy s x m _ h]; rfl
variable {P:Program} {t kt el:TypeId} {z:Value}
theorem MR (u:P.underlying t=some (.map kt el)) (uk:P.underlying kt=some d) (hd:JR d=true) (hz:Hz P el=some z) (hk:∀ a b,OU d (enc a) (enc b)=some (decide (a=b))) {W:CW} {r:Nat} {m:List (κ × Value)} (h:GW enc W r m) (s:κ) (ok:Bool) :
  YB P t (.map (some r)) (enc s) ok W=some (match MQ m s with
   | some x=>cond ok (.tuple #[x,.bool true]) x
   | none=>cond ok (.tuple #[z,.bool false]) z):=by
 obtain ⟨es,E7,h1,h2⟩:=h; unfold YB OV; simp only [u,uk,hd,hz,h1,DJ,cond_true]; rw [XE hk s es m 0 h2]; simp only; have:=fR m s 0
 cases hl:look m s 0 with
 | none=>rw [hl] at this; rw [←this]; rfl
 | some p=>rw [hl] at this; obtain ⟨i,x⟩:=p; rw [←this]; rfl
theorem fS (u:P.underlying t=some (.map kt el)) (uk:P.underlying kt=some d) (hd:JR d=true) (hk:∀ a b,OU d (enc a) (enc b)=some (decide (a=b))) {W:CW} {r:Nat} {m:List (κ × Value)} (h:GW enc W r m) {s:κ} {x:Value} {K:CW→Prop}
  (hK:∀ W1,ED r W W1→GW enc W1 r (bu m s x)→K W1):wV (hX P t (.map (some r)) (enc s) x W) K:=by
 obtain ⟨es,E7,h1,h2⟩:=h; have hf:=XE hk s es m 0 h2
 cases hl:look m s 0 with
 | none =>
  rw [hl] at hf
  refine As (v:=W.BB r (.map (es++[{ key:=enc s,val:=x,born:=E7 }]) (E7+1))) ?_ (hK _ (ED.of _ _ _) ⟨_,_,by rw [G3,if_pos rfl],?_⟩)
  ·unfold hX OV; simp only [u,uk,hd,h1,DJ,cond_true,hf]
  ·rw [Oy s x m 0 hl,List.map_append,List.map_append,h2]; rfl
 | some p =>
  obtain ⟨j,y⟩:=p; rw [hl] at hf; obtain ⟨h3,_⟩:=nB hk s x es m 0 j y h2 hl; rw [Nat.sub_zero] at h3; refine As (v:=W.BB r (.map (KF x (enc s) j es) E7)) ?_ (hK _ (ED.of _ _ _) ⟨_,_,by rw [G3,if_pos rfl],h3⟩); unfold hX OV; simp only [u,uk,hd,h1,DJ,cond_true,hf]
theorem XF {W:CW} {K:Value→CW→Prop} (ht:Ag W) (hk:∀ W1,Kp W W1→Ag W1→W1.sz=W.sz+1→GW enc W1 W.sz []→K (.map (some W.sz)) W1):Mw (zH W) K :=
 hk _ (.new _) (ht.new _) rfl ⟨[],0,by rw [BW,if_pos rfl],rfl⟩
end
theorem G6 (a b:ByteArray):OU .string (.string a) (.string b)=some (decide (a=b)):=by
 simp only [OU,G5]
section
variable {P:Program}
theorem N4 {W:CW} {a:Addr} {cs:List Value} (h:Cells W a.block a.off cs):EO (some a) cs.length W=some cs:=by
 unfold EO; simp only [cond_eq_ite]
 cases cs with
 | nil=>rfl
 | cons c cs =>
  rw [if_neg (by simp)]; have T0:∃ v,(c::cs)[cs.length]?=some v:=⟨(c::cs)[cs.length]'(by simp),List.getElem?_eq_getElem _⟩
  obtain ⟨v,hv⟩:=T0; have LP:=h _ v hv; unfold CW.cell at LP
  split at LP
  ·rename_i t n z e ho
   split at LP
   ·rename_i Ae; rw [ho]; simp only [List.length_cons]; rw [if_pos (Nat.ble_eq_true_of_le (by omega))]
    have:=Hl (c:=t) (z:=z) (vs:=c::cs) (k:=a.off) fun j w hj=>by
     have:=h j w hj; unfold CW.cell at this; rw [ho] at this; simp only at this
     split at this
     ·exact Option.some.inj this
     ·cases this
    rw [←this]; simp
   ·cases LP
  ·rename_i f n e ho
   split at LP
   ·rename_i Ae; rw [ho]; simp only [List.length_cons]; rw [if_pos (Nat.ble_eq_true_of_le (by omega))]
    have:=PJ (f:=f) (vs:=c::cs) (k:=a.off) fun j w hj=>by
     have:=h j w hj; unfold CW.cell at this; rw [ho] at this; simp only at this
     split at this
     ·exact Option.some.inj this
     ·cases this
    rw [←this]; simp
   ·cases LP
  ·cases LP
inductive CD (W:CW) (el:TypeId) (n:Nat):Value→List Value→Prop where
 | nil:CD W el n (.slice none 0 0) []
 | some {b len:Nat} {cs:List Value} (h:BX W b el cs) (hl:cs.length=len*n):CD W el n (.slice (some ⟨b,0,none⟩) len len) cs
structure AHA (v:Value) (W W':CW):Prop where
 sz:W'.sz=W.sz+1
 top:Ag W→Ag W'
 obj:∀ i,i<W.sz→(∀ b l c,v=.slice (some b) l c→i≠b.block)→W'.obj i=W.obj i
theorem nC {t u el:TypeId} {ts:List TypeId} {n bytes:Nat} {z:Value} (ut:P.underlying t=some (.slice el)) (hu:HT P u=true) (hs:D_ P el=some n) (hz:Hz P el=some z) (hY:z.cells.size=n) (hn:0<n) (pL:(P.info? el).map (·.bytes)=some bytes) (hb:bytes≤1024)
  {W:CW} (ht:Ag W) {v x:Value} {cs news:List Value} {m:Nat} (hv:CD W el n v cs) (hx:aG x=some m) (hm:0<m) (Ye:HS x m n W=some news) (h1:news.all Ba=true) (K2:news.length=m*n) (bz:cs.length+m≤1000000) {K:Value→CW→Prop}
  (hk:∀ W1 len,AHA v W W1→(cs++news).length=len*n→BX W1 W.sz el (cs++news)→K (.slice (some ⟨W.sz,0,none⟩) len len) W1):Mw (app P (t::u::ts) v x W) K:=by
 have Yf:Nat.ble ((P.info? el).map (·.bytes) |>.getD 2000) 1024=true:=by rw [pL]; exact Nat.ble_eq_true_of_le hb
 unfold app; simp only [hu,cond_true]
 cases hv with
 | nil =>
  have hc:GG P t (.slice none 0 0) x W=some (.slice (some ⟨W.sz,0,none⟩) (0+m) (0+m),W.new (.cells (Tr.nil.Aa 0 news) ((0+m)*n) #[] el)):=by
   unfold GG; simp only [ut,hx,DJ,hs,hz,Ye,h1,K2,Nat.beq_refl,hY,Yf,Bool.true_and,Bool.and_true]; rw [show Nat.blt 0 n=true from Nat.ble_eq_true_of_le hn,show Nat.ble (0+m) 1000000=true from Nat.ble_eq_true_of_le (by simp only [List.length_nil] at bz; omega)]; simp only [Bool.and_self,cond_true]; rw [show Nat.ble (0+m) 0=false from by cases h:Nat.ble (0+m) 0 with | false=>rfl | true=>have:=Nat.le_of_ble_eq_true h; omega]; simp only [cond_false]
  refine Hm hc (hk _ _ ⟨rfl,fun ht=>ht.new _,fun i hi _=>by rw [BW,if_neg (by omega)]⟩ (by rw [List.nil_append,K2]; congr 1; omega) ⟨_,_,_,by rw [BW,if_pos rfl],by rw [List.nil_append,K2]; congr 1; omega,fun k w hw=>?_⟩); rw [List.nil_append] at hw; rw [DE _ _ _ (List.getElem?_eq_some_iff.1 hw).1,List.getD_eq_getElem?_getD,hw]; rfl
 | @some b len cs hB hl =>
  obtain ⟨c,k,zz,ho,Mu,Ah⟩:=hB; have hlen:len≤cs.length:=by rw [hl]; exact Nat.le_mul_of_pos_right _ hn
  have NH:Bk c zz (len*n) 0=cs:=by
   rw [←hl]; exact Hl fun j w hj=>by rw [Nat.zero_add]; exact Ah j w hj
  have hc:GG P t (.slice (some ⟨b,0,none⟩) len len) x W=some (.slice (some ⟨W.sz,0,none⟩) (len+m) (len+m),(W.BB b .dead).new (.cells (Tr.nil.Aa 0 (cs++news)) ((len+m)*n) #[] el)):=by
   unfold GG; simp only [ut,hx,DJ,hs,hz,Ye,h1,K2,Nat.beq_refl,hY,Yf,Bool.true_and,Bool.and_true]; rw [show Nat.blt 0 n=true from Nat.ble_eq_true_of_le hn,show Nat.ble (len+m) 1000000=true from Nat.ble_eq_true_of_le (by omega)]; simp only [Bool.and_self,cond_true]; rw [show Nat.ble (len+m) len=false from by cases h:Nat.ble (len+m) len with | false=>rfl | true=>have:=Nat.le_of_ble_eq_true h; omega]; simp only [cond_false,Option.isSome_none,ho,Nat.beq_refl,Bool.and_true,Nat.zero_add,NH]; rw [show Nat.ble (len*n) k=true from Nat.ble_eq_true_of_le (by omega)]; simp only [cond_true]
  refine Hm hc (hk _ _ ⟨rfl,fun ht=>Ag.new (ht.BB (ht _ _ ho) (ED.of _ _ _)) _,fun i hi D0=>by
    have:=D0 ⟨b,0,none⟩ len len rfl
    rw [BW,if_neg (by rw [te]; omega),G3,if_neg this]⟩ (by rw [List.length_append,hl,K2,←Nat.add_mul]) ⟨_,_,_,by rw [BW,if_pos (by rw [te])],by rw [List.length_append,hl,K2,←Nat.add_mul],fun k w hw=>?_⟩)
  rw [DE _ _ _ (List.getElem?_eq_some_iff.1 hw).1,List.getD_eq_getElem?_getD,hw]; rfl
end
end Go.Ce
namespace Go.Ce
open Go Go.Proofs Go.Proofs.Tryz
def YC (v:Value) (W:CW):Ending→CW→Prop:=fun e W'=>e=.returned v∧Kp W W'∧Ag W'
theorem FV {P:Program} {L:List FuncId} {f:FuncId} {args:List Value} {W:CW} {K:Value→CW→Prop} {KP:List PanicEntry→CW→Prop} {v:Value} (h:AX P L f args W (YC v W)) (hk:∀ W1,Kp W W1→Ag W1→K v W1):AX P L f args W (DQ K KP) :=
 h.mono fun e W' ⟨he,h1,h2⟩=>by subst he; exact hk W' h1 h2
def fT (W:CW) (b o:Nat) (x:UInt8):Prop:=W.cell b o=some (.int .u8 x.toNat)
def GJ (x:UInt8):Bool:=decide ((x.toNat:Int)<33) || decide ((x.toNat:Int)>126)
def RJ {α:Type} (l:List α) (p:α→Bool):Int:=match l.findIdx? p with
 | some i=>i
 | none=>-1
theorem N5 {α:Type} {l:List α} {p:α→Bool} {i:Nat} (h:i<l.length) (hp:p l[i]=true) (A0:∀ j x,j<i→l[j]?=some x→p x=false):RJ l p=i:=by
 have:l.findIdx? p=some i:=by
  rw [List.findIdx?_eq_some_iff_getElem]; exact ⟨h,hp,fun j hj=>by rw [A0 j l[j] hj (List.getElem?_eq_getElem _)]; simp⟩
 simp [RJ,this]
theorem Lc {α:Type} {l:List α} {p:α→Bool} (A0:∀ (j:Nat) x,j<l.length→l[j]?=some x→p x=false):RJ l p=-1:=by
 have:l.findIdx? p=none:=by
  rw [List.findIdx?_eq_none_iff]; intro x hx; obtain ⟨j,hj,rfl⟩:=List.mem_iff_getElem.1 hx; exact A0 j l[j] hj (List.getElem?_eq_getElem _)
 simp [RJ,this]
theorem fU {v:Value} {l:List UInt8} {W:CW} (hl:AV 1 (fT W) v l) (hlen:l.length<1000000):AX prog Br 140 [v,.func (.func 124) #[] #[]] W (GV (.int .i64 (RJ l GJ)) W):=by
 refine ABb ?_; rw [ABa]; obtain ⟨a,cap,rfl,Ah⟩:=hl; rw [AU Yc]; simp only [AA]; refine DK (fun k e ds W'=>W'=W∧ds=[]∧∃ i:Nat,e 0=.slice a l.length cap∧e 1=.func (.func 124) #[] #[]∧e 7=.int .i64 l.length∧e 8=.int .i64 i∧i≤l.length∧k=l.length-i∧∀ j x,j<i→l[j]?=some x→GJ x=false) l.length ⟨rfl,rfl,0,rfl,rfl,rfl,rfl,by omega,by omega,by omega⟩ ?_; rintro k e ds W' ⟨rfl,rfl,i,h0,h1,h7,h8,hi,rfl,A0⟩; rw [xZ,h0,h1,h7,h8]; simp only [AA,AS]
 refine AD (fun h=>?_) (fun h=>?_)
 ·have Ae:i<l.length:=by simpa using h
  have hx:=List.getElem?_eq_getElem Ae; obtain ⟨p,rfl,hp⟩:=Ah i _ hx; rw [Ad Yc s5 Ae]; simp only [AA,AF a5 (a:=⟨p.block,p.off+i*1,none⟩) hp]; refine VD Tryz.func124 (by kernel_rfl) (At (br _ _) ?_)
  refine AD (fun hq=>?_) (fun hq=>?_)
  ·simp only [ZO,G4,tf,JI,bg,W_,AI,↓reduceIte]; refine ⟨?_,rfl⟩; rw [N5 Ae hq A0]
  ·simp only [ZO,Ay,AI,AQ,Nat.reduceEqDiff,↓reduceIte,h0,h1,h7,h8,AO,AA,St]
   refine ⟨l.length-(i+1),by omega,trivial,trivial,i+1,trivial,trivial,trivial,?_,Ae,rfl,fun j x hj J'=>?_⟩
   ·rw [wrap64 (by omega) (by omega)]; rfl
   ·rcases Nat.lt_succ_iff_lt_or_eq.1 hj with h2 | rfl
    ·exact A0 j x h2 J'
    ·rw [hx] at J'; cases J'; exact hq
 ·have HQ:i=l.length:=by have:¬i<l.length:=(by simpa using h); omega
  simp only [UF,Gc,bg,Ay,W_,AI,↓reduceIte]; refine ⟨?_,rfl⟩; rw [Lc fun j x hj hx=>A0 j x (by omega) hx]
theorem XG {v:Value} {l:List UInt8} {W:CW} (hl:AV 1 (fT W) v l) (hlen:l.length<1000000):AX prog Br 123 [v,.func (.func 124) #[] #[]] W (GV (.bool (l.any GJ)) W):=by
 refine ABZ ?_; rw [ABY]; refine At (fU hl hlen) ?_; simp only [CZ,AA,jo,AI,↓reduceIte]; refine ⟨?_,rfl⟩; congr 2
 cases h:l.any GJ with
 | true =>
  obtain ⟨x,hx,hb⟩:=List.any_eq_true.1 h; unfold RJ
  cases h2:l.findIdx? GJ with
  | none=>rw [List.findIdx?_eq_none_iff] at h2; rw [h2 x hx] at hb; cases hb
  | some i=>simp
 | false =>
  rw [Lc fun j x hj hx=>by
   have:=List.any_eq_false.1 h x (List.mem_of_getElem? hx)
   simpa using this]
  rfl
def Gu (s:ByteArray):Bool:=(decide ((1:Int)≤s.size) && decide ((s.size:Int)≤60)) && !(sb s).any GJ
theorem AEt {s:ByteArray} {W:CW} (ht:Ag W) {K:Value→CW→Prop} (hk:∀ v W1,Kp W W1→Ag W1→AV 1 (fT W1) v (sb s)→K v W1):Mw (cvs prog 9 29 (.string s) W) K:=by
 have hc:cvs prog 9 29 (.string s) W=some (.slice (some ⟨W.sz,0,none⟩) s.size s.size,W.new (.cells (Tr.nil.Aa 0 (EA (sb s))) s.size #[] 5)):=by kernel_rfl
 have J5:(sb s).length=s.size:=by cases s; exact Array.length_toList
 refine Hm hc (hk _ _ (.new _) (ht.new _) ⟨some ⟨W.sz,0,none⟩,s.size,by rw [J5],fun i x hx=>⟨_,rfl,?_⟩⟩); have Ae:=(List.getElem?_eq_some_iff.1 hx).1; unfold fT CW.cell; rw [BW,if_pos rfl]; simp only [Nat.zero_add,Nat.mul_one]; rw [if_pos (by omega),DE _ _ _ (by simp [EA]; exact Ae)]; simp [EA,List.getD_eq_getElem?_getD,hx]
theorem UG {s:ByteArray} {W:CW} (ht:Ag W) (hlen:s.size<1000000):AX prog Br 101 [.string s] W (YC (.bool (Gu s)) W):=by
 have J5:(sb s).length=s.size:=by cases s; exact Array.length_toList
 refine ABX ?_; rw [ABW,Ii u9]; simp only [AA]; refine At (fN _ _ _ _) ?_
 refine AD (fun h=>?_) (fun h=>?_)
 ·refine AEt ht fun v W1 k1 t1 hv=>?_; refine At (XG hv (by omega)) ?_; simp only [Ac,AA,N1,Ay,Wz,AI,↓reduceIte]; refine ⟨?_,k1,t1⟩; simp only [Gu,h,Bool.true_and]
 ·simp only [N1,Ay,Wz,AI,↓reduceIte]; refine ⟨?_,.refl _,ht⟩; simp only [Gu,h,Bool.false_and]
end Go.Ce
namespace Go.Ce
open Go Go.Proofs Go.Proofs.Tryz
theorem Ld (s:ByteArray):(sb s).length=s.size:=by cases s; exact Array.length_toList
theorem ABi (s:ByteArray) (i:Nat):s[i]?=(sb s)[i]?:=by
 by_cases h:i<s.size
 ·rw [getElem?_pos s i h,List.getElem?_eq_getElem (by rw [Ld]; exact h)]
  cases s
  simp [sb]; rfl
 ·rw [getElem?_neg s i h,List.getElem?_eq_none (by rw [Ld]; omega)]
theorem XH (n:Int) (W:CW):AX prog Br 96 [.int .u8 n] W (GV (.bool (n == 1 || n == 2)) W):=by
 refine AEg ?_; rw [AEf]; simp only [BK,AA]; refine AD (fun h=>?_) (fun h=>?_) <;> simp only [jj,Ay,pH,AI] <;> refine ⟨?_,rfl⟩ <;> simp [h]
theorem RK {s:ByteArray} {W:CW} (hlen:s.size<1000000):AX prog Br 95 [.string s] W (GV (.bool (Gu s)) W):=by
 refine AEe ?_; rw [AEd]; refine DK (fun k e ds W'=>W'=W∧ds=[]∧∃ i:Nat,e 0=.string s∧e 3=.int .i64 i∧i≤s.size∧k=s.size-i∧∀ j x,j<i→(sb s)[j]?=some x→GJ x=false) s.size ⟨rfl,rfl,0,rfl,rfl,by omega,by omega,by omega⟩ ?_; rintro k e ds W' ⟨rfl,rfl,i,h0,h3,hi,rfl,A0⟩; rw [ABN,h0,h3,Ii u9]; simp only [AA,AS]
 refine AD (fun h=>?_) (fun h=>?_)
 ·have Ae:i<s.size:=by simpa using h
  have hx:(sb s)[i]?=some ((sb s)[i]'(by rw [Ld]; exact Ae)):=List.getElem?_eq_getElem _; rw [xe u9 (by rw [ABi]; exact hx)]; simp only [AA,AS,Av]
  have next:∀ e1:Env,e1 0=.string s→e1 3=.int .i64 i→e1 19=.bool (GJ ((sb s)[i]'(by rw [Ld]; exact Ae)))→(bY none (FD (fun k e ds AHB=>AHB=W'∧ds=[]∧∃ i:Nat,e 0=.string s∧e 3=.int .i64 i∧i≤s.size∧k=s.size-i∧∀ j x,j<i→(sb s)[j]?=some x→GJ x=false) (s.size-i) (CL 0 (ji none (AJ prog Tryz.f95 (GV (.bool (Gu s)) W')))))) .normal e1 [] W':=by
   intro e1 g0 g3 g19; simp only [bY,Ay]; rw [g19]
   refine AD (fun hq=>?_) (fun hq=>?_)
   ·simp only [fK,G4,tf,JI,fJ,Sq,AI,↓reduceIte]; refine ⟨?_,rfl⟩; have:(sb s).any GJ=true:=List.any_eq_true.2 ⟨_,List.mem_of_getElem? hx,hq⟩; simp [Gu,this]
   ·simp only [fK,Ay,AI,AQ,Nat.reduceEqDiff,↓reduceIte,g0,g3,AO,AA,St]
    refine ⟨s.size-(i+1),by omega,trivial,trivial,i+1,trivial,?_,Ae,rfl,fun j x hj J'=>?_⟩
    ·rw [wrap64 (by omega) (by omega)]; rfl
    ·rcases Nat.lt_succ_iff_lt_or_eq.1 hj with h2 | rfl
     ·exact A0 j x h2 J'
     ·rw [hx] at J'; cases J'; exact hq
  refine AD (fun hq=>?_) (fun hq=>?_)
  ·refine next _ ?_ ?_ ?_ <;> simp only [AI,AQ,Nat.reduceEqDiff,↓reduceIte,h0,h3]
   simp only [GJ,hq,Bool.true_or]
  ·refine next _ ?_ ?_ ?_ <;> simp only [AI,AQ,Nat.reduceEqDiff,↓reduceIte,h0,h3]
   simp only [GJ,hq,Bool.false_or]
 ·have HQ:i=s.size:=by have:¬i<s.size:=(by simpa using h); omega
  simp only [UF,Gc,fJ,Ay,AI,AQ,Nat.reduceEqDiff,↓reduceIte,h0,Ii u9,AA,CZ,DY]
  have:(sb s).any GJ=false:=by
   rw [List.any_eq_false]; intro x hx; obtain ⟨j,hj,rfl⟩:=List.mem_iff_getElem.1 hx; have:=A0 j _ (by rw [Ld] at hj; omega) (List.getElem?_eq_getElem hj); simp [this]
  refine AD (fun hq=>?_) (fun hq=>?_)
  ·simp only [bW,Ay,Sq,AI,↓reduceIte]; refine ⟨?_,rfl⟩; have hq:(1:Int)≤s.size:=of_decide_eq_true hq; simp [Gu,this,hq]
  ·simp only [bW,Ay,Sq,AI,↓reduceIte]; refine ⟨?_,rfl⟩; have hq:¬(1:Int)≤s.size:=of_decide_eq_false hq; simp only [Gu,hq,decide_false,Bool.false_and]
end Go.Ce
namespace Go.Ce
section
variable {P:Program}
def BF (A:Nat) (v:Value):Prop:=∀ b l c,v=.slice (some b) l c→A≤b.block
theorem BF.nil (A l c:Nat):BF A (.slice none l c):=fun b l c h=>by cases h
theorem ZS {A:Nat} {len:Nat} {b:Nat} (h:A≤b):BF A (.slice (some ⟨b,0,none⟩) len len):=fun b l c h=>by cases h; assumption
structure K_ (v:Value) (W W':CW):Prop where
 sz:W.sz≤W'.sz
 obj:∀ i,i<W.sz→(∀ b l c,v=.slice (some b) l c→i≠b.block)→W'.obj i=W.obj i
theorem K_.kp {v:Value} {A W W':CW} (h:K_ v W W') (k:Kp A W) (hv:BF A.sz v):Kp A W' :=
 ⟨by have:=h.sz; have:=k.sz; omega,fun i hi=>by
  rw [h.obj i (by have:=k.sz; omega) (fun b l c e=>by have:=hv b l c e; omega)]
  exact k.obj i hi⟩
theorem Sv {t el:TypeId} {ts:List TypeId} {n bytes:Nat} {z x:Value} {xs:List Value} (ut:P.underlying t=some (.slice el)) (hs:D_ P el=some n) (hz:Hz P el=some z) (hY:z.cells.size=n) (hn:0<n) (pL:(P.info? el).map (·.bytes)=some bytes) (hb:bytes≤1024)
  (ABj:∀ W,rB P t 1 [(0,x)] W=some (.slice (some ⟨W.sz,0,none⟩) 1 1,W.new (.cells (Tr.nil.Aa 0 xs) xs.length #[] el))) (sW:xs.length=n) (YV:xs.all Ba=true)
  {W:CW} (ht:Ag W) {v:Value} {cs:List Value} (hv:CD W el n v cs) (bz:cs.length<900000) {K:Value→Value→CW→Prop}
  (hk:∀ u v1 W1,K_ v W W1→Ag W1→CD W1 el n v1 (cs++xs)→(∀ A,A≤W.sz→BF A v1)→K u v1 W1):Mw (rB P t 1 [(0,x)] W) fun u W1=>Mw (app P (t::t::ts) v u W1) fun v1 W2=>K u v1 W2:=by
 refine Hm (ABj W) ?_; have Yg:Kp W (W.new (.cells (Tr.nil.Aa 0 xs) xs.length #[] el)):=.new _
 have hB:BX (W.new (.cells (Tr.nil.Aa 0 xs) xs.length #[] el)) W.sz el xs:=⟨_,_,_,by rw [BW,if_pos rfl],rfl,fun k w hw=>by
  rw [DE _ _ _ (List.getElem?_eq_some_iff.1 hw).1,List.getD_eq_getElem?_getD,hw]; rfl⟩
 have HD:CD (W.new (.cells (Tr.nil.Aa 0 xs) xs.length #[] el)) el n v cs:=by
  cases hv with
  | nil=>exact .nil
  | some h hl=>exact .some (h.ext ht Yg) hl
 have wG:∀ b l c,v=.slice (some b) l c→b.block<W.sz:=by
  intro b l c e
  cases hv with
  | nil=>cases e
  | some h hl=>cases e; exact h.lt ht
 have hu:HT P t=true:=by unfold HT; rw [ut]
 refine nC (x:=.slice (some ⟨W.sz,0,none⟩) 1 1) (m:=1) (news:=xs) ut hu hs hz hY hn pL hb (ht.new _) HD rfl (by omega) ?_ YV (by omega) (by omega) fun W1 len hg hl Uj=>?_
 ·show EO (some ⟨W.sz,0,none⟩) (1*n) _=some xs; rw [Nat.one_mul,←sW]; exact N4 hB.cells
 ·refine hk _ _ W1 ⟨by rw [hg.sz,HA]; omega,fun i hi D0=>?_⟩ (hg.top (ht.new _)) (.some Uj hl) (fun A hA b l c e=>by cases e; rw [HA]; show A≤W.sz+1; omega); rw [hg.obj i (by rw [HA]; omega) D0,BW,if_neg (by omega)]
end
end Go.Ce
namespace Go.Ce
open Go Go.Proofs Go.Proofs.Tryz
theorem AV.imp {α:Type} {n:Nat} {R S:Nat→Nat→α→Prop} {v:Value} {l:List α} (h:AV n R v l) (hi:∀ b o x,R b o x→S b o x):AV n S v l:=by
 obtain ⟨a,cap,h1,h2⟩:=h; exact ⟨a,cap,h1,fun i x hx=>by obtain ⟨p,hp,hr⟩:=h2 i x hx; exact ⟨p,hp,hi _ _ _ hr⟩⟩
theorem Su.kp {W W':CW} {b o:Nat} {x:RG} (h:Su W b o x) (ht:Ag W) (k:Kp W W'):Su W' b o x:=⟨k.cell ht h.name,k.cell ht h.kind,h.lo,h.hi⟩
theorem Dc.kp {W W':CW} {b o:Nat} {x:Al} (h:Dc W b o x) (ht:Ag W) (k:Kp W W'):Dc W' b o x :=
 ⟨k.cell ht h.name,k.cell ht h.BR,by obtain ⟨v,h1,h2⟩:=h.fields; exact ⟨v,k.cell ht h1,h2.imp fun _ _ _ hr=>hr.kp ht k⟩,k.cell ht h.elem,by obtain ⟨a,l,n,h1⟩:=h.binds; exact ⟨a,l,n,k.cell ht h1⟩,h.lo,h.hi⟩
def C':ByteArray:=⟨#[]⟩
def RL (c:List Al) (i:Nat):Option Nat:=match c[i]? with
 | some x=>match c.findIdx? (fun y=>decide (y.name=x.BR)) with
  | some j=>match c[j]? with
   | some y=>if y.elem=0 then some j else none
   | none=>none
  | none=>none
 | none=>none
def Bd (c:List Al):Nat→Nat→Option (List Nat)
 | f,i=>match c[i]? with
  | none=>none
  | some x=>if x.BR=C' then some [i] else match f with
   | 0=>none
   | f+1=>match RL c i with
    | some j=>(Bd c f j).map (i::·)
    | none=>none
termination_by f=>f
def ints (l:List Nat):List Value:=l.map fun (i:Nat)=>Value.int .i64 (i:Int)
theorem z3:Hz prog 3=some (.int .i64 0):=by kernel_rfl
theorem tj:(prog.info? 3).map (·.bytes)=some 8:=by kernel_rfl
theorem Oz (n:Int) (W:CW):rB prog 40 1 [(0,.int .i64 n)] W=some (.slice (some ⟨W.sz,0,none⟩) 1 1,W.new (.cells (Tr.nil.Aa 0 [.int .i64 n]) [Value.int .i64 n].length #[] 3)):=by kernel_rfl
theorem xh (W:CW) (el:TypeId) (x:Value):CD (W.new (.cells (Tr.nil.Aa 0 [x]) [x].length #[] el)) el 1 (.slice (some ⟨W.sz,0,none⟩) 1 1) [x] :=
 .some ⟨Tr.nil.Aa 0 [x],1,#[],by rw [BW,if_pos rfl]; rfl,rfl,fun k w hw=>by
  rw [DE _ _ _ (List.getElem?_eq_some_iff.1 hw).1,List.getD_eq_getElem?_getD,hw]; rfl⟩ rfl
theorem GB {P:Program} {t el xi:TypeId} (u:P.underlying t=some (.slice xi)) {W W':CW} {v:Value} {cs:List Value} (h:CD W el 1 v cs):OI P t v W'=some (.int .i64 cs.length):=by
 cases h with
 | nil=>rw [AU u]; rfl
 | some hB hl=>rw [AU u,hl,Nat.mul_one]
def fV (c:List Al) (i:Nat) (W:CW):Ending→CW→Prop:=fun e W'=>Kp W W'∧Ag W'∧match Bd c c.length i with
 | some l=>∃ vo,e=.returned (.tuple #[vo,.bool true])∧CD W' 3 1 vo (ints l)∧BF W.sz vo
 | none=>e=.returned (.tuple #[.slice none 0 0,.bool false])
theorem Lf {c:List Al} {f i:Nat} {x:Al} (hx:c[i]?=some x) (hs:x.BR=C'):Bd c f i=some [i]:=by
 unfold Bd; rw [hx]; simp only [hs,if_true]
theorem PK {c:List Al} {i:Nat} {x:Al} (hx:c[i]?=some x) (hs:x.BR≠C'):Bd c 0 i=none:=by
 unfold Bd; rw [hx]; simp only [hs,if_false]
theorem IE {c:List Al} {f i:Nat} {x:Al} (hx:c[i]?=some x) (hs:x.BR≠C'):Bd c (f+1) i=match RL c i with
  | some j=>(Bd c f j).map (i::·)
  | none=>none:=by
 rw [Bd,hx]; simp only [hs,if_false]
theorem nD {v:Value} {c:List Al} {i0:Nat} {W:CW} (ht:Ag W) (hc:AV 5 (Dc W) v c) (hlen:c.length<100000) (E0:i0<c.length):AX prog Br 97 [v,.int .i64 i0] W (fV c i0 W):=by
 refine AEi ?_; rw [AEh]; refine Hm (Oz _ W) ?_; have k0:Kp W (W.new (.cells (Tr.nil.Aa 0 [.int .i64 (i0:Int)]) [Value.int .i64 (i0:Int)].length #[] 3)):=.new _; have t0:=ht.new (.cells (Tr.nil.Aa 0 [.int .i64 (i0:Int)]) [Value.int .i64 (i0:Int)].length #[] 3); have o0:CD (W.new (.cells (Tr.nil.Aa 0 [.int .i64 (i0:Int)]) [Value.int .i64 (i0:Int)].length #[] 3)) 3 1 (.slice (some ⟨W.sz,0,none⟩) 1 1) (ints [i0]):=xh _ _ _; refine DK (fun k e ds W'=>ds=[]∧∃ (i:Nat) (pre:List Nat) (vo:Value),e 0=v∧e 1=.int .i64 i∧e 6=vo∧i<c.length∧CD W' 3 1 vo (ints (pre++[i]))∧BF W.sz vo∧Kp W W'∧Ag W'∧k+pre.length=c.length∧Bd c c.length i0=(Bd c k i).map (pre++·)) c.length ⟨rfl,i0,[],_,rfl,rfl,rfl,E0,o0,ZS (Nat.le_refl _),k0,t0,rfl,by cases Bd c c.length i0 <;> rfl⟩ ?_; rintro k e ds W' ⟨rfl,i,pre,vo,h0,h1,h6,hi,ho,OL,Yg,xj,hk,fW⟩; have Uy:AV 5 (Dc W') v c:=hc.imp fun _ _ _ hr=>hr.kp ht Yg; have wC:=Uy; obtain ⟨a,cap,rfl,Ah⟩:=wC; have hx:=List.getElem?_eq_getElem hi; obtain ⟨p,rfl,hp⟩:=Ah i _ hx; rw [ABO,h0,h1,h6,Ad R_ Ui hi]; simp only [AA,RH,AF a9 (a:=⟨p.block,p.off+i*5+1,none⟩) hp.BR,JW,G5]
 refine AD (fun hs=>?_) (fun hs=>?_)
 ·have hs:c[i].BR≠C':=by simpa [C'] using hs
  refine At (MP Uy (by omega)) ?_
  have fail:Bd c c.length i0=none→∀ e1:Env,e1 38=.bool true→(Sr none (FD (fun k e ds W'=>ds=[]∧∃ (i:Nat) (pre:List Nat) (vo:Value),e 0=.slice (some p) c.length cap∧e 1=.int .i64 i∧e 6=vo∧i<c.length∧CD W' 3 1 vo (ints (pre++[i]))∧BF W.sz vo∧Kp W W'∧Ag W'∧k+pre.length=c.length∧Bd c c.length i0=(Bd c k i).map (pre++·)) k (CL 0 (bZ none (AJ prog Tryz.f97 (fV c i0 W)))))) .normal e1 [] W':=by
   intro hn e1 zM; simp only [Sr,Ay]; rw [zM]; simp only [A3,Wy,G4,JI,tf,bZ,ZL,AI,Nat.reduceEqDiff,↓reduceIte]; refine ⟨Yg,xj,?_⟩; rw [hn]
  simp only [AS,AA]
  have LP:OI prog 40 vo W'=some (.int .i64 ((pre.length+1:Nat):Int)):=by
   rw [GB FJ ho]; simp [ints]
  refine AD (fun XI=>?_) (fun XI=>?_)
  ·refine fail ?_ _ (by simp only [AI,↓reduceIte]); have XI:La c c[i].BR<0:=of_decide_eq_true XI; rw [fW]
   cases k with
   | zero=>rw [PK hx hs]; rfl
   | succ k =>
    rw [IE hx hs]
    have:RL c i=none:=by
     unfold RL; rw [hx]; simp only; unfold La at XI
     cases hf:c.findIdx? (fun x=>decide (x.name=c[i].BR)) with
     | none=>rfl
     | some j=>rw [hf] at XI; simp at XI; omega
    rw [this]; rfl
  ·have XI:¬La c c[i].BR<0:=of_decide_eq_false XI; rw [LP,AU R_]; simp only [AA,Av]
   refine AD (fun P2=>?_) (fun P2=>?_)
   ·refine fail ?_ _ (by simp only [AI,↓reduceIte]); have P2:((pre.length+1:Nat):Int)>c.length:=of_decide_eq_true P2; have:k=0:=by omega
    subst this; rw [fW,PK hx hs]; rfl
   ·have P2:¬((pre.length+1:Nat):Int)>c.length:=of_decide_eq_false P2; obtain ⟨k,rfl⟩:∃ k',k=k'+1:=⟨k-1,by omega⟩
    obtain ⟨j,hf⟩:∃ j,c.findIdx? (fun x=>decide (x.name=c[i].BR))=some j:=by
     cases hf:c.findIdx? (fun x=>decide (x.name=c[i].BR)) with
     | none=>unfold La at XI; rw [hf] at XI; simp at XI
     | some j=>exact ⟨j,rfl⟩
    have hfi:La c c[i].BR=j:=by unfold La; rw [hf]
    have hj:j<c.length:=(List.findIdx?_eq_some_iff_getElem.1 hf).1; have RM:=List.getElem?_eq_getElem hj; obtain ⟨p',hZ,hpj⟩:=Ah j _ RM
    cases hZ
    rw [hfi,Ad R_ Ui hj]; simp only [AA,Ks,AF a5 (a:=⟨p.block,p.off+j*5+3,none⟩) hpj.elem,Au]
    have VG:RL c i=if c[j].elem=0 then some j else none:=by
     unfold RL; rw [hx]; simp only [hf,RM]
    by_cases he:c[j].elem=0
    ·have hb:(c[j].elem != 0)=false:=by simp [he]
     rw [hb]; simp only [Sr,Ay,AI,AQ,Nat.reduceEqDiff,↓reduceIte,Ab,Wy]; rw [h6]; refine Sv FJ s3 z3 rfl (by omega) tj (by omega) (Oz _) rfl rfl xj ho (by simp [ints]; omega) fun u v1 W1 H6 t1 o1 n1=>?_; simp only [St]
     refine ⟨k,by omega,trivial,j,pre++[i],v1,?_,?_,?_,hj,?_,n1 _ Yg.sz,H6.kp Yg OL,t1,by simp; omega,?_⟩
     ·simp only [AI,AQ,Nat.reduceEqDiff,↓reduceIte]; exact h0
     ·simp only [AI,AQ,Nat.reduceEqDiff,↓reduceIte]
     ·simp only [AI,↓reduceIte]
     ·have:ints (pre++[i]++[j])=ints (pre++[i])++[.int .i64 (j:Int)]:=by simp [ints]
      rw [this]; exact o1
     ·rw [fW,IE hx hs,VG,if_pos he]; simp only [Option.map_map]; congr 1; funext l; simp
    ·refine fail ?_ _ (by simp only [AI,↓reduceIte]; simp [he]); rw [fW,IE hx hs,VG,if_neg he]; rfl
 ·have hs:c[i].BR=C':=by simpa [C'] using hs
  simp only [UF,Gc,bZ,Ay,ZL,AI,AQ,Nat.reduceEqDiff,↓reduceIte,h6]; refine ⟨Yg,xj,?_⟩; rw [fW,Lf hx hs]; exact ⟨vo,rfl,ho,OL⟩
end Go.Ce
namespace Go.Ce
section
variable {α:Type} {W:CW} {b n:Nat} {enc:α→List Value}
theorem XJ (hn:∀ x,(enc x).length=n):∀ (l:List α) (o:Nat),(∀ i x,l[i]?=some x→Cells W b (o+i*n) (enc x))→Cells W b o (l.flatMap enc)
 | [],o,_=>fun j v h=>by cases h
 | x::l,o,h=>by
  intro j v hj; rw [List.flatMap_cons] at hj
  by_cases Ae:j<n
  ·have h0:=h 0 x rfl; rw [Nat.zero_mul,Nat.add_zero] at h0; rw [List.getElem?_append_left (by rw [hn]; exact Ae)] at hj; exact h0 j v hj
  ·rw [List.getElem?_append_right (by rw [hn]; omega),hn] at hj
   have:=XJ hn l (o+n) (fun i y hy=>by
    have:=h (i+1) y (by simpa using hy)
    rwa [show o+(i+1)*n=o+n+i*n by rw [Nat.succ_mul]; omega] at this) (j-n) v hj
   rwa [show o+n+(j-n)=o+j by omega] at this
theorem PL (hn:∀ x,(enc x).length=n):∀ (l:List α) (o:Nat),Cells W b o (l.flatMap enc)→∀ i x,l[i]?=some x→Cells W b (o+i*n) (enc x)
 | [],o,_=>fun i x h=>by cases h
 | y::l,o,h=>by
  intro i x hx; rw [List.flatMap_cons] at h
  cases i with
  | zero =>
   cases hx
   intro j v hj; rw [Nat.zero_mul,Nat.add_zero]; exact h j v (by rw [List.getElem?_append_left (List.getElem?_eq_some_iff.1 hj).1]; exact hj)
  | succ i =>
   have:=PL hn l (o+n) (fun j v hj=>by
    have:=h (n+j) v (by rw [List.getElem?_append_right (by rw [hn]; omega),hn,Nat.add_sub_cancel_left]; exact hj)
    rwa [show o+(n+j)=o+n+j by omega] at this) i x (by simpa using hx)
   rwa [show o+n+i*n=o+(i+1)*n by rw [Nat.succ_mul]; omega] at this
end
section
variable {P:Program}
theorem ABk {t u el:TypeId} {ts:List TypeId} {n bytes:Nat} {z:Value} (ut:P.underlying t=some (.slice el)) (hu:HT P u=true) (hs:D_ P el=some n) (hz:Hz P el=some z) (hY:z.cells.size=n) (hn:0<n) (pL:(P.info? el).map (·.bytes)=some bytes) (hb:bytes≤1024)
  {W:CW} (ht:Ag W) {v:Value} {cs news:List Value} {a:Option Addr} {m cap:Nat} (hv:CD W el n v cs) (Ye:0<m→∃ p,a=some p∧Cells W p.block p.off news) (h1:news.all Ba=true) (K2:news.length=m*n) (bz:cs.length+m≤1000000) {K:Value→CW→Prop}
  (hk:∀ v1 W1,K_ v W W1→Ag W1→CD W1 el n v1 (cs++news)→(∀ A,A≤W.sz→BF A v→BF A v1)→K v1 W1):Mw (app P (t::u::ts) v (.slice a m cap) W) K:=by
 rcases Nat.eq_zero_or_pos m with rfl | hm
 ·have LN:news=[]:=List.length_eq_zero_iff.1 (by rw [K2,Nat.zero_mul]); subst LN; have Yf:Nat.ble ((P.info? el).map (·.bytes) |>.getD 2000) 1024=true:=by rw [pL]; exact Nat.ble_eq_true_of_le hb
  have yw:HS (.slice a 0 cap) 0 n W=some []:=by
   show EO a (0*n) W=some []; rw [Nat.zero_mul]; unfold EO
   cases a <;> rfl
  have hc:app P (t::u::ts) v (.slice a 0 cap) W=some (v,W):=by
   unfold app; simp only [hu,cond_true]
   cases hv with
   | nil =>
    unfold GG; simp only [ut,aG,DJ,hs,hz,yw,List.all_nil,List.length_nil,Nat.zero_mul,Nat.beq_refl,hY,Yf,Bool.true_and,Bool.and_true]; rw [show Nat.blt 0 n=true from Nat.ble_eq_true_of_le hn]; rfl
   | @some b len cs hB hl =>
    have hlen:len≤cs.length:=by rw [hl]; exact Nat.le_mul_of_pos_right _ hn
    unfold GG; simp only [ut,aG,DJ,hs,hz,yw,List.all_nil,List.length_nil,Nat.zero_mul,Nat.beq_refl,hY,Yf,Bool.true_and,Bool.and_true,Nat.add_zero]; rw [show Nat.blt 0 n=true from Nat.ble_eq_true_of_le hn,show Nat.ble len 1000000=true from Nat.ble_eq_true_of_le (by omega),show Nat.ble len len=true from Nat.ble_eq_true_of_le (Nat.le_refl _)]; rfl
  refine Hm hc (hk v W ⟨Nat.le_refl _,fun _ _ _=>rfl⟩ ht (by rw [List.append_nil]; exact hv) (fun A _ h=>h))
 ·obtain ⟨p,rfl,LP⟩:=Ye hm
  refine nC (m:=m) ut hu hs hz hY hn pL hb ht hv rfl hm ?_ h1 K2 bz fun W1 len hg hl hB=>?_
  ·show EO (some p) (m*n) W=some news; rw [←K2]; exact N4 LP
  ·exact hk _ W1 ⟨by rw [hg.sz]; omega,hg.obj⟩ (hg.top ht) (.some hB hl) (fun A hA _=>ZS hA)
end
end Go.Ce
