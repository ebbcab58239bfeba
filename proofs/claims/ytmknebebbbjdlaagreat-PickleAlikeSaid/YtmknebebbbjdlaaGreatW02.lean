/- A part of the proof: Fd, Fe, Ga, Ha, Pa, ShV3, ShV, ShV2, Sh1, Sh0, Hb, Hc, Pb, Pc, Hd, He, Pd, Pe. -/
import Derived.Test.YtmknebebbbjdlaaGreatW01
import Derived.Test.YtmknebebbbjdlaaGreatProg
set_option linter.unusedSectionVars false
set_option linter.unusedVariables false
set_option linter.unusedSimpArgs false
set_option maxRecDepth 200000
namespace Go.Ce
def AE (a:AP) (e:Env) (ds:List Deferred):Prop:=(∀ t,a.at t=e t)∧a.defers=ds
theorem AE.eval {a:AP} {e:Env} {ds:List Deferred} (h:AE a e ds):a.eval=e.ev:=by
 funext x
 cases x with
 | tmp t=>rw [AP.ON]; exact h.1 t
 | _=>rfl
theorem AE.put {a:AP} {e:Env} {ds:List Deferred} (h:AE a e ds) (d:Option Tmp) (v:Value):AE (a.put d v) (e.put d v) ds:=by
 refine ⟨fun t=>?_,by rw [AP.put_defers]; exact h.2⟩
 cases d with
 | none=>exact h.1 t
 | some d =>
  rw [AP.dP]; simp only [Env.put,cond_eq_ite,Nat.beq_eq]
  split
  ·rfl
  ·exact h.1 t
theorem mw {v:Value} {X Y:Prop} (h:wI v X Y):∃ b,v=.bool b∧cond b X Y:=by
 unfold wI at h
 split at h
 ·exact ⟨true,rfl,h⟩
 ·exact ⟨false,rfl,h⟩
 ·obtain ⟨b,hb,h1,h2⟩:=h
  cases b with
  | true=>exact ⟨_,hb,h1 rfl⟩
  | false=>exact ⟨_,hb,h2 rfl⟩
theorem AN {b:Bool} {X Y:Prop} (h1:b=true→X) (h2:b=false→Y):wI (.bool b) X Y:=by
 cases b with
 | true=>exact h1 rfl
 | false=>exact h2 rfl
section
variable (P:Program) (L:List FuncId)
def ga:Value→Bool
 | .tuple _=>true
 | _=>false
def QB (sk:List Nat) (ops:Array Oper) (o:Oper) (e:Env) (K:Bool→Env→Prop):Prop:=match o.guard with
 | none=>K true e
 | some (j,want)=>match (ops[j]?).bind (·.dst) with
  | some d=>cond (B6 sk j) (cond (ga (e d)) (K false e) False) (wI (e d) (K (true == want) (fun t=>cond (Nat.beq t d) (.bool true) (e t))) (K (false == want) (fun t=>cond (Nat.beq t d) (.bool false) (e t))))
  | none=>False
def X4 (o:Oper):Bool:=match o.op with
 | .call c=>match c.callee with
  | .value _=>true
  | _=>false
 | _=>false
def di (ops:Array Oper):Nat→List Nat→List Oper→Env→List Deferred→CW→(Exit→Env→List Deferred→CW→Prop)→Prop
 | _,_,[],e,ds,W,K=>K .normal e ds W
 | i,sk,o::rest,e,ds,W,K=>QB sk ops o e fun b e=>cond b
   (wOp P L o e.ev W (fun v W=>di ops (i+1) sk rest (e.put o.dst v) ds W K) (fun W=>di ops (i+1) sk rest (e.put o.dst undef) ds W K) (fun d W=>di ops (i+1) sk rest (e.put o.dst undef) (d::ds) W K) (fun ch W=>K (.panic ch) e ds W))
   (di ops (i+1) (i::sk) rest (e.put o.dst undef) ds W K)
def T_ (ops:Array Oper) (ev:Operand→Value) (W:CW):Nat→Operand→Value
 | n+1,.tmp t=>match ops.toList.find? (fun o=>match o.dst with | some d=>Nat.beq d t | none=>false) with
  | some o=>cond (DM P o) ((BS P o (T_ ops ev W n) W).elim undef fun l=>l.head?.elim undef fun p=>match p.1 with | .value v=>v | _=>undef) undef
  | none=>ev (.tmp t)
 | _,x=>ev x
def QC (ops:Array Oper) (ev:Operand→Value) (W:CW) (o:Oper):Operand→Value :=
 match o.op with
 | .makeSlice _ _ _=>T_ P ops ev W 6
 | _=>ev
def Z_ (ops:Array Oper) (ev:Operand→Value):List Nat→CW→Option (List (Nat × Value × Option Au) × CW)
 | [],W=>some ([],W)
 | i::is,W=>match ops[i]? with
  | some o=>match BS P o (QC P ops ev W o) W with
   | some [(.value v,W1)]=>match Z_ ops ev is W1 with
    | some (l,W2)=>some ((i,v,W1.obj W.sz)::l,W2)
    | none=>none
   | _=>none
  | none=>none
def UA (o:Oper) (ev:Operand→Value) (v:Value) (ob:Option Au):Bool :=
 match o.op with
 | .makeSlice _ _ _=>match v with
  | .slice (some b) _ _=>(BS P o ev ⟨.nil,b.block⟩).any fun l=>l.head?.any fun p=>match p.1 with
   | .value u=>XV 8 u v && CN (p.2.obj b.block) ob
   | _=>false
  | _=>false
 | _=>true
def Sr (ops:Array Oper) (i:Nat) (an:List Nat) (ok:CW→Prop):List (Nat × CW)→CW→Prop
 | [],W=>ok W
 | (j,Wj)::before,W=>cond (uH ops j i) True (ok W)∧cond (B6 an j) True (Sr ops i an ok before Wj)
def Ni (ops:Array Oper) (ws:List (Nat × CW)) (W:CW):List (Nat × (CW→Prop))→Prop
 | []=>True
 | (i,ok)::rd=>Sr ops i (FV ops i) ok ws W∧Ni ops ws W rd
def H3 (v:Value) (ob:Option Au) (W:CW):Bool:=match v with
 | .pointer (some b)=>CN (W.obj b.block) ob
 | .map (some b)=>CN (W.obj b) ob
 | .slice (some b) _ _=>CN (W.obj b.block) ob
 | _=>false
def gb (ops:Array Oper) (ws:List (Nat × CW)) (W:CW):List (Nat × Value × Option Au)→Prop
 | []=>True
 | (i,v,ob)::fl=>Sr ops i (FV ops i) (fun W=>H3 v ob W=true) ws W∧gb ops ws W fl
def X5 (ops:Array Oper) (fl:List (Nat × Value × Option Au)):Nat→List Nat→List Oper→Env→CW→List (Nat × CW)→List (Nat × (CW→Prop))→(Env→CW→List (Nat × CW)→List (Nat × (CW→Prop))→Prop)→Prop
 | _,_,[],e,W,ws,rd,K=>K e W ws rd
 | i,sk,o::rest,e,W,ws,rd,K=>match fl.find? fun p=>Nat.beq p.1 i with
  | some (_,v,ob)=>UA P o e.ev v ob=true∧X5 ops fl (i+1) sk rest (e.put o.dst v) W ws rd K
  | none=>QB sk ops o e fun b e=>cond b
    (cond (DM P o) (wV (mr P o e.ev) fun v=>X5 ops fl (i+1) sk rest (e.put o.dst v) W ws rd K)
     (cond (Dw P o) (wV (gX P o e.ev W) fun v=>X5 ops fl (i+1) sk rest (e.put o.dst v) W ws ((i,fun W'=>gX P o e.ev W'=some v)::rd) K)
      (wOp P L o e.ev W (fun v W1=>X5 ops fl (i+1) sk rest (e.put o.dst v) W1 ((i,W)::ws) rd K) (fun W1=>X5 ops fl (i+1) sk rest (e.put o.dst undef) W1 ((i,W)::ws) rd K) (fun _ _=>False) (fun _ _=>False))))
    (X5 ops fl (i+1) (i::sk) rest (e.put o.dst undef) W ws rd K)
def my (ops:Array Oper) (e:Env) (W:CW) (K:Env→CW→Prop):Prop:=match Z_ P ops e.ev (Fw P ops) W with
 | some (fl,W1)=>X5 P L ops fl 0 [] ops.toList e W1 [] [] fun e W ws rd=>Ni ops ws W rd∧gb ops ws W fl∧K e W
 | none=>False
def Rd (ops:Array Oper) (i0:Nat):Nat→List Nat→List Oper→Env→CW→List (Nat × (CW→Prop))→(List (Nat × (CW→Prop))→Prop)→Prop
 | _,_,[],_,_,rd,K=>K rd
 | i,sk,o::rest,e,W,rd,K=>cond (LH ops i0 i) (Rd ops i0 (i+1) sk rest (e.put o.dst undef) W rd K)
   (QB sk ops o e fun b e=>cond b
    (cond (DM P o) (wV (mr P o e.ev) fun v=>Rd ops i0 (i+1) sk rest (e.put o.dst v) W rd K)
     (cond (Dw P o) (wV (gX P o e.ev W) fun v=>Rd ops i0 (i+1) sk rest (e.put o.dst v) W ((i,fun W'=>gX P o e.ev W'=some v)::rd) K) False))
    (Rd ops i0 (i+1) (i::sk) rest (e.put o.dst undef) W rd K))
def OV (ops:Array Oper) (fl:List (Nat × Value × Option Au)) (KP:List PanicEntry→CW→Prop):Nat→List Nat→List Oper→Env→CW→List (Nat × CW)→List (Nat × (CW→Prop))→(Env→CW→List (Nat × CW)→List (Nat × (CW→Prop))→Prop)→Prop
 | _,_,[],e,W,ws,rd,K=>K e W ws rd
 | i,sk,o::rest,e,W,ws,rd,K=>match fl.find? fun p=>Nat.beq p.1 i with
  | some (_,v,ob)=>UA P o e.ev v ob=true∧OV ops fl KP (i+1) sk rest (e.put o.dst v) W ws rd K
  | none=>QB sk ops o e fun b e=>cond b
    (cond (DM P o) (wV (mr P o e.ev) fun v=>OV ops fl KP (i+1) sk rest (e.put o.dst v) W ws rd K)
     (cond (Dw P o) (wV (gX P o e.ev W) fun v=>OV ops fl KP (i+1) sk rest (e.put o.dst v) W ws ((i,fun W'=>gX P o e.ev W'=some v)::rd) K)
      (wOp P L o e.ev W (fun v W1=>OV ops fl KP (i+1) sk rest (e.put o.dst v) W1 ((i,W)::ws) rd K) (fun W1=>OV ops fl KP (i+1) sk rest (e.put o.dst undef) W1 ((i,W)::ws) rd K) (fun _ _=>False)
       (fun ch W2=>cond (X4 o && fl.isEmpty && ws.all fun x=>B6 (FV ops i) x.1) (Rd P ops i (i+1) sk rest (e.put o.dst undef) W rd fun rd=>Ni ops ws W rd∧KP ch W2) False))))
    (OV ops fl KP (i+1) (i::sk) rest (e.put o.dst undef) W ws rd K)
def dj (ops:Array Oper) (e:Env) (W:CW) (K:Env→CW→Prop) (KP:List PanicEntry→CW→Prop):Prop:=match Z_ P ops e.ev (Fw P ops) W with
 | some (fl,W1)=>OV P L ops fl KP 0 [] ops.toList e W1 [] [] fun e W ws rd=>Ni ops ws W rd∧gb ops ws W fl∧K e W
 | none=>False
def Env.bad:Env:=fun t=>cond (Nat.beq t 0) (.complex .f64 0 0) undef
def Bj (ro:Option Nat) (fn:FuncId) (nt:Nat) (c:Code) (e:Env) (ds:List Deferred) (W:CW) (K:Exit→Env→List Deferred→CW→Prop):Prop :=
 ∀ a:AP,AE a e ds→a.nt=nt→mu P L ro fn c a W fun x a' W'=>∃ e',AE a' e' a'.defers∧a'.nt=nt∧K x e' a'.defers W'
abbrev AB:=Exit→Env→List Deferred→CW→Prop
def Ag (Y:Env→List Deferred→CW→Prop) (K:AB):AB:=fun x e ds W=>match x with
 | .normal=>Y e ds W
 | x=>K x e ds W
def Av (id:Nat) (K:AB):AB:=fun x e ds W=>match x with
 | .exit RG=>cond (Nat.beq RG id) (K .normal e ds W) (K (.exit RG) e ds W)
 | x=>K x e ds W
def AJ (ro:Option Nat) (fn:FuncId) (nt:Nat):Code→Env→List Deferred→CW→(Exit→Env→List Deferred→CW→Prop)→Prop
 | .skip,e,ds,W,K=>K .normal e ds W
 | .label _,e,ds,W,K=>K .normal e ds W
 | .exit id,e,ds,W,K=>K (.exit id) e ds W
 | .ret,e,ds,W,K=>K .ret e ds W
 | .region _ ops false,e,ds,W,K=>di P L ops 0 [] ops.toList e ds W K
 | .region _ ops true,e,ds,W,K=>cond (B6 L (fn+1500000)) (dj P L ops e W (fun e W=>K .normal e ds W) (fun ch W=>K (.panic ch) Env.bad ds W)) (my P L ops e W fun e W=>K .normal e ds W)
 | .seq x y,e,ds,W,K=>AJ ro fn nt x e ds W (Ag (fun e ds W=>AJ ro fn nt y e ds W K) K)
 | .cond c x y,e,ds,W,K=>wI (e.ev c) (AJ ro fn nt x e ds W K) (AJ ro fn nt y e ds W K)
 | .block id b,e,ds,W,K=>AJ ro fn nt b e ds W (Av id K)
 | .scope b,e,ds,W,K=>AJ ro fn nt b e ds W K
 | c,e,ds,W,K=>Bj P L ro fn nt c e ds W K
end
section
variable {P:Program} {L:List FuncId}
theorem X6 {n m:Nat} (h:n≤m) {f:FuncId} {args:List Value} {W:CW} {o:List (Ending × CW)} (hc:(DT P L n).call f args W=some o):(DT P L m).call f args W=some o:=(HG h).call hc
theorem UB {n m:Nat} (h:n≤m) {l:Nat} {args:List Value} {W:CW} {o:List (Ending × CW)} (hc:(DT P L n).round l args W=some o):(DT P L m).round l args W=some o:=(HG h).round hc
theorem GM {n m:Nat} (h:n≤m) {ro:Option Nat} {fn:FuncId} {c:Code} {a:AP} {W:CW} {o:List (Exit × AP × CW)} (hc:(DT P L n).code ro fn c a W=some o):(DT P L m).code ro fn c a W=some o:=(HG h).code hc
theorem DU {α β:Type} (x:α) (f:α→Option (List β)) {y:List β} (h:f x=some y):CM (some [x]) f=some y:=by
 simp [CM,Eo,h]
theorem MO {sk:List Nat} {ops:Array Oper} {o:Oper} {e:Env} {ds:List Deferred} {a:AP} (ha:AE a e ds) {K:Bool→Env→Prop} (h:QB sk ops o e K):∃ e',AE a e' ds∧K (D3 ops o a) e'∧Dm ops o a=some (D3 ops o a):=by
 unfold QB at h; unfold D3 Dm
 split at h
 ·rename_i hg; rw [hg]; exact ⟨e,ha,h,by first | rfl | trivial⟩
 ·rename_i j want hg; rw [hg]
  split at h
  ·rename_i d hd; obtain ⟨oj,Y_,Xo⟩:=Option.bind_eq_some_iff.1 hd
   cases hm:B6 sk j with
   | true =>
    rw [hm] at h; simp only [cond_true] at h
    cases hu:ga (e d) with
    | false=>rw [hu] at h; exact h.elim
    | true =>
     rw [hu] at h; simp only [cond_true] at h
     have hy:JK ops a j=none:=by
      unfold JK; rw [Y_]; simp only [Xo]; have h1:=ha.1 d; unfold AP.at at h1
      cases Li:a.t.get d with
      | none=>rfl
      | some u =>
       rw [Li] at h1; have h1:u=e d:=h1; subst h1
       cases H4:e d <;> rw [H4] at hu <;> first | rfl | cases hu
     simp only [hy]; exact ⟨e,ha,h,by first | rfl | trivial⟩
   | false =>
   rw [hm] at h; simp only [cond_false] at h; obtain ⟨b,hb,hK⟩:=mw h
   replace hK:K (b == want) (fun t=>cond (Nat.beq t d) (.bool b) (e t)):=by cases b <;> exact hK
   have hy:JK ops a j=some b:=by
    unfold JK; rw [Y_]; simp only [Xo]; have h1:=ha.1 d; rw [hb] at h1; unfold AP.at at h1
    cases Li:a.t.get d with
    | none=>rw [Li] at h1; cases h1
    | some u =>
     rw [Li] at h1; have h1:u=.bool b:=h1; subst h1; rfl
   simp only [hy]; refine ⟨_,⟨fun t=>?_,ha.2⟩,hK,by first | rfl | trivial⟩; simp only [cond_eq_ite,Nat.beq_eq]
   split
   ·rename_i ht; subst ht; rw [ha.1 t,hb]
   ·exact ha.1 t
  ·exact h.elim
theorem Fz {ops:Array Oper}:∀ {i:Nat} {sk:List Nat} {rest:List Oper} {a:AP} {e:Env} {ds:List Deferred} {W:CW} {K:Exit→Env→List Deferred→CW→Prop},di P L ops i sk rest e ds W K→AE a e ds →
  ∃ n o e',Ep P (DT P L n) ops rest a W=some [o]∧AE o.2.1 e' o.2.1.defers∧o.2.1.nt=a.nt∧K o.1 e' o.2.1.defers o.2.2
 | i,sk,[],a,e,ds,W,K,h,ha=>by
  refine ⟨0,(.normal,a,W),e,rfl,?_,rfl,?_⟩
  ·rw [ha.2]; exact ha
  ·rw [ha.2]; exact h
 | i,sk,o::rest,a,e,ds,W,K,h,ha=>by
  simp only [di] at h; obtain ⟨e1,De,h,_⟩:=MO ha h
  cases hw:D3 ops o a with
  | false =>
   rw [hw] at h; obtain ⟨n,x,e',h1,h2,h3,h4⟩:=Fz h (De.put _ _); exact ⟨n,x,e',by simp only [Ep,hw]; exact h1,h2,by rw [h3,AP.B4],h4⟩
  | true =>
   rw [hw] at h; simp only [cond_true] at h; obtain ⟨p,hp,Gf⟩:=QA h; obtain ⟨nx,W1⟩:=p; have Ir:BS P o a.eval W=some [(nx,W1)]:=by rw [De.eval]; exact hp
   have step:∀ {n:Nat} {x:Exit × AP × CW},(match nx with
     | .value v=>Ep P (DT P L n) ops rest (a.put o.dst v) W1
     | .skip=>Ep P (DT P L n) ops rest (a.put o.dst undef) W1
     | .defer d=>Ep P (DT P L n) ops rest ({ a with defers:=d::a.defers }.put o.dst undef) W1
     | .enter f args=>CM ((DT P L n).call f args W1) fun (e,W)=>match e with
      | .returned v=>Ep P (DT P L n) ops rest (a.put o.dst v) W
      | .panicked ch=>some [(.panic ch,a,W)]
      | .outgrown=>none
     | .round l args=>CM ((DT P L n).round l args W1) fun (e,W)=>match e with
      | .returned v=>Ep P (DT P L n) ops rest (a.put o.dst v) W
      | .panicked ch=>some [(.panic ch,a,W)]
      | .outgrown=>none
     | .recover=>none
     | .panic v=>some [(.panic [{ v,recovered:=false }],a,W1)])=some [x]→Ep P (DT P L n) ops (o::rest) a W=some [x]:=by
    intro n x hx; simp only [Ep,hw,Ir]; refine DU _ _ ?_
    cases nx <;> exact hx
   have up:∀ {n m:Nat} (hle:n≤m) {a:AP} {W:CW} {r:List (Exit × AP × CW)},Ep P (DT P L n) ops rest a W=some r→Ep P (DT P L m) ops rest a W=some r:=fun hle=>E0 (HG hle)
   cases nx with
   | value v =>
    obtain ⟨n,x,e',h1,h2,h3,h4⟩:=Fz (a:=a.put o.dst v) Gf (De.put _ _); exact ⟨n,x,e',step h1,h2,by rw [h3,AP.B4],h4⟩
   | skip =>
    obtain ⟨n,x,e',h1,h2,h3,h4⟩:=Fz (a:=a.put o.dst undef) Gf (De.put _ _); exact ⟨n,x,e',step h1,h2,by rw [h3,AP.B4],h4⟩
   | defer d =>
    obtain ⟨n,x,e',h1,h2,h3,h4⟩:=Fz (a:=({ a with defers:=d::a.defers }:AP).put o.dst undef) Gf (AE.put (a:={ a with defers:=d::a.defers }) ⟨De.1,by show d::a.defers=d::ds; rw [De.2]⟩ _ _); exact ⟨n,x,e',step h1,h2,by rw [h3,AP.B4],h4⟩
   | enter f args =>
    obtain ⟨n1,y,hy,hQ⟩:=Gf; obtain ⟨en,W2⟩:=y
    cases en with
    | returned v =>
     obtain ⟨n,x,e',h1,h2,h3,h4⟩:=Fz (a:=a.put o.dst v) hQ (De.put _ _); refine ⟨max n n1,x,e',step ?_,h2,by rw [h3,AP.B4],h4⟩; simp only [X6 (Nat.le_max_right n n1) hy]; exact DU _ _ (up (Nat.le_max_left _ _) h1)
    | panicked ch =>
     refine ⟨n1,(.panic ch,a,W2),e1,step ?_,by rw [De.2]; exact De,rfl,by rw [De.2]; exact hQ⟩; simp only [hy]; exact DU _ _ rfl
    | outgrown=>exact hQ.elim
   | round l args =>
    obtain ⟨n1,y,hy,hQ⟩:=Gf; obtain ⟨en,W2⟩:=y
    cases en with
    | returned v =>
     obtain ⟨n,x,e',h1,h2,h3,h4⟩:=Fz (a:=a.put o.dst v) hQ (De.put _ _); refine ⟨max n n1,x,e',step ?_,h2,by rw [h3,AP.B4],h4⟩; simp only [UB (Nat.le_max_right n n1) hy]; exact DU _ _ (up (Nat.le_max_left _ _) h1)
    | panicked ch =>
     refine ⟨n1,(.panic ch,a,W2),e1,step ?_,by rw [De.2]; exact De,rfl,by rw [De.2]; exact hQ⟩; simp only [hy]; exact DU _ _ rfl
    | outgrown=>exact hQ.elim
   | recover=>exact Gf.elim
   | panic v=>exact ⟨0,(.panic [{ v,recovered:=false }],a,W1),e1,step rfl,by rw [De.2]; exact De,rfl,by rw [De.2]; exact Gf⟩
theorem aA (ops:Array Oper) (a:AP) (W:CW):∀ (n:Nat) (x:Operand),early P ops a W n x=T_ P ops a.eval W n x
 | 0,x=>by cases x <;> rfl
 | n+1,x=>by
  cases x with
  | tmp t =>
   simp only [early,T_]; have:early P ops a W n=T_ P ops a.eval W n:=funext fun x=>aA ops a W n x; rw [this]; rfl
  | _=>rfl
theorem aB (ops:Array Oper) (a:AP) (W:CW) (o:Oper):TZ P ops a W o=QC P ops a.eval W o:=by
 unfold TZ QC
 cases o.op <;> first | rfl | (funext x; exact aA ops a W 6 x)
theorem Ln (ops:Array Oper) (a:AP):∀ (is:List Nat) (W:CW),HB P ops a is W=Z_ P ops a.eval is W
 | [],W=>rfl
 | i::is,W=>by
  simp only [HB,Z_,aB,Ln ops a is]; rfl
theorem UC (o:Oper) (a:AP) (v:Value) (ob:Option Au):OB P o a v ob=UA P o a.eval v ob:=rfl
theorem QD {ops:Array Oper} {i:Nat} {an:List Nat} {ok:CW→Bool} {okP:CW→Prop} (h:∀ W,okP W→ok W=true):∀ {ws:List (Nat × CW)} {W:CW},Sr ops i an okP ws W→C9 ops i an ok ws W=true
 | [],W,hw=>h W hw
 | (j,Wj)::before,W,hw=>by
  obtain ⟨h1,h2⟩:=hw; simp only [C9,Bool.and_eq_true,Bool.or_eq_true]
  refine ⟨?_,?_⟩
  ·cases ha:uH ops j i with
   | true=>exact .inl rfl
   | false=>rw [ha] at h1; exact .inr (h W h1)
  ·cases hm:B6 an j with
   | true=>rfl
   | false=>rw [hm] at h2; exact QD h h2
def OW (P:Program):List (Nat × (CW→Prop))→List (Nat × Oper × AP × Value)→Prop
 | [],[]=>True
 | (i,ok)::rd,(i',o,a,v)::rd'=>(i=i'∧∀ W,ok W→BS P o a.eval W=some [(.value v,W)])∧OW P rd rd'
 | _,_=>False
theorem KX (x:Ending × CW):merged (some [x])=some [x]:=rfl
theorem EM {ops:Array Oper} {fl:List (Nat × Value × Option Au)} {K:Env→CW→List (Nat × CW)→List (Nat × (CW→Prop))→Prop}:∀ {rest:List Oper} {i:Nat} {sk:List Nat} {e:Env} {W:CW} {ws:List (Nat × CW)} {rd:List (Nat × (CW→Prop))} {a:AP} {ds:List Deferred} {rd':List (Nat × Oper × AP × Value)},
  X5 P L ops fl i sk rest e W ws rd K→AE a e ds→OW P rd rd'→∃ n s e' IF,Dn P (DT P L n) ops fl i rest ⟨a,W,ws,rd'⟩=some s∧AE s.a e' ds∧s.a.nt=a.nt∧OW P IF s.rd∧K e' s.W s.ws IF
 | [],i,sk,e,W,ws,rd,a,ds,rd',h,ha,hr=>⟨0,_,e,rd,rfl,ha,rfl,hr,h⟩
 | o::rest,i,sk,e,W,ws,rd,a,ds,rd',h,ha,hr=>by
  have up:∀ {n m:Nat} (hle:n≤m) {i:Nat} {s s':EK},Dn P (DT P L n) ops fl i rest s=some s'→Dn P (DT P L m) ops fl i rest s=some s':=fun hle=>H0 (HG hle)
  have go:∀ {n:Nat} {s1 s:EK},BT P (DT P L n) ops fl i o ⟨a,W,ws,rd'⟩=some s1→Dn P (DT P L n) ops fl (i+1) rest s1=some s→Dn P (DT P L n) ops fl i (o::rest) ⟨a,W,ws,rd'⟩=some s:=by
   intro n s1 s h1 h2; simp only [Dn,h1]; exact h2
  simp only [X5] at h
  cases hf:fl.find? fun p=>Nat.beq p.1 i with
  | some y =>
   obtain ⟨i',v,ob⟩:=y; rw [hf] at h; obtain ⟨LQ,h⟩:=h; obtain ⟨n,s,e',IF,h1,h2,h3,h4,h5⟩:=EM h (ha.put o.dst v) hr; refine ⟨n,s,e',IF,go ?_ h1,h2,by rw [h3,AP.B4],h4,h5⟩; unfold BT; rw [hf]; simp only [UC,ha.eval,LQ,cond_true]
  | none =>
   rw [hf] at h; obtain ⟨e1,De,h,Gc⟩:=MO ha h
   have st:∀ {n:Nat},BT P (DT P L n) ops fl i o ⟨a,W,ws,rd'⟩=(match Dm ops o a with
     | none=>none
     | some false=>some { (⟨a,W,ws,rd'⟩:EK) with a:=a.put o.dst undef }
     | some true =>
      cond (DM P o) (match BS P o a.eval W with
       | some [(.value v,_)]=>some { (⟨a,W,ws,rd'⟩:EK) with a:=a.put o.dst v }
       | _=>none)
      (cond (Dw P o) (match BS P o a.eval W with
       | some [(.value v,_)]=>some { (⟨a,W,ws,rd'⟩:EK) with a:=a.put o.dst v,rd:=(i,o,a,v)::rd' }
       | _=>none)
      (match BS P o a.eval W with
      | some [(.value v,W1)]=>some { (⟨a,W,ws,rd'⟩:EK) with a:=a.put o.dst v,W:=W1,ws:=(i,W)::ws }
      | some [(.skip,W1)]=>some { (⟨a,W,ws,rd'⟩:EK) with a:=a.put o.dst undef,W:=W1,ws:=(i,W)::ws }
      | some [(.enter f args,W1)]=>match merged ((DT P L n).call f args W1) with
       | some [(.returned v,W2)]=>some { (⟨a,W,ws,rd'⟩:EK) with a:=a.put o.dst v,W:=W2,ws:=(i,W)::ws }
       | _=>none
      | some [(.round l args,W1)]=>match merged ((DT P L n).round l args W1) with
       | some [(.returned v,W2)]=>some { (⟨a,W,ws,rd'⟩:EK) with a:=a.put o.dst v,W:=W2,ws:=(i,W)::ws }
       | _=>none
      | _=>none))):=by
    intro n; unfold BT; rw [hf]; rfl
   cases hw:D3 ops o a with
   | false =>
    rw [hw] at h Gc; simp only [cond_false] at h; obtain ⟨n,s,e',IF,h1,h2,h3,h4,h5⟩:=EM h (De.put o.dst undef) hr; exact ⟨n,s,e',IF,go (by rw [st,Gc]) h1,h2,by rw [h3,AP.B4],h4,h5⟩
   | true =>
    rw [hw] at h Gc; simp only [cond_true] at h; have jI:=De.eval
    cases hp:DM P o with
    | true =>
     rw [hp] at h; simp only [cond_true] at h
     cases hx:mr P o e1.ev with
     | none=>rw [hx] at h; exact h.elim
     | some v =>
      rw [hx] at h; obtain ⟨n,s,e',IF,h1,h2,h3,h4,h5⟩:=EM h (De.put o.dst v) hr; refine ⟨n,s,e',IF,go ?_ h1,h2,by rw [h3,AP.B4],h4,h5⟩; rw [st,Gc]; simp only [hp,cond_true,X3 hp,jI,hx,vL]
    | false =>
     rw [hp] at h; simp only [cond_false] at h
     cases Lk:Dw P o with
     | true =>
      rw [Lk] at h; simp only [cond_true] at h
      cases hx:gX P o e1.ev W with
      | none=>rw [hx] at h; exact h.elim
      | some v =>
       rw [hx] at h; obtain ⟨n,s,e',IF,h1,h2,h3,h4,h5⟩:=EM (rd':=(i,o,a,v)::rd') h (De.put o.dst v) ⟨⟨rfl,fun W' pX=>by rw [Nh Lk,jI,pX]; rfl⟩,hr⟩; refine ⟨n,s,e',IF,go ?_ h1,h2,by rw [h3,AP.B4],h4,h5⟩; rw [st,Gc]; simp only [hp,Lk,cond_true,cond_false,Nh Lk,jI,hx,vL]
     | false =>
      rw [Lk] at h; simp only [cond_false] at h; obtain ⟨p,Ir,Gf⟩:=QA h; obtain ⟨nx,W1⟩:=p; rw [←jI] at Ir
      cases nx with
      | value v =>
       obtain ⟨n,s,e',IF,h1,h2,h3,h4,h5⟩:=EM (a:=a.put o.dst v) Gf (De.put o.dst v) hr; refine ⟨n,s,e',IF,go ?_ h1,h2,by rw [h3,AP.B4],h4,h5⟩; rw [st,Gc]; simp only [hp,Lk,cond_false,Ir]
      | skip =>
       obtain ⟨n,s,e',IF,h1,h2,h3,h4,h5⟩:=EM (a:=a.put o.dst undef) Gf (De.put o.dst undef) hr; refine ⟨n,s,e',IF,go ?_ h1,h2,by rw [h3,AP.B4],h4,h5⟩; rw [st,Gc]; simp only [hp,Lk,cond_false,Ir]
      | enter f args =>
       obtain ⟨n1,y,hy,hQ⟩:=Gf; obtain ⟨en,W2⟩:=y
       cases en with
       | returned v =>
        obtain ⟨n,s,e',IF,h1,h2,h3,h4,h5⟩:=EM (a:=a.put o.dst v) hQ (De.put o.dst v) hr; refine ⟨max n n1,s,e',IF,go ?_ (up (Nat.le_max_left _ _) h1),h2,by rw [h3,AP.B4],h4,h5⟩; rw [st,Gc]; simp only [hp,Lk,cond_false,Ir,X6 (Nat.le_max_right n n1) hy,KX]
       | panicked ch=>exact hQ.elim
       | outgrown=>exact hQ.elim
      | round l args =>
       obtain ⟨n1,y,hy,hQ⟩:=Gf; obtain ⟨en,W2⟩:=y
       cases en with
       | returned v =>
        obtain ⟨n,s,e',IF,h1,h2,h3,h4,h5⟩:=EM (a:=a.put o.dst v) hQ (De.put o.dst v) hr; refine ⟨max n n1,s,e',IF,go ?_ (up (Nat.le_max_left _ _) h1),h2,by rw [h3,AP.B4],h4,h5⟩; rw [st,Gc]; simp only [hp,Lk,cond_false,Ir,UB (Nat.le_max_right n n1) hy,KX]
       | panicked ch=>exact hQ.elim
       | outgrown=>exact hQ.elim
      | defer d=>exact Gf.elim
      | recover=>exact Gf.elim
      | panic v=>exact Gf.elim
theorem mz {n:Nat} (v:Value):(DT P L n).eqv v v=true:=by
 have:(DT P L n).eqv=fun u v=>@decide (u=v) (Classical.propDecidable _):=by
  unfold DT
  induction n with
  | zero=>rfl
  | succ n ih=>exact ih
 rw [this]; exact @decide_eq_true _ (Classical.propDecidable _) rfl
theorem MP {n:Nat} {ops:Array Oper} {ws:List (Nat × CW)} {W:CW}:∀ {rd:List (Nat × (CW→Prop))} {rd':List (Nat × Oper × AP × Value)},Ni ops ws W rd→OW P rd rd' →
  (rd'.all fun (i,o,a,v)=>C9 ops i (FV ops i) (fun W=>match BS P o a.eval W with | some [(.value u,_)]=>(DT P L n).eqv u v | _=>false) ws W)=true
 | [],[],_,_=>rfl
 | (i,ok)::rd,(i',o,a,v)::rd',h,hr=>by
  obtain ⟨⟨rfl,h1⟩,hr⟩:=hr; simp only [List.all_cons,Bool.and_eq_true]; refine ⟨QD (fun W hW=>?_) h.1,MP h.2 hr⟩; rw [h1 W hW]; exact mz v
 | [],_::_,_,h=>h.elim
 | _::_,[],_,h=>h.elim
theorem UD {ops:Array Oper} {ws:List (Nat × CW)} {W:CW}:∀ {fl:List (Nat × Value × Option Au)},gb ops ws W fl→(fl.all fun (i,v,ob)=>C9 ops i (FV ops i) (fun W=>match v with | .pointer (some b)=>CN (W.obj b.block) ob | .map (some b)=>CN (W.obj b) ob | .slice (some b) _ _=>CN (W.obj b.block) ob | _=>false) ws W)=true
 | [],_=>rfl
 | (i,v,ob)::fl,h=>by
  simp only [List.all_cons,Bool.and_eq_true]; exact ⟨QD (fun W hW=>hW) h.1,UD h.2⟩
theorem aC {ops:Array Oper} {a:AP} {e:Env} {ds:List Deferred} {W:CW} {K:Env→CW→Prop} (h:my P L ops e W K) (ha:AE a e ds) :
  ∃ n a' W' e',HY P (DT P L n) ops a W=some [(.normal,a',W')]∧AE a' e' ds∧a'.nt=a.nt∧K e' W':=by
 unfold my at h; rw [←ha.eval,←Ln] at h
 split at h
 ·rename_i fl W1 Bg; obtain ⟨n,s,e',IF,h1,h2,h3,h4,h5,h6,h7⟩:=EM (ds:=ds) (rd':=[]) h ha trivial; refine ⟨n,s.a,s.W,e',?_,h2,h3,h7⟩; unfold HY; rw [Bg]; simp only [h1]; have e1:=MP (L:=L) (n:=n) h5 h4; have e2:=UD h6
  show cond (s.rd.all fun (i,o,a,v)=>C9 ops i (FV ops i) (fun W=>match BS P o a.eval W with | some [(.value u,_)]=>(DT P L n).eqv u v | _=>false) s.ws s.W)
   (cond (fl.all fun (i,v,ob)=>C9 ops i (FV ops i) (fun W=>match v with | .pointer (some b)=>CN (W.obj b.block) ob | .map (some b)=>CN (W.obj b) ob | .slice (some b) _ _=>CN (W.obj b.block) ob | _=>false) s.ws s.W)
    (some [(Exit.normal,s.a,s.W)]) none) none=_
  rw [e1,e2]; rfl
 ·exact h.elim
theorem I9 {ops:Array Oper} {fl:List (Nat × Value × Option Au)} {i:Nat} {o:Oper} {a:AP} {W:CW} {ws:List (Nat × CW)} {rd':List (Nat × Oper × AP × Value)} {R:CL} (hf:(fl.find? fun p=>Nat.beq p.1 i)=none) (Gc:Dm ops o a=some true):BT P R ops fl i o ⟨a,W,ws,rd'⟩=(
      cond (DM P o) (match BS P o a.eval W with
       | some [(.value v,_)]=>some { (⟨a,W,ws,rd'⟩:EK) with a:=a.put o.dst v }
       | _=>none)
      (cond (Dw P o) (match BS P o a.eval W with
       | some [(.value v,_)]=>some { (⟨a,W,ws,rd'⟩:EK) with a:=a.put o.dst v,rd:=(i,o,a,v)::rd' }
       | _=>none)
      (match BS P o a.eval W with
      | some [(.value v,W1)]=>some { (⟨a,W,ws,rd'⟩:EK) with a:=a.put o.dst v,W:=W1,ws:=(i,W)::ws }
      | some [(.skip,W1)]=>some { (⟨a,W,ws,rd'⟩:EK) with a:=a.put o.dst undef,W:=W1,ws:=(i,W)::ws }
      | some [(.enter f args,W1)]=>match merged (R.call f args W1) with
       | some [(.returned v,W2)]=>some { (⟨a,W,ws,rd'⟩:EK) with a:=a.put o.dst v,W:=W2,ws:=(i,W)::ws }
       | _=>none
      | some [(.round l args,W1)]=>match merged (R.round l args W1) with
       | some [(.returned v,W2)]=>some { (⟨a,W,ws,rd'⟩:EK) with a:=a.put o.dst v,W:=W2,ws:=(i,W)::ws }
       | _=>none
      | _=>none))):=by
 unfold BT; rw [hf]; simp only [Gc]; rfl
theorem HH {ops:Array Oper} {i0:Nat} {R:CL} {K:List (Nat × (CW→Prop))→Prop}:∀ {rest:List Oper} {i:Nat} {sk:List Nat} {e:Env} {W:CW} {ws:List (Nat × CW)} {rd:List (Nat × (CW→Prop))} {a:AP} {ds:List Deferred} {rd':List (Nat × Oper × AP × Value)},
  Rd P ops i0 i sk rest e W rd K→AE a e ds→OW P rd rd'→∃ s IF,CX (Gi P R ops [] i0) i rest ⟨a,W,ws,rd'⟩=some s∧s.W=W∧s.ws=ws∧OW P IF s.rd∧K IF
 | [],i,sk,e,W,ws,rd,a,ds,rd',h,ha,hr=>⟨_,rd,rfl,rfl,rfl,hr,h⟩
 | o::rest,i,sk,e,W,ws,rd,a,ds,rd',h,ha,hr=>by
  simp only [Rd] at h
  have go:∀ {s1 s:EK},Gi P R ops [] i0 i o ⟨a,W,ws,rd'⟩=some s1→CX (Gi P R ops [] i0) (i+1) rest s1=some s→CX (Gi P R ops [] i0) i (o::rest) ⟨a,W,ws,rd'⟩=some s:=by
   intro s1 s h1 h2; simp only [CX,h1]; exact h2
  cases hn:LH ops i0 i with
  | true =>
   rw [hn] at h; obtain ⟨s,IF,h1,h2,h3,h4,h5⟩:=HH (ws:=ws) (rd':=rd') h (ha.put o.dst undef) hr; exact ⟨s,IF,go (by unfold Gi; rw [hn]; rfl) h1,h2,h3,h4,h5⟩
  | false =>
   rw [hn] at h; simp only [cond_false] at h; have hN:Gi P R ops [] i0 i o ⟨a,W,ws,rd'⟩=BT P R ops [] i o ⟨a,W,ws,rd'⟩:=by unfold Gi; rw [hn]; rfl
   obtain ⟨e1,De,h,Gc⟩:=MO ha h
   cases hw:D3 ops o a with
   | false =>
    rw [hw] at h Gc; simp only [cond_false] at h; obtain ⟨s,IF,h1,h2,h3,h4,h5⟩:=HH (ws:=ws) (rd':=rd') h (De.put o.dst undef) hr; refine ⟨s,IF,go ?_ h1,h2,h3,h4,h5⟩; rw [hN]; unfold BT; simp only [List.find?_nil,Gc]
   | true =>
    rw [hw] at h Gc; simp only [cond_true] at h; have jI:=De.eval
    cases hp:DM P o with
    | true =>
     rw [hp] at h; simp only [cond_true] at h
     cases hx:mr P o e1.ev with
     | none=>rw [hx] at h; exact h.elim
     | some v =>
      rw [hx] at h; obtain ⟨s,IF,h1,h2,h3,h4,h5⟩:=HH (ws:=ws) (rd':=rd') h (De.put o.dst v) hr; refine ⟨s,IF,go ?_ h1,h2,h3,h4,h5⟩; rw [hN,I9 rfl Gc]; simp only [hp,cond_true,X3 hp,jI,hx,vL]
    | false =>
     rw [hp] at h; simp only [cond_false] at h
     cases Lk:Dw P o with
     | true =>
      rw [Lk] at h; simp only [cond_true] at h
      cases hx:gX P o e1.ev W with
      | none=>rw [hx] at h; exact h.elim
      | some v =>
       rw [hx] at h; obtain ⟨s,IF,h1,h2,h3,h4,h5⟩:=HH (ws:=ws) (rd':=(i,o,a,v)::rd') h (De.put o.dst v) ⟨⟨rfl,fun W' pX=>by rw [Nh Lk,jI,pX]; rfl⟩,hr⟩; refine ⟨s,IF,go ?_ h1,h2,h3,h4,h5⟩; rw [hN,I9 rfl Gc]; simp only [hp,Lk,cond_true,cond_false,Nh Lk,jI,hx,vL]
     | false=>rw [Lk] at h; exact h.elim
def ZB (P:Program) (L:List FuncId) (ops:Array Oper) (fl:List (Nat × Value × Option Au)) (KP:List PanicEntry→CW→Prop) (K:Env→CW→List (Nat × CW)→List (Nat × (CW→Prop))→Prop) (ds:List Deferred) (nt n i:Nat) (rest:List Oper) (s0:EK):Prop :=
 (∃ s e' IF,Dn P (DT P L n) ops fl i rest s0=some s∧AE s.a e' ds∧s.a.nt=nt∧OW P IF s.rd∧K e' s.W s.ws IF) ∨
 ∃ i0 ch W2 s IF,i≤i0∧Dp P (DT P L n) ops fl i rest s0=some (i0,ch,W2)∧CX (Gi P (DT P L n) ops fl i0) i rest s0=some s∧(fl.isEmpty && s.ws.all fun x=>B6 (FV ops i0) x.1)=true∧OW P IF s.rd∧Ni ops s.ws s.W IF∧KP ch W2
theorem ZB.cons {ops:Array Oper} {fl:List (Nat × Value × Option Au)} {KP:List PanicEntry→CW→Prop} {K:Env→CW→List (Nat × CW)→List (Nat × (CW→Prop))→Prop} {ds:List Deferred} {nt n i:Nat} {o:Oper} {rest:List Oper} {s0 s1:EK} (hs:BT P (DT P L n) ops fl i o s0=some s1)
  (h:ZB P L ops fl KP K ds nt n (i+1) rest s1):ZB P L ops fl KP K ds nt n i (o::rest) s0:=by
 rcases h with ⟨s,e',IF,h1,h2⟩ | ⟨i0,ch,W2,s,IF,h0,h1,h2,h3⟩
 ·exact .inl ⟨s,e',IF,by simp only [Dn,hs]; exact h1,h2⟩
 ·refine .inr ⟨i0,ch,W2,s,IF,by omega,?_,?_,h3⟩
  ·simp only [Dp]
   cases hp:D4 P (DT P L n) ops fl i o s0 with
   | some y=>have:=KT hp; rw [hs] at this; cases this
   | none=>simp only [hs]; exact h1
  ·simp only [CX,Gi,gD (show i<i0 by omega),cond_false,hs]; exact h2
theorem ZB.up {ops:Array Oper} {fl:List (Nat × Value × Option Au)} {KP:List PanicEntry→CW→Prop} {K:Env→CW→List (Nat × CW)→List (Nat × (CW→Prop))→Prop} {ds:List Deferred} {nt n m i:Nat} {rest:List Oper} {s0:EK} (hle:n≤m) (h:ZB P L ops fl KP K ds nt n i rest s0):ZB P L ops fl KP K ds nt m i rest s0:=by
 rcases h with ⟨s,e',IF,h1,h2⟩ | ⟨i0,ch,W2,s,IF,h0,h1,h2,h3⟩
 ·exact .inl ⟨s,e',IF,H0 (HG hle) h1,h2⟩
 ·exact .inr ⟨i0,ch,W2,s,IF,h0,JN (HG hle) h1,JP (T9 (HG hle)) h2,h3⟩
theorem Dr {ops:Array Oper} {fl:List (Nat × Value × Option Au)} {KP:List PanicEntry→CW→Prop} {K:Env→CW→List (Nat × CW)→List (Nat × (CW→Prop))→Prop}:∀ {rest:List Oper} {i:Nat} {sk:List Nat} {e:Env} {W:CW} {ws:List (Nat × CW)} {rd:List (Nat × (CW→Prop))} {a:AP} {ds:List Deferred} {rd':List (Nat × Oper × AP × Value)},
  OV P L ops fl KP i sk rest e W ws rd K→AE a e ds→OW P rd rd'→∃ n,ZB P L ops fl KP K ds a.nt n i rest ⟨a,W,ws,rd'⟩
 | [],i,sk,e,W,ws,rd,a,ds,rd',h,ha,hr=>⟨0,.inl ⟨_,e,rd,rfl,ha,rfl,hr,h⟩⟩
 | o::rest,i,sk,e,W,ws,rd,a,ds,rd',h,ha,hr=>by
  have nt:∀ {n:Nat} {d:Option Tmp} {v:Value} {s1:EK},ZB P L ops fl KP K ds (a.put d v).nt n (i+1) rest s1→ZB P L ops fl KP K ds a.nt n (i+1) rest s1:=by
   intro n d v s1 hh
   rwa [AP.B4] at hh
  simp only [OV] at h
  cases hf:fl.find? fun p=>Nat.beq p.1 i with
  | some y =>
   obtain ⟨i',v,ob⟩:=y; rw [hf] at h; obtain ⟨LQ,h⟩:=h; obtain ⟨n,hn⟩:=Dr (rd':=rd') h (ha.put o.dst v) hr; refine ⟨n,ZB.cons (s1:={ (⟨a,W,ws,rd'⟩:EK) with a:=a.put o.dst v }) ?_ (nt hn)⟩; unfold BT; rw [hf]; simp only [UC,ha.eval,LQ,cond_true]
  | none =>
   rw [hf] at h; obtain ⟨e1,De,h,Gc⟩:=MO ha h
   cases hw:D3 ops o a with
   | false =>
    rw [hw] at h Gc; simp only [cond_false] at h; obtain ⟨n,hn⟩:=Dr (rd':=rd') h (De.put o.dst undef) hr; refine ⟨n,ZB.cons (s1:={ (⟨a,W,ws,rd'⟩:EK) with a:=a.put o.dst undef }) ?_ (nt hn)⟩; unfold BT; rw [hf]; simp only [Gc]
   | true =>
    rw [hw] at h Gc; simp only [cond_true] at h; have jI:=De.eval
    cases hp:DM P o with
    | true =>
     rw [hp] at h; simp only [cond_true] at h
     cases hx:mr P o e1.ev with
     | none=>rw [hx] at h; exact h.elim
     | some v =>
      rw [hx] at h; obtain ⟨n,hn⟩:=Dr (rd':=rd') h (De.put o.dst v) hr; refine ⟨n,ZB.cons (s1:={ (⟨a,W,ws,rd'⟩:EK) with a:=a.put o.dst v }) ?_ (nt hn)⟩; rw [I9 hf Gc]; simp only [hp,cond_true,X3 hp,jI,hx,vL]
    | false =>
     rw [hp] at h; simp only [cond_false] at h
     cases Lk:Dw P o with
     | true =>
      rw [Lk] at h; simp only [cond_true] at h
      cases hx:gX P o e1.ev W with
      | none=>rw [hx] at h; exact h.elim
      | some v =>
       rw [hx] at h; obtain ⟨n,hn⟩:=Dr (rd':=(i,o,a,v)::rd') h (De.put o.dst v) ⟨⟨rfl,fun W' pX=>by rw [Nh Lk,jI,pX]; rfl⟩,hr⟩; refine ⟨n,ZB.cons (s1:={ (⟨a,W,ws,rd'⟩:EK) with a:=a.put o.dst v,rd:=(i,o,a,v)::rd' }) ?_ (nt hn)⟩; rw [I9 hf Gc]; simp only [hp,Lk,cond_true,cond_false,Nh Lk,jI,hx,vL]
     | false =>
      rw [Lk] at h; simp only [cond_false] at h; obtain ⟨p,Ir,Gf⟩:=QA h; obtain ⟨nx,W1⟩:=p; rw [←jI] at Ir
      have pan:∀ {ch:List PanicEntry} {W2:CW} {n1:Nat},D4 P (DT P L n1) ops fl i o ⟨a,W,ws,rd'⟩=some (ch,W2)→cond (X4 o && fl.isEmpty && ws.all fun x=>B6 (FV ops i) x.1) (Rd P ops i (i+1) sk rest (e1.put o.dst undef) W rd fun rd=>Ni ops ws W rd∧KP ch W2) False→∃ n,ZB P L ops fl KP K ds a.nt n i (o::rest) ⟨a,W,ws,rd'⟩:=by
       intro ch W2 n1 um hc; rw [cond_eq_ite] at hc; split at hc
       rotate_left
       ·exact hc.elim
       rename_i LQ; simp only [Bool.and_eq_true] at LQ; have Mw:fl=[]:=by simpa using LQ.1.2
       subst Mw; obtain ⟨s,IF,h1,h2,h3,h4,h5,h6⟩:=HH (R:=DT P L n1) (ws:=ws) (rd':=rd') hc (De.put o.dst undef) hr
       refine ⟨n1,.inr ⟨i,ch,W2,s,IF,Nat.le_refl _,by simp only [Dp,um],?_,?_,h4,by rw [h2,h3]; exact h5,h6⟩⟩
       ·have AAm:LH ops i i=true:=by unfold LH; simp
        simp only [CX,Gi,AAm,cond_true]; exact h1
       ·rw [h3]; simp only [LQ.2,Bool.and_true]; rfl
      cases nx with
      | value v =>
       obtain ⟨n,hn⟩:=Dr (rd':=rd') (a:=a.put o.dst v) Gf (De.put o.dst v) hr; refine ⟨n,ZB.cons (s1:={ (⟨a,W,ws,rd'⟩:EK) with a:=a.put o.dst v,W:=W1,ws:=(i,W)::ws }) ?_ (nt hn)⟩; rw [I9 hf Gc]; simp only [hp,Lk,cond_false,Ir]
      | skip =>
       obtain ⟨n,hn⟩:=Dr (rd':=rd') (a:=a.put o.dst undef) Gf (De.put o.dst undef) hr; refine ⟨n,ZB.cons (s1:={ (⟨a,W,ws,rd'⟩:EK) with a:=a.put o.dst undef,W:=W1,ws:=(i,W)::ws }) ?_ (nt hn)⟩; rw [I9 hf Gc]; simp only [hp,Lk,cond_false,Ir]
      | enter f args =>
       obtain ⟨n1,y,hy,hQ⟩:=Gf; obtain ⟨en,W2⟩:=y
       cases en with
       | returned v =>
        obtain ⟨n,hn⟩:=Dr (rd':=rd') (a:=a.put o.dst v) hQ (De.put o.dst v) hr; refine ⟨max n n1,ZB.cons (s1:={ (⟨a,W,ws,rd'⟩:EK) with a:=a.put o.dst v,W:=W2,ws:=(i,W)::ws }) ?_ ((nt hn).up (Nat.le_max_left _ _))⟩; rw [I9 hf Gc]; simp only [hp,Lk,cond_false,Ir,X6 (Nat.le_max_right n n1) hy,KX]
       | panicked ch =>
        refine pan (n1:=n1) ?_ hQ; unfold D4; rw [hf]; simp only [Gc,hp,Lk,cond_false,Ir,hy]
       | outgrown=>exact hQ.elim
      | round l args =>
       obtain ⟨n1,y,hy,hQ⟩:=Gf; obtain ⟨en,W2⟩:=y
       cases en with
       | returned v =>
        obtain ⟨n,hn⟩:=Dr (rd':=rd') (a:=a.put o.dst v) hQ (De.put o.dst v) hr; refine ⟨max n n1,ZB.cons (s1:={ (⟨a,W,ws,rd'⟩:EK) with a:=a.put o.dst v,W:=W2,ws:=(i,W)::ws }) ?_ ((nt hn).up (Nat.le_max_left _ _))⟩; rw [I9 hf Gc]; simp only [hp,Lk,cond_false,Ir,UB (Nat.le_max_right n n1) hy,KX]
       | panicked ch =>
        refine pan (n1:=n1) ?_ hQ; unfold D4; rw [hf]; simp only [Gc,hp,Lk,cond_false,Ir,hy]
       | outgrown=>exact hQ.elim
      | defer d=>exact Gf.elim
      | recover=>exact Gf.elim
      | panic v =>
       exfalso
       have Iz:X4 o=false:=by
        unfold X4
        split
        ·rename_i c hc
         split
         ·rename_i f hcf
          exfalso
          simp only [BS,hc,hcf] at Ir
          split at Ir
          ·split at Ir
           ·cases Ir
           ·cases Ir
          ·rename_i Ei
           cases Ir
           unfold Ht at Ei; split at Ei <;> cases Ei
          ·cases Ir
         ·rfl
        ·rfl
       rw [Iz] at Gf; exact Gf
theorem X7 {ops:Array Oper} {a:AP} {e:Env} {ds:List Deferred} {W:CW} {K:Env→CW→Prop} {KP:List PanicEntry→CW→Prop} (h:dj P L ops e W K KP) (ha:AE a e ds) :
  ∃ n,(∃ a' W' e',HY P (DT P L n) ops a W=some [(.normal,a',W')]∧AE a' e' ds∧a'.nt=a.nt∧K e' W')∨∃ ch W',HY P (DT P L n) ops a W=some [(.panic ch,a.bad,W')]∧KP ch W':=by
 unfold dj at h; rw [←ha.eval,←Ln] at h
 split at h
 ·rename_i fl W1 Bg; obtain ⟨n,hn⟩:=Dr (ds:=ds) (rd':=[]) h ha trivial; refine ⟨n,?_⟩
  rcases hn with ⟨s,e',IF,h1,h2,h3,h4,h5,h6,h7⟩ | ⟨i0,ch,W2,s,IF,h0,h1,h2,h3,h4,h5,h6⟩
  ·refine .inl ⟨s.a,s.W,e',?_,h2,h3,h7⟩; unfold HY; rw [Bg]; simp only [h1]; have e1:=MP (L:=L) (n:=n) h5 h4; have e2:=UD h6
   show cond (s.rd.all fun (i,o,a,v)=>C9 ops i (FV ops i) (fun W=>match BS P o a.eval W with | some [(.value u,_)]=>(DT P L n).eqv u v | _=>false) s.ws s.W)
    (cond (fl.all fun (i,v,ob)=>C9 ops i (FV ops i) (fun W=>match v with | .pointer (some b)=>CN (W.obj b.block) ob | .map (some b)=>CN (W.obj b) ob | .slice (some b) _ _=>CN (W.obj b.block) ob | _=>false) s.ws s.W)
     (some [(Exit.normal,s.a,s.W)]) none) none=_
   rw [e1,e2]; rfl
  ·refine .inr ⟨ch,W2,?_,h6⟩; unfold HY; rw [Bg]; simp only [JO h1,h1,h2,h3,cond_true]; have e1:=MP (L:=L) (n:=n) h5 h4; show cond (s.rd.all fun (i,o,a,v)=>C9 ops i (FV ops i) (fun W=>match BS P o a.eval W with | some [(.value u,_)]=>(DT P L n).eqv u v | _=>false) s.ws s.W) (some [(Exit.panic ch,a.bad,W2)]) none=_; rw [e1]; rfl
 ·exact h.elim
end
end Go.Ce
namespace Go.Ce
section
variable {P:Program} {L:List FuncId}
theorem IQ (n:Nat):DT P L (n+1)=CU P L (DT P L n):=rfl
theorem E7 {α β:Type} {x:α} {f:α→Option (List β)} {y:List β} (h:f x=some y):CM (some [x]) f=some y:=DU x f h
theorem HI {ro:Option Nat} {fn:FuncId} {nt:Nat}:∀ {c:Code} {e:Env} {ds:List Deferred} {W:CW} {K:Exit→Env→List Deferred→CW→Prop},AJ P L ro fn nt c e ds W K→Bj P L ro fn nt c e ds W K:=by
 intro c
 induction c with
 | skip =>
  intro e ds W K h a ha hn; exact ⟨1,(.normal,a,W),rfl,e,by rw [ha.2]; exact ha,hn,by rw [ha.2]; exact h⟩
 | label id =>
  intro e ds W K h a ha hn; exact ⟨1,(.normal,a,W),rfl,e,by rw [ha.2]; exact ha,hn,by rw [ha.2]; exact h⟩
 | exit id =>
  intro e ds W K h a ha hn; exact ⟨1,(.exit id,a,W),rfl,e,by rw [ha.2]; exact ha,hn,by rw [ha.2]; exact h⟩
 | ret =>
  intro e ds W K h a ha hn; exact ⟨1,(.ret,a,W),rfl,e,by rw [ha.2]; exact ha,hn,by rw [ha.2]; exact h⟩
 | region id ops d =>
  intro e ds W K h a ha hn
  cases d with
  | false =>
   obtain ⟨n,o,e',h1,h2,h3,h4⟩:=Fz h ha; exact ⟨n+1,o,h1,e',h2,by rw [h3,hn],h4⟩
  | true =>
   simp only [AJ] at h
   cases hm:B6 L (fn+1500000) with
   | false =>
    rw [hm] at h; obtain ⟨n,a',W',e',h1,h2,h3,h4⟩:=aC h ha; exact ⟨n+1,(.normal,a',W'),h1,e',by rw [h2.2]; exact h2,by rw [←hn]; exact h3,by rw [h2.2]; exact h4⟩
   | true =>
    rw [hm] at h
    obtain ⟨n,⟨a',W',e',h1,h2,h3,h4⟩ | ⟨ch,W',h1,h4⟩⟩:=X7 h ha
    ·exact ⟨n+1,(.normal,a',W'),h1,e',by rw [h2.2]; exact h2,by rw [←hn]; exact h3,by rw [h2.2]; exact h4⟩
    ·refine ⟨n+1,(.panic ch,a.bad,W'),h1,Env.bad,⟨fun t=>?_,rfl⟩,hn,by show K (.panic ch) Env.bad a.defers W'; rw [ha.2]; exact h4⟩; show (AP.bad a).at t=Env.bad t; unfold AP.bad AP.at Env.bad; simp only [Tr.Bf,Tr.get_nil,cond_eq_ite,Nat.beq_eq]; split <;> rfl
 | seq x y cd cg =>
  intro e ds W K h a ha hn; obtain ⟨n,⟨x1,a1,W1⟩,h1,e1,h2,h3,h4⟩:=cd h a ha hn
  cases x1 with
  | normal =>
   obtain ⟨m,o,h5,h6⟩:=cg h4 a1 h2 h3; refine ⟨max n m+1,o,?_,h6⟩; show HC ((DT P L (max n m)).code ro fn x a W) ((DT P L (max n m)).code ro fn y)=some [o]; rw [GM (Nat.le_max_left n m) h1]; exact E7 (GM (Nat.le_max_right n m) h5)
  | _ =>
   refine ⟨n+1,_,?_,e1,h2,h3,h4⟩; show HC ((DT P L n).code ro fn x a W) ((DT P L n).code ro fn y)=_; rw [h1]; exact E7 rfl
 | cond c x y cd cg =>
  intro e ds W K h a ha hn; obtain ⟨b,hb,h⟩:=mw h; have hc:a.eval c=.bool b:=by rw [ha.eval]; exact hb
  cases b with
  | true =>
   obtain ⟨n,o,h1,h2⟩:=cd h a ha hn; refine ⟨n+1,o,?_,h2⟩; show (match a.eval c with | .bool b=>(DT P L n).code ro fn (cond b x y) a W | _=>none)=_; rw [hc]; exact h1
  | false =>
   obtain ⟨n,o,h1,h2⟩:=cg h a ha hn; refine ⟨n+1,o,?_,h2⟩; show (match a.eval c with | .bool b=>(DT P L n).code ro fn (cond b x y) a W | _=>none)=_; rw [hc]; exact h1
 | block id b ih =>
  intro e ds W K h a ha hn; obtain ⟨n,⟨x1,a1,W1⟩,h1,e1,h2,h3,h4⟩:=ih h a ha hn
  have key:∀ {r:Exit × AP × CW} {f:Exit × AP × CW→KF},(∀ e a W,f (e,a,W)=match e with
    | .exit RG=>cond (Nat.beq RG id) (some [(.normal,a,W)]) (some [(.exit RG,a,W)])
    | e=>some [(e,a,W)])→f (x1,a1,W1)=some [r]→(DT P L (n+1)).code ro fn (.block id b) a W=some [r]:=by
   intro r f hf hr
   show (CM ((DT P L n).code ro fn b a W) fun (e,a,W)=>match e with
    | .exit RG=>cond (Nat.beq RG id) (some [(.normal,a,W)]) (some [(.exit RG,a,W)])
    | e=>some [(e,a,W)])=_
   rw [h1]; refine E7 ?_; rw [←hr,hf]
  cases x1 with
  | exit RG =>
   cases hq:Nat.beq RG id with
   | true =>
    simp only [Av,hq,cond_true] at h4
    exact ⟨n+1,(.normal,a1,W1),key (f:=fun (e,a,W)=>match e with
     | .exit RG=>cond (Nat.beq RG id) (some [(.normal,a,W)]) (some [(.exit RG,a,W)])
     | e=>some [(e,a,W)]) (fun e a W=>by cases e <;> rfl) (by simp only [hq,cond_true]),e1,h2,h3,h4⟩
   | false =>
    simp only [Av,hq,cond_false] at h4
    exact ⟨n+1,(.exit RG,a1,W1),key (f:=fun (e,a,W)=>match e with
     | .exit RG=>cond (Nat.beq RG id) (some [(.normal,a,W)]) (some [(.exit RG,a,W)])
     | e=>some [(e,a,W)]) (fun e a W=>by cases e <;> rfl) (by simp only [hq,cond_false]),e1,h2,h3,h4⟩
  | _=>exact ⟨n+1,_,key (f:=fun (e,a,W)=>match e with
     | .exit RG=>cond (Nat.beq RG id) (some [(.normal,a,W)]) (some [(.exit RG,a,W)])
     | e=>some [(e,a,W)]) (fun e a W=>by cases e <;> rfl) rfl,e1,h2,h3,h4⟩
 | scope b ih =>
  intro e ds W K h a ha hn; obtain ⟨n,o,h1,h2⟩:=ih h a ha hn; exact ⟨n+1,o,h1,h2⟩
 | _=>intro e ds W K h; exact h
theorem AAn {ro:Option Nat} {fn:FuncId} {nt:Nat} {b:Code} {K:Exit→Env→List Deferred→CW→Prop} (Inv:Nat→Env→List Deferred→CW→Prop)
  (NL:∀ k e ds W,Inv k e ds W→AJ P L ro fn nt b e ds W fun x e' EV W'=>match x with
   | .normal=>∃ k',k'<k∧Inv k' e' EV W'
   | x=>K x e' EV W'):∀ k e ds W,Inv k e ds W→Bj P L ro fn nt (.loop b) e ds W K:=by
 intro k
 induction k using Nat.strongRecOn with
 | ind k ih =>
  intro e ds W hi a ha hn; obtain ⟨n,⟨x1,a1,W1⟩,h1,e1,h2,h3,h4⟩:=HI (NL k e ds W hi) a ha hn
  cases x1 with
  | normal =>
   obtain ⟨k',hk,Hv⟩:=h4; obtain ⟨m,o,h5,h6⟩:=ih k' hk e1 a1.defers W1 Hv a1 h2 h3; refine ⟨max n m+1,o,?_,h6⟩; show HC ((DT P L (max n m)).code ro fn b a W) ((DT P L (max n m)).code ro fn (.loop b))=some [o]; rw [GM (Nat.le_max_left n m) h1]; exact E7 (GM (Nat.le_max_right n m) h5)
  | _ =>
   refine ⟨n+1,_,?_,e1,h2,h3,h4⟩; show HC ((DT P L n).code ro fn b a W) ((DT P L n).code ro fn (.loop b))=_; rw [h1]; exact E7 rfl
def Env.args (args:List Value):Env:=fun t=>match args[t]? with
 | some v=>v
 | none=>undef
theorem m0 (fn:Func) (args:List Value):AE (Gq fn args) (Env.args args) []:=by
 refine ⟨fun t=>?_,rfl⟩; unfold Gq AP.at Env.args; simp only [Tr.Iw,Nat.zero_le,true_and,Nat.zero_add,Nat.sub_zero,Tr.get_nil]
 by_cases h:t<args.length
 ·rw [if_pos h,List.getElem?_eq_getElem h]; rfl
 ·rw [if_neg h,List.getElem?_eq_none (by omega)]; rfl
def m5 (P:Program) (r:ResultVar) (e:Env) (W:CW):Option Value:=match r with
 | .tmp t=>some (e t)
 | .cell s ty=>match e s with
  | .pointer (some p)=>Jm P ty p W
  | _=>none
def LA (P:Program):List ResultVar→Env→CW→Option (List Value)
 | [],_,_=>some []
 | r::rs,e,W=>match m5 P r e W with
  | some v=>match LA P rs e W with
   | some vs=>some (v::vs)
   | none=>none
  | none=>none
def EW (P:Program) (rs:List ResultVar) (e:Env) (W:CW):Option Value:=match LA P rs e W with
 | some [v]=>some v
 | some vs=>some (.tuple vs.toArray)
 | none=>none
theorem get_at {a:AP} {e:Env} {ds:List Deferred} (h:AE a e ds) (t:Tmp):(match a.t.get t with | some v=>v | none=>undef)=e t:=by
 rw [←h.1 t]; unfold AP.at
 cases a.t.get t <;> rfl
theorem qd {a:AP} {e:Env} {ds:List Deferred} (h:AE a e ds) {t:Tmp} {p:Addr} (hp:e t=.pointer (some p)):a.t.get t=some (.pointer (some p)):=by
 have:=h.1 t; rw [hp] at this; unfold AP.at at this
 cases hg:a.t.get t with
 | none=>rw [hg] at this; cases this
 | some v=>rw [hg] at this; exact congrArg some this
theorem UE {a:AP} {e:Env} {ds:List Deferred} (ha:AE a e ds) {W:CW}:∀ {rs:List ResultVar} {vs:List Value},LA P rs e W=some vs→rs.mapM (G3 P a W)=some vs
 | [],vs,h=>by simpa [LA] using h
 | r::rs,vs,h=>by
  simp only [LA] at h
  split at h
  ·rename_i v hv
   split at h
   ·rename_i vs' hvs
    cases h
    have h1:G3 P a W r=some v:=by
     unfold m5 at hv; unfold G3
     split at hv
     ·rename_i t; show some (match a.t.get t with | some v=>v | none=>undef)=some v; rw [get_at ha]; exact hv
     ·rename_i s ty
      split at hv
      ·rename_i p hp; show (match a.t.get s with | some (.pointer (some p))=>Jm P ty p W | _=>none)=some v; rw [qd ha hp]; exact hv
      ·cases hv
    simp only [List.mapM_cons,h1,UE ha hvs]; rfl
   ·cases h
  ·cases h
theorem dk {fn:Func} {a:AP} {e:Env} {ds:List Deferred} (ha:AE a e ds) {W:CW} {v:Value} (h:EW P fn.results.toList e W=some v):Fg P fn a W=some v:=by
 unfold EW at h; unfold Fg
 cases hr:LA P fn.results.toList e W with
 | none=>rw [hr] at h; cases h
 | some vs =>
  rw [hr] at h; rw [UE ha hr]
  match vs,h with
  | [],h=>exact h
  | [v],h=>exact h
  | _::_::_,h=>exact h
def AI (P:Program) (fn:Func) (Q:Ending→CW→Prop) (x:Exit) (e:Env):List Deferred→CW→Prop
 | [],W=>match x with
  | .normal=>wV (EW P fn.results.toList e W) fun v=>Q (.returned v) W
  | .ret=>wV (EW P fn.results.toList e W) fun v=>Q (.returned v) W
  | .panic ch=>Q (.panicked ch) W
  | _=>False
 | d::ds,W=>match d.target with
  | .collected r=>W.obj r=some .deferred∧AI P fn Q x e ds (W.Az r .dead)
  | _=>False
def behind (P:Program) (R:CL) (fn:Func) (x:Exit) (a:AP) (W:CW):Ends:=match x with
 | .normal=>leaves P R fn a a.defers .returning W
 | .ret=>leaves P R fn a a.defers .returning W
 | .panic ch=>cond a.OC (Fo a.defers ch W) (leaves P R fn a a.defers (.panicking ch) W)
 | _=>none
theorem UF {fn:Func} {e:Env} {Q:Ending→CW→Prop} {ch:List PanicEntry}:∀ (ds:List Deferred) (W:CW),AI P fn Q (.panic ch) e ds W→∃ o:Ending × CW,Fo ds ch W=some [o]∧Q o.1 o.2
 | [],W,h=>⟨(.panicked ch,W),rfl,h⟩
 | d::ds,W,h=>by
  obtain ⟨tg,ADO⟩:=d
  cases tg with
  | collected r =>
   obtain ⟨ho,h⟩:=h; obtain ⟨o,h1,h2⟩:=UF ds (W.Az r .dead) h; exact ⟨o,by simp only [Fo,ho]; exact h1,h2⟩
  | _=>exact h.elim
theorem QF {fn:Func} {a:AP} {e:Env} {Q:Ending→CW→Prop} {R:CL} (ha:AE a e a.defers) (x:Exit):∀ (ds:List Deferred) (W:CW),AI P fn Q x e ds W→∃ o:Ending × CW,(match x with
  | .normal=>leaves P R fn a ds .returning W
  | .ret=>leaves P R fn a ds .returning W
  | .panic ch=>leaves P R fn a ds (.panicking ch) W
  | _=>none)=some [o]∧Q o.1 o.2
 | [],W,h=>by
  have fin:wV (EW P fn.results.toList e W) (fun v=>Q (.returned v) W)→∃ o:Ending × CW,leaves P R fn a [] .returning W=some [o]∧Q o.1 o.2:=by
   intro hw
   cases hv:EW P fn.results.toList e W with
   | none=>rw [hv] at hw; exact hw.elim
   | some v =>
    rw [hv] at hw; exact ⟨(.returned v,W),by simp only [leaves,dk ha hv],hw⟩
  cases x with
  | normal=>exact fin h
  | ret=>exact fin h
  | panic ch=>exact ⟨(.panicked ch,W),rfl,h⟩
  | exit id=>exact h.elim
  | goto id=>exact h.elim
  | outgrown=>exact h.elim
 | d::ds,W,h=>by
  obtain ⟨tg,ADO⟩:=d
  cases tg with
  | collected r =>
   obtain ⟨ho,h⟩:=h; obtain ⟨o,h1,h2⟩:=QF ha x ds (W.Az r .dead) h; refine ⟨o,?_,h2⟩
   cases x <;> first | (simp only [leaves,ho]; exact h1) | exact h1
  | _=>exact h.elim
theorem dm {f:FuncId} {fn:Func} {c:Code} {args:List Value} {W:CW} {Q:Ending→CW→Prop} (hL:B6 L f=true) (vD:B6 L (f+1000000)=false) (qe:B6 L (f+2000000)=false) (hf:P.funcs[f]?=some fn) (hc:fn.body=some c)
  (hle:Nat.ble args.length fn.ntmps=true) (h:AJ P L none f fn.ntmps c (Env.args args) [] W (AI P fn Q)):AD P L f args W Q:=by
 obtain ⟨n,⟨x,a,W1⟩,h1,e,h2,h3,h4⟩:=HI h (Gq fn args) (m0 fn args) rfl
 have key:∀ {o:Ending × CW},behind P (DT P L n) fn x a W1=some [o]→(DT P L (n+1)).call f args W=some [o]:=by
  intro o ho; rw [IQ]; simp only [CU,hL,vD,qe,hf,hc,hle,Bool.not_true,cond_false,cond_true,Bool.false_and]; rw [h1]; refine E7 ?_; rw [←ho]
  cases x <;> rfl
 simp only at h2 h4
 cases hb:a.OC with
 | false =>
  obtain ⟨o,e1,e2⟩:=QF (R:=DT P L n) h2 x a.defers W1 h4; exact ⟨n+1,o,key (by unfold behind; cases x <;> first | exact e1 | (simp only [hb,cond_false]; exact e1)),e2⟩
 | true =>
  cases x with
  | panic ch =>
   obtain ⟨o,e1,e2⟩:=UF a.defers W1 h4; exact ⟨n+1,o,key (by unfold behind; simp only [hb,cond_true]; exact e1),e2⟩
  | _ =>
   obtain ⟨o,e1,e2⟩:=QF (R:=DT P L n) h2 _ a.defers W1 h4; exact ⟨n+1,o,key (by unfold behind; exact e1),e2⟩
theorem AD.mono {f:FuncId} {args:List Value} {W:CW} {Q Q':Ending→CW→Prop} (h:AD P L f args W Q) (hq:∀ e W,Q e W→Q' e W):AD P L f args W Q':=by
 obtain ⟨n,o,h1,h2⟩:=h; exact ⟨n,o,h1,hq _ _ h2⟩
theorem KW.mono {l:Nat} {args:List Value} {W:CW} {Q Q':Ending→CW→Prop} (h:KW P L l args W Q) (hq:∀ e W,Q e W→Q' e W):KW P L l args W Q':=by
 obtain ⟨n,o,h1,h2⟩:=h; exact ⟨n,o,h1,hq _ _ h2⟩
theorem Lo {f:FuncId} {W:CW} (hL:B6 L f=true) (qe:B6 L (f+2000000)=true) {Q:Ending→CW→Prop} (h:Q (.returned (.bool true)) W):AD P L f [] W Q:=by
 refine ⟨1,(.returned (.bool true),W),?_,h⟩; rw [IQ]; simp only [CU,hL,qe,Bool.not_true,cond_false,List.isEmpty_nil,Bool.and_self,cond_true]
end
end Go.Ce
namespace Go.Ce
open Go.RowKit (Below)
def Tr.Gg {α:Type} (t:Tr α):List (Nat × α)→Tr α
 | []=>t
 | p::ps=>(t.set p.1 p.2).Gg ps
def Tr.of {α:Type} (l:List (Nat × α)):Tr α:=Tr.nil.Gg l
def CW.Gg (W:CW) (l:List (Nat × Au)) (n:Nat):CW:=⟨W.h.Gg l,n⟩
def Lp (l:List (Nat × Value)) (n:Nat):AP:=⟨Tr.of l,n,[]⟩
def steps:Code→List Code
 | .seq x y=>steps x++steps y
 | c=>[c]
def NQ:Code→Nat
 | .seq x y=>NQ x+NQ y+1
 | _=>0
def AK (P:Program) (f:FuncId):Code:=match P.funcs[f]? with
 | some fn=>match fn.body with
  | some c=>c
  | none=>.skip
 | none=>.skip
def DN (P:Program) (f:FuncId):List Code:=steps (AK P f)
def Bb (R:CL) (ro:Option Nat) (fn:FuncId):List Code→AP→CW→KF
 | [],a,W=>some [(.normal,a,W)]
 | c::cs,a,W=>HC (R.code ro fn c a W) (Bb R ro fn cs)
def E8:Code→List (Code × Code)
 | .seq x y=>E8 x++E8 y
 | .cond _ x y=>E8 x++E8 y
 | .block _ b=>E8 b
 | .scope b=>E8 b
 | .loop b=>E8 b
 | .rangeFunc _ _ a b=>(a,b)::(E8 a++E8 b)
 | _=>[]
def AU (P:Program) (f:FuncId) (k:Nat):Code:=match (E8 (AK P f))[k]? with
 | some p=>p.1
 | none=>.skip
def AV (P:Program) (f:FuncId) (k:Nat):Code:=match (E8 (AK P f))[k]? with
 | some p=>p.2
 | none=>.skip
section
variable {P:Program} {L:List FuncId}
theorem OX {α β:Type} (f:α→Option (List β)):∀ (l m:List α),Eo f (l++m)=(Eo f l).bind fun x=>(Eo f m).bind fun y=>some (x++y)
 | [],m=>by cases h:Eo f m <;> simp [Eo,h]
 | x::l,m=>by
  simp only [List.cons_append,Eo,OX f l m]
  cases f x <;> simp
  cases Eo f l <;> simp
  cases Eo f m <;> simp
theorem aD {α β γ:Type} (o:Option (List α)) (f:α→Option (List β)) (g:β→Option (List γ)):CM (CM o f) g=CM o fun x=>CM (f x) g:=by
 cases o with
 | none=>rfl
 | some l =>
  simp only [CM]
  induction l with
  | nil=>rfl
  | cons x l ih =>
   simp only [Eo]
   cases hx:f x with
   | none=>rfl
   | some y =>
    simp only
    cases hl:Eo f l with
    | none =>
     rw [hl] at ih; simp only at ih ⊢
     cases Eo g y with
     | none=>rfl
     | some z=>simp only [←ih]
    | some m =>
     rw [hl] at ih; simp only at ih ⊢; rw [OX,←ih]
     cases Eo g y <;> simp
     cases Eo g m <;> simp
theorem dn {α:Type} (o:Option (List α)):CM o (fun x=>some [x])=o:=by
 cases o with
 | none=>rfl
 | some l =>
  simp only [CM]
  induction l with
  | nil=>rfl
  | cons x l ih=>simp [Eo,ih]
theorem dp (o:KF) (f g:AP→CW→KF):HC (HC o f) g=HC o fun a W=>HC (f a W) g:=by
 unfold HC; rw [aD]; congr 1; funext ⟨e,a,W⟩
 cases e <;> rfl
theorem jJ (o:KF):HC o (fun a W=>some [(.normal,a,W)])=o:=by
 unfold HC
 have:(fun (x:Exit × AP × CW)=>match x with
  | (e,a,W)=>match e with
   | .normal=>some [(Exit.normal,a,W)]
   | e=>some [(e,a,W)])=fun x=>some [x]:=by
  funext ⟨e,a,W⟩
  cases e <;> rfl
 exact (congrArg (CM o) this).trans (dn o)
theorem IS {R:CL} {ro:Option Nat} {fn:FuncId}:∀ (xs ys:List Code) (a:AP) (W:CW),Bb R ro fn (xs++ys) a W=HC (Bb R ro fn xs a W) (Bb R ro fn ys)
 | [],ys,a,W=>by
  simp only [List.nil_append,Bb,HC]; unfold CM; simp [Eo]
  cases Bb R ro fn ys a W <;> simp
 | x::xs,ys,a,W=>by
  simp only [List.cons_append,Bb]; rw [dp]; congr 1; funext a W; exact IS xs ys a W
theorem QG {n m:Nat} (h:n≤m) {ro:Option Nat} {fn:FuncId}:∀ {cs:List Code} {a:AP} {W:CW} {o:List (Exit × AP × CW)},Bb (DT P L n) ro fn cs a W=some o→Bb (DT P L m) ro fn cs a W=some o
 | [],a,W,o,e=>e
 | c::cs,a,W,o,e=>by
  simp only [Bb] at e ⊢; exact Jt (.refl (CL.base fun _ _=>false)) (fun l hl=>GM h hl) (fun a W r hr=>QG h hr) e
theorem jK:∀ (c:Code) {n:Nat} {ro:Option Nat} {fn:FuncId} {a:AP} {W:CW} {o:List (Exit × AP × CW)},Bb (DT P L n) ro fn (steps c) a W=some o→(DT P L (n+NQ c)).code ro fn c a W=some o:=by
 intro c
 induction c with
 | seq x y cd cg =>
  intro n ro fn a W o h; simp only [steps] at h; rw [IS] at h; show (DT P L (n+(NQ x+NQ y)+1)).code ro fn (.seq x y) a W=some o; show HC ((DT P L (n+(NQ x+NQ y))).code ro fn x a W) ((DT P L (n+(NQ x+NQ y))).code ro fn y)=some o; exact Jt (.refl (CL.base fun _ _=>false)) (fun l hl=>GM (by omega) (cd hl)) (fun a W r hr=>GM (by omega) (cg hr)) h
 | _ =>
  intro n ro fn a W o h; simp only [steps,Bb] at h; rw [←h]; exact (jJ _).symm
theorem qg (n:Nat):(cH P L n).Le (DT P L n):=gU (fun {u v} h=>by rw [F7 8 u v h]; exact @decide_eq_true _ (Classical.propDecidable _) rfl) n
theorem dq {n:Nat} {ro:Option Nat} {fn:FuncId}:∀ {cs:List Code} {a:AP} {W:CW} {o:List (Exit × AP × CW)},Bb (cH P L n) ro fn cs a W=some o→Bb (DT P L n) ro fn cs a W=some o
 | [],a,W,o,e=>e
 | c::cs,a,W,o,e=>by
  simp only [Bb] at e ⊢; exact Jt (.refl (CL.base fun _ _=>false)) (fun l hl=>(qg n).code hl) (fun a W r hr=>dq hr) e
def IT (P:Program) (L:List FuncId) (f:FuncId) (i:Nat) (a:AP) (W:CW) (x:Exit) (a':AP) (W':CW):Prop:=∃ n,Bb (DT P L n) none f ((DN P f).drop i) a W=some [(x,a',W')]
theorem IT.pY {f:FuncId} {i:Nat} (j n:Nat) {a a1 a2:AP} {W W1 W2:CW} {x:Exit} (h:Bb (cH P L n) none f (((DN P f).drop i).take j) a W=some [(.normal,a1,W1)]) (hk:IT P L f (i+j) a1 W1 x a2 W2):IT P L f i a W x a2 W2:=by
 obtain ⟨m,hm⟩:=hk; refine ⟨max n m,?_⟩
 have e:(DN P f).drop i=((DN P f).drop i).take j++(DN P f).drop (i+j):=by
  rw [←List.drop_drop,List.take_append_drop]
 rw [e,IS,QG (Nat.le_max_left n m) (dq h)]; show HC (some [(.normal,a1,W1)]) _=_; unfold HC; exact DU _ _ (QG (Nat.le_max_right n m) hm)
theorem IT.end {f:FuncId} {i:Nat} (n:Nat) {a a1:AP} {W W1:CW} {x:Exit} (h:Bb (cH P L n) none f ((DN P f).drop i) a W=some [(x,a1,W1)]):IT P L f i a W x a1 W1:=⟨n,dq h⟩
theorem IT.call {f:FuncId} {fn:Func} {a:AP} {W W1:CW} {v:Value} {args:List Value} (hL:B6 L f=true) (vD:B6 L (f+1000000)=false) (qe:B6 L (f+2000000)=false) (hf:P.funcs[f]?=some fn) (hb:fn.body.isSome=true)
  (hle:Nat.ble args.length fn.ntmps=true) (h:IT P L f 0 (Gq fn args) W .ret a W1) (hd:a.defers=[]) (hv:Fg P fn a W1=some v):∃ n,(DT P L n).call f args W=some [(.returned v,W1)]:=by
 obtain ⟨n,h⟩:=h
 cases hc:fn.body with
 | none=>rw [hc] at hb; cases hb
 | some c =>
  have hbo:AK P f=c:=by unfold AK; rw [hf]; simp only [hc]
  rw [List.drop_zero] at h; unfold DN at h; rw [hbo] at h; have h1:=jK c h; refine ⟨n+NQ c+1,?_⟩; rw [IQ]; simp only [CU,hL,vD,qe,hf,hc,hle,Bool.not_true,cond_false,cond_true,Bool.false_and]; rw [h1]; refine DU _ _ ?_; show leaves P _ fn a a.defers .returning W1=_; rw [hd]; simp only [leaves,hv]
theorem X8 (hz:ZP P) (OT:P.follows .mixedOrders=true) (Xx:EN P) (WW:CK P L) {f:FuncId} {n:Nat} (h:MK ((DT P L n).call f [] (W0 0))=true) (w:World) (k:Nat) :
  CallsIn (F0 P) k P f #[] w (fun e w'=>e=.returned (.bool true)∧Below w.heap.size w w'):=by
 have hw:Ac P w (fun _=>none) (W0 0) w:=⟨(fun i x hx=>by cases hx),(fun i o ho=>by cases ho),(fun i o x ho=>by cases ho),(fun i j o u x y ho=>by cases ho),Below.tG w⟩
 cases ho:(DT P L n).call f [] (W0 0) with
 | none=>rw [ho] at h; cases h
 | some outs =>
  rw [ho] at h; obtain ⟨_,hc⟩:=(gW (w0:=w) hz OT Xx WW n).call ho (args':=#[]) (.nil _) hw; refine (hc k).mono fun e w' hE=>?_; obtain ⟨e0,W2,ρ2,hm,_,hN,FW⟩:=hE; have:=List.all_eq_true.1 h _ hm; simp only at this
  cases hN with
  | returned hv =>
   split at this
   ·rename_i heq
    cases heq
    cases hv
    exact ⟨rfl,FW.below⟩
   ·cases this
  | panicked _=>cases this
end
end Go.Ce
namespace Go.Ce
def Env.of (b:Env):List (Nat × Value)→Env
 | []=>b
 | p::l=>fun t=>cond (Nat.beq t p.1) p.2 (Env.of b l t)
theorem AW (b:Env) (d:Nat) (v:Value) (l:List (Nat × Value)) (t:Nat):Env.of b ((d,v)::l) t=if t=d then v else Env.of b l t:=by
 simp only [Env.of,cond_eq_ite,Nat.beq_eq]
theorem Aa (b:Env) (t:Nat):Env.of b [] t=b t:=rfl
def G7:Code→List Code
 | .seq x y=>G7 x++G7 y
 | .cond _ x y=>G7 x++G7 y
 | .block _ b=>G7 b
 | .scope b=>G7 b
 | .loop b=>b::G7 b
 | .rangeFunc _ _ a b=>G7 a++G7 b
 | _=>[]
def AY (P:Program) (f:FuncId) (k:Nat):Code:=match (G7 (AK P f))[k]? with
 | some c=>c
 | none=>.skip
def tI (W:CW):Option (Value × CW):=some (.map (some W.sz),W.new (.map [] 0))
section
variable {P:Program} {L:List FuncId}
theorem AX {f:FuncId} {fn:Func} {args:List Value} {W:CW} {Q:Ending→CW→Prop} (hf:P.funcs[f]?=some fn) (hb:fn.body.isSome=true) (hL:B6 L f=true) (vD:B6 L (f+1000000)=false) (qe:B6 L (f+2000000)=false)
  (hle:Nat.ble args.length fn.ntmps=true) (h:AJ P L none f fn.ntmps (AK P f) (Env.args args) [] W (AI P fn Q)):AD P L f args W Q:=by
 cases hc:fn.body with
 | none=>rw [hc] at hb; cases hb
 | some c =>
  have hbo:AK P f=c:=by unfold AK; rw [hf]; simp only [hc]
  rw [hbo] at h; exact dm hL vD qe hf hc hle h
end
end Go.Ce
namespace Go.Ce
def AM:List FuncId:=[16+2000000]++([1500072,1500074,1500121]++(List.range 162).filter fun f=>Nat.ble 3 f && !Nat.beq f 7)
end Go.Ce
namespace Go.Ce
open Go Go.Proofs Go.Proofs.Tryz
def JR (ro:Option Nat) (K:AB):AB:=Ag (fun e ds W=>K .ret e ds W) K
def KY (ro:Option Nat) (K:AB):AB:=Ag (fun e ds W=>wV (AH prog .neq 30 true (e 12) (.int .i64 0)) fun DC=>wI DC (AD prog AM 16 [] W (AQ (fun M0 W4=>K .ret (Env.of e [(10,M0),(102,M0),(101,DC),(100,(e 12))]) ds W4) (fun jL W5=>K (.panic jL) (Env.of e [(101,DC),(100,(e 12))]) ds W5))) (AD prog AM 21 [(e 0),(e 1),(e 3)] W (AQ (fun EY W6=>wV (ext EY 0) fun Bc=>wV (ext EY 1) fun CY=>wV (ext EY 2) fun CG=>AD prog AM 17 [(e 0),(.slice none 0 0),Bc,CY] W6 (AQ (fun EO W8=>wV (ext EO 0) fun Dc=>wV (ext EO 1) fun DO=>AD prog AM 20 [(e 0),(e 1),(e 3),Bc,CY] W8 (AQ (fun Ek Rq=>wV (ext Ek 0) fun ED=>wV (ext Ek 1) fun DV=>AD prog AM 22 [(e 0),(e 1),(e 3)] Rq (AQ (fun E9 Il=>wV (ext E9 0) fun Hm=>wV (ext E9 1) fun Gv=>AD prog AM 16 [] Il (AQ (fun HJ Nj=>wI HJ (wV (AH prog .eql 30 true CG (.int .i64 0)) fun GC=>wI GC (wV (AH prog .eql 30 true DO (.int .i64 0)) fun Fj=>wI Fj (wV (AH prog .eql 30 true DV (.int .i64 0)) fun Gh=>wI Gh (wV (AH prog .eql 30 true Gv (.int .i64 0)) fun M1=>wI M1 (wI ED (wV (qZ prog 29 9 Dc Nj) fun aE=>wV (qZ prog 29 9 (e 11) Nj) fun dr=>wV (AH prog .eql 9 false aE dr) fun M3=>wI M3 (wV (A8 prog 40 Hm Nj) fun jM=>wV (A8 prog 24 Bc Nj) fun X9=>wV (AH prog .eql 3 false jM X9) fun Vt=>(JR ro K) .normal (Env.of e [(10,Vt),(167,Vt),(166,Vt),(161,(.bool true)),(165,X9),(161,(.bool true)),(164,Bc),(161,(.bool true)),(163,jM),(161,(.bool true)),(162,Hm),(161,(.bool true)),(161,M3),(160,M3),(159,M3),(154,(.bool true)),(158,dr),(154,(.bool true)),(157,(e 11)),(154,(.bool true)),(156,aE),(154,(.bool true)),(155,Dc),(154,(.bool true)),(154,ED),(153,ED),(152,ED),(151,(.bool true)),(151,M1),(150,M1),(149,M1),(147,(.bool true)),(148,Gv),(147,(.bool true)),(147,Gh),(146,Gh),(145,Gh),(143,(.bool true)),(144,DV),(143,(.bool true)),(143,Fj),(142,Fj),(141,Fj),(139,(.bool true)),(140,DO),(139,(.bool true)),(139,GC),(138,GC),(137,GC),(135,(.bool true)),(136,CG),(135,(.bool true)),(135,HJ),(134,HJ),(27,Gv),(26,Hm),(133,Gv),(132,Hm),(127,E9),(131,E9),(130,(e 3)),(129,(e 1)),(128,(e 0)),(25,DV),(24,ED),(126,DV),(125,ED),(118,Ek),(124,Ek),(123,CY),(122,Bc),(121,(e 3)),(120,(e 1)),(119,(e 0)),(23,DO),(22,Dc),(117,DO),(116,Dc),(111,EO),(115,EO),(114,CY),(113,Bc),(112,(e 0)),(21,CG),(20,CY),(19,Bc),(110,CG),(109,CY),(108,Bc),(103,EY),(107,EY),(106,(e 3)),(105,(e 1)),(104,(e 0)),(101,DC),(100,(e 12))]) ds Nj) ((JR ro K) .normal (Env.of e [(10,(.bool false)),(167,(.bool false)),(166,undef),(161,(.bool false)),(165,undef),(161,(.bool false)),(164,undef),(161,(.bool false)),(163,undef),(161,(.bool false)),(162,undef),(161,(.bool false)),(161,M3),(160,M3),(159,M3),(154,(.bool true)),(158,dr),(154,(.bool true)),(157,(e 11)),(154,(.bool true)),(156,aE),(154,(.bool true)),(155,Dc),(154,(.bool true)),(154,ED),(153,ED),(152,ED),(151,(.bool true)),(151,M1),(150,M1),(149,M1),(147,(.bool true)),(148,Gv),(147,(.bool true)),(147,Gh),(146,Gh),(145,Gh),(143,(.bool true)),(144,DV),(143,(.bool true)),(143,Fj),(142,Fj),(141,Fj),(139,(.bool true)),(140,DO),(139,(.bool true)),(139,GC),(138,GC),(137,GC),(135,(.bool true)),(136,CG),(135,(.bool true)),(135,HJ),(134,HJ),(27,Gv),(26,Hm),(133,Gv),(132,Hm),(127,E9),(131,E9),(130,(e 3)),(129,(e 1)),(128,(e 0)),(25,DV),(24,ED),(126,DV),(125,ED),(118,Ek),(124,Ek),(123,CY),(122,Bc),(121,(e 3)),(120,(e 1)),(119,(e 0)),(23,DO),(22,Dc),(117,DO),(116,Dc),(111,EO),(115,EO),(114,CY),(113,Bc),(112,(e 0)),(21,CG),(20,CY),(19,Bc),(110,CG),(109,CY),(108,Bc),(103,EY),(107,EY),(106,(e 3)),(105,(e 1)),(104,(e 0)),(101,DC),(100,(e 12))]) ds Nj)) ((JR ro K) .normal (Env.of e [(10,(.bool false)),(167,(.bool false)),(166,undef),(161,(.bool false)),(165,undef),(161,(.bool false)),(164,undef),(161,(.bool false)),(163,undef),(161,(.bool false)),(162,undef),(161,(.bool false)),(161,(.bool false)),(160,(.bool false)),(159,undef),(154,(.bool false)),(158,undef),(154,(.bool false)),(157,undef),(154,(.bool false)),(156,undef),(154,(.bool false)),(155,undef),(154,(.bool false)),(154,ED),(153,ED),(152,ED),(151,(.bool true)),(151,M1),(150,M1),(149,M1),(147,(.bool true)),(148,Gv),(147,(.bool true)),(147,Gh),(146,Gh),(145,Gh),(143,(.bool true)),(144,DV),(143,(.bool true)),(143,Fj),(142,Fj),(141,Fj),(139,(.bool true)),(140,DO),(139,(.bool true)),(139,GC),(138,GC),(137,GC),(135,(.bool true)),(136,CG),(135,(.bool true)),(135,HJ),(134,HJ),(27,Gv),(26,Hm),(133,Gv),(132,Hm),(127,E9),(131,E9),(130,(e 3)),(129,(e 1)),(128,(e 0)),(25,DV),(24,ED),(126,DV),(125,ED),(118,Ek),(124,Ek),(123,CY),(122,Bc),(121,(e 3)),(120,(e 1)),(119,(e 0)),(23,DO),(22,Dc),(117,DO),(116,Dc),(111,EO),(115,EO),(114,CY),(113,Bc),(112,(e 0)),(21,CG),(20,CY),(19,Bc),(110,CG),(109,CY),(108,Bc),(103,EY),(107,EY),(106,(e 3)),(105,(e 1)),(104,(e 0)),(101,DC),(100,(e 12))]) ds Nj)) ((JR ro K) .normal (Env.of e [(10,(.bool false)),(167,(.bool false)),(166,undef),(161,(.bool false)),(165,undef),(161,(.bool false)),(164,undef),(161,(.bool false)),(163,undef),(161,(.bool false)),(162,undef),(161,(.bool false)),(161,(.bool false)),(160,(.bool false)),(159,undef),(154,(.bool false)),(158,undef),(154,(.bool false)),(157,undef),(154,(.bool false)),(156,undef),(154,(.bool false)),(155,undef),(154,(.bool false)),(154,(.bool false)),(153,(.bool false)),(152,undef),(151,(.bool false)),(151,M1),(150,M1),(149,M1),(147,(.bool true)),(148,Gv),(147,(.bool true)),(147,Gh),(146,Gh),(145,Gh),(143,(.bool true)),(144,DV),(143,(.bool true)),(143,Fj),(142,Fj),(141,Fj),(139,(.bool true)),(140,DO),(139,(.bool true)),(139,GC),(138,GC),(137,GC),(135,(.bool true)),(136,CG),(135,(.bool true)),(135,HJ),(134,HJ),(27,Gv),(26,Hm),(133,Gv),(132,Hm),(127,E9),(131,E9),(130,(e 3)),(129,(e 1)),(128,(e 0)),(25,DV),(24,ED),(126,DV),(125,ED),(118,Ek),(124,Ek),(123,CY),(122,Bc),(121,(e 3)),(120,(e 1)),(119,(e 0)),(23,DO),(22,Dc),(117,DO),(116,Dc),(111,EO),(115,EO),(114,CY),(113,Bc),(112,(e 0)),(21,CG),(20,CY),(19,Bc),(110,CG),(109,CY),(108,Bc),(103,EY),(107,EY),(106,(e 3)),(105,(e 1)),(104,(e 0)),(101,DC),(100,(e 12))]) ds Nj)) ((JR ro K) .normal (Env.of e [(10,(.bool false)),(167,(.bool false)),(166,undef),(161,(.bool false)),(165,undef),(161,(.bool false)),(164,undef),(161,(.bool false)),(163,undef),(161,(.bool false)),(162,undef),(161,(.bool false)),(161,(.bool false)),(160,(.bool false)),(159,undef),(154,(.bool false)),(158,undef),(154,(.bool false)),(157,undef),(154,(.bool false)),(156,undef),(154,(.bool false)),(155,undef),(154,(.bool false)),(154,(.bool false)),(153,(.bool false)),(152,undef),(151,(.bool false)),(151,(.bool false)),(150,(.bool false)),(149,undef),(147,(.bool false)),(148,undef),(147,(.bool false)),(147,Gh),(146,Gh),(145,Gh),(143,(.bool true)),(144,DV),(143,(.bool true)),(143,Fj),(142,Fj),(141,Fj),(139,(.bool true)),(140,DO),(139,(.bool true)),(139,GC),(138,GC),(137,GC),(135,(.bool true)),(136,CG),(135,(.bool true)),(135,HJ),(134,HJ),(27,Gv),(26,Hm),(133,Gv),(132,Hm),(127,E9),(131,E9),(130,(e 3)),(129,(e 1)),(128,(e 0)),(25,DV),(24,ED),(126,DV),(125,ED),(118,Ek),(124,Ek),(123,CY),(122,Bc),(121,(e 3)),(120,(e 1)),(119,(e 0)),(23,DO),(22,Dc),(117,DO),(116,Dc),(111,EO),(115,EO),(114,CY),(113,Bc),(112,(e 0)),(21,CG),(20,CY),(19,Bc),(110,CG),(109,CY),(108,Bc),(103,EY),(107,EY),(106,(e 3)),(105,(e 1)),(104,(e 0)),(101,DC),(100,(e 12))]) ds Nj)) ((JR ro K) .normal (Env.of e [(10,(.bool false)),(167,(.bool false)),(166,undef),(161,(.bool false)),(165,undef),(161,(.bool false)),(164,undef),(161,(.bool false)),(163,undef),(161,(.bool false)),(162,undef),(161,(.bool false)),(161,(.bool false)),(160,(.bool false)),(159,undef),(154,(.bool false)),(158,undef),(154,(.bool false)),(157,undef),(154,(.bool false)),(156,undef),(154,(.bool false)),(155,undef),(154,(.bool false)),(154,(.bool false)),(153,(.bool false)),(152,undef),(151,(.bool false)),(151,(.bool false)),(150,(.bool false)),(149,undef),(147,(.bool false)),(148,undef),(147,(.bool false)),(147,(.bool false)),(146,(.bool false)),(145,undef),(143,(.bool false)),(144,undef),(143,(.bool false)),(143,Fj),(142,Fj),(141,Fj),(139,(.bool true)),(140,DO),(139,(.bool true)),(139,GC),(138,GC),(137,GC),(135,(.bool true)),(136,CG),(135,(.bool true)),(135,HJ),(134,HJ),(27,Gv),(26,Hm),(133,Gv),(132,Hm),(127,E9),(131,E9),(130,(e 3)),(129,(e 1)),(128,(e 0)),(25,DV),(24,ED),(126,DV),(125,ED),(118,Ek),(124,Ek),(123,CY),(122,Bc),(121,(e 3)),(120,(e 1)),(119,(e 0)),(23,DO),(22,Dc),(117,DO),(116,Dc),(111,EO),(115,EO),(114,CY),(113,Bc),(112,(e 0)),(21,CG),(20,CY),(19,Bc),(110,CG),(109,CY),(108,Bc),(103,EY),(107,EY),(106,(e 3)),(105,(e 1)),(104,(e 0)),(101,DC),(100,(e 12))]) ds Nj)) ((JR ro K) .normal (Env.of e [(10,(.bool false)),(167,(.bool false)),(166,undef),(161,(.bool false)),(165,undef),(161,(.bool false)),(164,undef),(161,(.bool false)),(163,undef),(161,(.bool false)),(162,undef),(161,(.bool false)),(161,(.bool false)),(160,(.bool false)),(159,undef),(154,(.bool false)),(158,undef),(154,(.bool false)),(157,undef),(154,(.bool false)),(156,undef),(154,(.bool false)),(155,undef),(154,(.bool false)),(154,(.bool false)),(153,(.bool false)),(152,undef),(151,(.bool false)),(151,(.bool false)),(150,(.bool false)),(149,undef),(147,(.bool false)),(148,undef),(147,(.bool false)),(147,(.bool false)),(146,(.bool false)),(145,undef),(143,(.bool false)),(144,undef),(143,(.bool false)),(143,(.bool false)),(142,(.bool false)),(141,undef),(139,(.bool false)),(140,undef),(139,(.bool false)),(139,GC),(138,GC),(137,GC),(135,(.bool true)),(136,CG),(135,(.bool true)),(135,HJ),(134,HJ),(27,Gv),(26,Hm),(133,Gv),(132,Hm),(127,E9),(131,E9),(130,(e 3)),(129,(e 1)),(128,(e 0)),(25,DV),(24,ED),(126,DV),(125,ED),(118,Ek),(124,Ek),(123,CY),(122,Bc),(121,(e 3)),(120,(e 1)),(119,(e 0)),(23,DO),(22,Dc),(117,DO),(116,Dc),(111,EO),(115,EO),(114,CY),(113,Bc),(112,(e 0)),(21,CG),(20,CY),(19,Bc),(110,CG),(109,CY),(108,Bc),(103,EY),(107,EY),(106,(e 3)),(105,(e 1)),(104,(e 0)),(101,DC),(100,(e 12))]) ds Nj)) ((JR ro K) .normal (Env.of e [(10,(.bool false)),(167,(.bool false)),(166,undef),(161,(.bool false)),(165,undef),(161,(.bool false)),(164,undef),(161,(.bool false)),(163,undef),(161,(.bool false)),(162,undef),(161,(.bool false)),(161,(.bool false)),(160,(.bool false)),(159,undef),(154,(.bool false)),(158,undef),(154,(.bool false)),(157,undef),(154,(.bool false)),(156,undef),(154,(.bool false)),(155,undef),(154,(.bool false)),(154,(.bool false)),(153,(.bool false)),(152,undef),(151,(.bool false)),(151,(.bool false)),(150,(.bool false)),(149,undef),(147,(.bool false)),(148,undef),(147,(.bool false)),(147,(.bool false)),(146,(.bool false)),(145,undef),(143,(.bool false)),(144,undef),(143,(.bool false)),(143,(.bool false)),(142,(.bool false)),(141,undef),(139,(.bool false)),(140,undef),(139,(.bool false)),(139,(.bool false)),(138,(.bool false)),(137,undef),(135,(.bool false)),(136,undef),(135,(.bool false)),(135,HJ),(134,HJ),(27,Gv),(26,Hm),(133,Gv),(132,Hm),(127,E9),(131,E9),(130,(e 3)),(129,(e 1)),(128,(e 0)),(25,DV),(24,ED),(126,DV),(125,ED),(118,Ek),(124,Ek),(123,CY),(122,Bc),(121,(e 3)),(120,(e 1)),(119,(e 0)),(23,DO),(22,Dc),(117,DO),(116,Dc),(111,EO),(115,EO),(114,CY),(113,Bc),(112,(e 0)),(21,CG),(20,CY),(19,Bc),(110,CG),(109,CY),(108,Bc),(103,EY),(107,EY),(106,(e 3)),(105,(e 1)),(104,(e 0)),(101,DC),(100,(e 12))]) ds Nj)) (fun vE CQ=>(JR ro K) (.panic vE) (Env.of e [(27,Gv),(26,Hm),(133,Gv),(132,Hm),(127,E9),(131,E9),(130,(e 3)),(129,(e 1)),(128,(e 0)),(25,DV),(24,ED),(126,DV),(125,ED),(118,Ek),(124,Ek),(123,CY),(122,Bc),(121,(e 3)),(120,(e 1)),(119,(e 0)),(23,DO),(22,Dc),(117,DO),(116,Dc),(111,EO),(115,EO),(114,CY),(113,Bc),(112,(e 0)),(21,CG),(20,CY),(19,Bc),(110,CG),(109,CY),(108,Bc),(103,EY),(107,EY),(106,(e 3)),(105,(e 1)),(104,(e 0)),(101,DC),(100,(e 12))]) ds CQ))) (fun AAo H5=>K (.panic AAo) (Env.of e [(130,(e 3)),(129,(e 1)),(128,(e 0)),(25,DV),(24,ED),(126,DV),(125,ED),(118,Ek),(124,Ek),(123,CY),(122,Bc),(121,(e 3)),(120,(e 1)),(119,(e 0)),(23,DO),(22,Dc),(117,DO),(116,Dc),(111,EO),(115,EO),(114,CY),(113,Bc),(112,(e 0)),(21,CG),(20,CY),(19,Bc),(110,CG),(109,CY),(108,Bc),(103,EY),(107,EY),(106,(e 3)),(105,(e 1)),(104,(e 0)),(101,DC),(100,(e 12))]) ds H5))) (fun qh Du=>K (.panic qh) (Env.of e [(123,CY),(122,Bc),(121,(e 3)),(120,(e 1)),(119,(e 0)),(23,DO),(22,Dc),(117,DO),(116,Dc),(111,EO),(115,EO),(114,CY),(113,Bc),(112,(e 0)),(21,CG),(20,CY),(19,Bc),(110,CG),(109,CY),(108,Bc),(103,EY),(107,EY),(106,(e 3)),(105,(e 1)),(104,(e 0)),(101,DC),(100,(e 12))]) ds Du))) (fun lN W9=>K (.panic lN) (Env.of e [(114,CY),(113,Bc),(112,(e 0)),(21,CG),(20,CY),(19,Bc),(110,CG),(109,CY),(108,Bc),(103,EY),(107,EY),(106,(e 3)),(105,(e 1)),(104,(e 0)),(101,DC),(100,(e 12))]) ds W9))) (fun qi W7=>K (.panic qi) (Env.of e [(106,(e 3)),(105,(e 1)),(104,(e 0)),(101,DC),(100,(e 12))]) ds W7)))) K
def UG (ro:Option Nat) (K:AB):AB:=Ag (fun e ds W=>wI (e 99) ((KY ro K) .ret (Env.of e [(10,(.bool false))]) ds W) ((KY ro K) .normal e ds W)) (KY ro K)
def X' (ro:Option Nat) (K:AB):AB:=Ag (fun e ds W=>wI (e 61) (AD prog AM 20 [(e 0),(e 1),(e 3),(e 2),(e 4)] W (AQ (fun Ji LI=>wV (ext Ji 0) fun G8=>wV (ext Ji 1) fun Jj=>AD prog AM 20 [(e 0),(e 2),(e 4),(e 1),(e 3)] LI (AQ (fun JS Nk=>wV (ext JS 0) fun KZ=>wV (ext JS 1) fun IG=>wV (AH prog .neq 30 true Jj (.int .i64 0)) fun lP=>wI lP ((UG ro K) .normal (Env.of e [(99,(.bool true)),(98,undef),(91,(.bool true)),(97,undef),(91,(.bool true)),(96,undef),(91,(.bool true)),(95,undef),(91,(.bool true)),(94,undef),(91,(.bool true)),(93,undef),(91,(.bool true)),(92,undef),(91,(.bool true)),(91,(.bool true)),(90,(.bool true)),(89,undef),(86,(.bool true)),(88,undef),(86,(.bool true)),(87,undef),(86,(.bool true)),(86,(.bool true)),(85,(.bool true)),(84,undef),(82,(.bool true)),(83,undef),(82,(.bool true)),(82,lP),(81,lP),(80,Jj),(18,IG),(17,KZ),(79,IG),(78,KZ),(71,JS),(77,JS),(76,(e 3)),(75,(e 1)),(74,(e 4)),(73,(e 2)),(72,(e 0)),(16,Jj),(15,G8),(70,Jj),(69,G8),(62,Ji),(68,Ji),(67,(e 4)),(66,(e 2)),(65,(e 3)),(64,(e 1)),(63,(e 0))]) ds Nk) (wV (AH prog .neq 30 true IG (.int .i64 0)) fun JT=>wI JT ((UG ro K) .normal (Env.of e [(99,(.bool true)),(98,undef),(91,(.bool true)),(97,undef),(91,(.bool true)),(96,undef),(91,(.bool true)),(95,undef),(91,(.bool true)),(94,undef),(91,(.bool true)),(93,undef),(91,(.bool true)),(92,undef),(91,(.bool true)),(91,(.bool true)),(90,(.bool true)),(89,undef),(86,(.bool true)),(88,undef),(86,(.bool true)),(87,undef),(86,(.bool true)),(86,JT),(85,JT),(84,JT),(82,(.bool false)),(83,IG),(82,(.bool false)),(82,lP),(81,lP),(80,Jj),(18,IG),(17,KZ),(79,IG),(78,KZ),(71,JS),(77,JS),(76,(e 3)),(75,(e 1)),(74,(e 4)),(73,(e 2)),(72,(e 0)),(16,Jj),(15,G8),(70,Jj),(69,G8),(62,Ji),(68,Ji),(67,(e 4)),(66,(e 2)),(65,(e 3)),(64,(e 1)),(63,(e 0))]) ds Nk) (wV (AH prog .neq 4 false G8 KZ) fun PR=>wI PR ((UG ro K) .normal (Env.of e [(99,(.bool true)),(98,undef),(91,(.bool true)),(97,undef),(91,(.bool true)),(96,undef),(91,(.bool true)),(95,undef),(91,(.bool true)),(94,undef),(91,(.bool true)),(93,undef),(91,(.bool true)),(92,undef),(91,(.bool true)),(91,PR),(90,PR),(89,PR),(86,(.bool false)),(88,KZ),(86,(.bool false)),(87,G8),(86,(.bool false)),(86,JT),(85,JT),(84,JT),(82,(.bool false)),(83,IG),(82,(.bool false)),(82,lP),(81,lP),(80,Jj),(18,IG),(17,KZ),(79,IG),(78,KZ),(71,JS),(77,JS),(76,(e 3)),(75,(e 1)),(74,(e 4)),(73,(e 2)),(72,(e 0)),(16,Jj),(15,G8),(70,Jj),(69,G8),(62,Ji),(68,Ji),(67,(e 4)),(66,(e 2)),(65,(e 3)),(64,(e 1)),(63,(e 0))]) ds Nk) (wV (qZ prog 29 9 (e 11) Nk) fun lQ=>wV (qZ prog 29 9 (e 13) Nk) fun X_=>wV (AH prog .eql 9 false lQ X_) fun ZC=>wV (AH prog .neq 4 false G8 ZC) fun Ss=>(UG ro K) .normal (Env.of e [(99,Ss),(98,Ss),(91,(.bool false)),(97,ZC),(91,(.bool false)),(96,X_),(91,(.bool false)),(95,(e 13)),(91,(.bool false)),(94,lQ),(91,(.bool false)),(93,(e 11)),(91,(.bool false)),(92,G8),(91,(.bool false)),(91,PR),(90,PR),(89,PR),(86,(.bool false)),(88,KZ),(86,(.bool false)),(87,G8),(86,(.bool false)),(86,JT),(85,JT),(84,JT),(82,(.bool false)),(83,IG),(82,(.bool false)),(82,lP),(81,lP),(80,Jj),(18,IG),(17,KZ),(79,IG),(78,KZ),(71,JS),(77,JS),(76,(e 3)),(75,(e 1)),(74,(e 4)),(73,(e 2)),(72,(e 0)),(16,Jj),(15,G8),(70,Jj),(69,G8),(62,Ji),(68,Ji),(67,(e 4)),(66,(e 2)),(65,(e 3)),(64,(e 1)),(63,(e 0))]) ds Nk)))) (fun AAp tJ=>(KY ro K) (.panic AAp) (Env.of e [(76,(e 3)),(75,(e 1)),(74,(e 4)),(73,(e 2)),(72,(e 0)),(16,Jj),(15,G8),(70,Jj),(69,G8),(62,Ji),(68,Ji),(67,(e 4)),(66,(e 2)),(65,(e 3)),(64,(e 1)),(63,(e 0))]) ds tJ))) (fun vF Is=>(KY ro K) (.panic vF) (Env.of e [(67,(e 4)),(66,(e 2)),(65,(e 3)),(64,(e 1)),(63,(e 0))]) ds Is))) ((KY ro K) .normal e ds W)) (KY ro K)
def QH (ro:Option Nat) (K:AB):AB:=Ag (fun e ds W=>AD prog AM 17 [(e 0),(.slice none 0 0),(e 1),(e 3)] W (AQ (fun EG W0=>wV (ext EG 0) fun Fk=>wV (ext EG 1) fun EZ=>AD prog AM 17 [(e 0),(.slice none 0 0),(e 2),(e 4)] W0 (AQ (fun FX W2=>wV (ext FX 0) fun E_=>wV (ext FX 1) fun IH=>wV (AH prog .eql 30 true EZ (.int .i64 0)) fun IU=>wI IU (wV (AH prog .eql 30 true IH (.int .i64 0)) fun GN=>(X' ro K) .normal (Env.of e [(61,GN),(60,GN),(58,(.bool true)),(59,IH),(58,(.bool true)),(58,IU),(57,IU),(56,EZ),(14,IH),(13,E_),(55,IH),(54,E_),(49,FX),(53,FX),(52,(e 4)),(51,(e 2)),(50,(e 0)),(12,EZ),(11,Fk),(48,EZ),(47,Fk),(42,EG),(46,EG),(45,(e 3)),(44,(e 1)),(43,(e 0))]) ds W2) ((X' ro K) .normal (Env.of e [(61,(.bool false)),(60,undef),(58,(.bool false)),(59,undef),(58,(.bool false)),(58,IU),(57,IU),(56,EZ),(14,IH),(13,E_),(55,IH),(54,E_),(49,FX),(53,FX),(52,(e 4)),(51,(e 2)),(50,(e 0)),(12,EZ),(11,Fk),(48,EZ),(47,Fk),(42,EG),(46,EG),(45,(e 3)),(44,(e 1)),(43,(e 0))]) ds W2)) (fun PS W3=>K (.panic PS) (Env.of e [(52,(e 4)),(51,(e 2)),(50,(e 0)),(12,EZ),(11,Fk),(48,EZ),(47,Fk),(42,EG),(46,EG),(45,(e 3)),(44,(e 1)),(43,(e 0))]) ds W3))) (fun Jh W1=>K (.panic Jh) (Env.of e [(45,(e 3)),(44,(e 1)),(43,(e 0))]) ds W1))) K
def Km (ro:Option Nat) (K:AB):AB:=Ag (fun e ds W=>wI (e 40) (AD prog AM 16 [] W (AQ (fun Df dt=>(QH ro K) .ret (Env.of e [(10,Df),(41,Df)]) ds dt) (fun AAq cQ=>(QH ro K) (.panic AAq) e ds cQ))) ((QH ro K) .normal e ds W)) (QH ro K)
theorem ADP (v0 v1 v2 v3 v4:Value) (K:AB) (W:CW):AJ prog AM none 5 168 (AK prog 5) (Env.args [v0,v1,v2,v3,v4]) [] W K=(AD prog AM 13 [v0] W (AQ (fun C5 W28=>wV (KU C5) fun v30=>wI v30 ((Km none K) .normal (Env.of (Env.args [v0,v1,v2,v3,v4]) [(40,(.bool true)),(39,undef),(36,(.bool true)),(38,undef),(36,(.bool true)),(37,undef),(36,(.bool true)),(36,(.bool true)),(35,(.bool true)),(34,undef),(31,(.bool true)),(33,undef),(31,(.bool true)),(32,undef),(31,(.bool true)),(31,v30),(30,v30),(29,C5),(28,v0),(10,(.bool false))]) [] W28) (AD prog AM 15 [v1] W28 (AQ (fun FJ pZ=>wV (KU FJ) fun EH=>wI EH ((Km none K) .normal (Env.of (Env.args [v0,v1,v2,v3,v4]) [(40,(.bool true)),(39,undef),(36,(.bool true)),(38,undef),(36,(.bool true)),(37,undef),(36,(.bool true)),(36,EH),(35,EH),(34,EH),(31,(.bool false)),(33,FJ),(31,(.bool false)),(32,v1),(31,(.bool false)),(31,v30),(30,v30),(29,C5),(28,v0),(10,(.bool false))]) [] pZ) (AD prog AM 15 [v2] pZ (AQ (fun H6 vG=>wV (KU H6) fun H7=>(Km none K) .normal (Env.of (Env.args [v0,v1,v2,v3,v4]) [(40,H7),(39,H7),(36,(.bool false)),(38,H6),(36,(.bool false)),(37,v2),(36,(.bool false)),(36,EH),(35,EH),(34,EH),(31,(.bool false)),(33,FJ),(31,(.bool false)),(32,v1),(31,(.bool false)),(31,v30),(30,v30),(29,C5),(28,v0),(10,(.bool false))]) [] vG) (fun AAr W33=>(Km none K) (.panic AAr) (Env.of (Env.args [v0,v1,v2,v3,v4]) [(36,(.bool false)),(37,v2),(36,(.bool false)),(36,EH),(35,EH),(34,EH),(31,(.bool false)),(33,FJ),(31,(.bool false)),(32,v1),(31,(.bool false)),(31,v30),(30,v30),(29,C5),(28,v0),(10,(.bool false))]) [] W33)))) (fun ADQ SF=>(Km none K) (.panic ADQ) (Env.of (Env.args [v0,v1,v2,v3,v4]) [(31,(.bool false)),(32,v1),(31,(.bool false)),(31,v30),(30,v30),(29,C5),(28,v0),(10,(.bool false))]) [] SF)))) (fun vH gd=>(Km none K) (.panic vH) (Env.of (Env.args [v0,v1,v2,v3,v4]) [(28,v0),(10,(.bool false))]) [] gd))):=by kernel_rfl
theorem m6 (Q:Ending→CW→Prop) (e:Env) (W:CW):AI prog Tryz.f5 Q .ret e [] W=Q (.returned (e 10)) W:=by kernel_rfl
theorem ADR {Q:Ending→CW→Prop} {v0 v1 v2 v3 v4:Value} {W:CW} (h:AJ prog AM none 5 168 (AK prog 5) (Env.args [v0,v1,v2,v3,v4]) [] W (AI prog Tryz.f5 Q)):AD prog AM 5 [v0,v1,v2,v3,v4] W Q:=AX Tryz.func5 (by kernel_rfl) (by kernel_rfl) (by kernel_rfl) (by kernel_rfl) (by kernel_rfl) h
def m8 (ro:Option Nat) (K:AB):AB:=Ag (fun e ds W=>CZ (blt prog .min [3,3] [(e 2),(.int .i64 1)] W) fun JT W8=>K .ret (Env.of e [(8,(.int .i64 0)),(7,JT),(6,(e 12)),(84,JT),(83,(e 2)),(82,(e 12))]) ds W8) K
theorem AAs (v0 v1 v2:Value) (K:AB) (W:CW):AJ prog AM none 21 85 (AK prog 21) (Env.args [v0,v1,v2]) [] W K=(AD prog AM 49 [v0,v1,v2] W (AQ (fun D9 W0=>wV (ext D9 0) fun DP=>wV (ext D9 1) fun DI=>CZ (H2 prog 78 W0) fun v9 W2=>wV (B5 prog 78 v9 DP W2) fun W3=>wV (AH prog .neq 30 true DI (.int .i64 0)) fun Et=>wI Et (K .ret (Env.of (Env.args [v0,v1,v2]) [(8,DI),(7,(.int .i64 0)),(6,(.slice none 0 0)),(27,DI),(26,Et),(25,DI),(10,DI),(9,v9),(24,DI),(23,DP),(18,D9),(22,D9),(21,v2),(20,v1),(19,v0),(8,(.int .i64 0)),(7,(.int .i64 0)),(6,(.slice none 0 0))]) [] W3) (wV (ld prog 78 v9 W3) fun Dx=>wV (Sh prog 131 [(0,Dx),(1,v1)]) fun v30=>AD prog AM 78 [v30,v2] W3 (AQ (fun DY W4=>CZ (H2 prog 89 W4) fun v11 W6=>wV (B5 prog 89 v11 DY W6) fun W7=>wV (ld prog 89 v11 W7) fun FJ=>wV (HV FJ) fun EH=>wV (BD prog 100 EH 0) fun FL=>wV (ld prog 40 FL W7) fun G9=>wV (A8 prog 40 G9 W7) fun F1=>Bj prog AM none 21 85 (.loop (AY prog 21 0)) (Env.of (Env.args [v0,v1,v2]) [(38,(.int .i64 0)),(37,F1),(36,G9),(35,FL),(34,EH),(33,FJ),(12,(.slice none 0 0)),(11,v11),(32,DY),(31,v2),(30,v30),(29,v1),(28,Dx),(26,Et),(25,DI),(10,DI),(9,v9),(24,DI),(23,DP),(18,D9),(22,D9),(21,v2),(20,v1),(19,v0),(8,(.int .i64 0)),(7,(.int .i64 0)),(6,(.slice none 0 0))]) [] W7 (Av 0 (m8 none K))) (fun jL W5=>K (.panic jL) (Env.of (Env.args [v0,v1,v2]) [(31,v2),(30,v30),(29,v1),(28,Dx),(26,Et),(25,DI),(10,DI),(9,v9),(24,DI),(23,DP),(18,D9),(22,D9),(21,v2),(20,v1),(19,v0),(8,(.int .i64 0)),(7,(.int .i64 0)),(6,(.slice none 0 0))]) [] W5)))) (fun Jh W1=>K (.panic Jh) (Env.of (Env.args [v0,v1,v2]) [(21,v2),(20,v1),(19,v0),(8,(.int .i64 0)),(7,(.int .i64 0)),(6,(.slice none 0 0))]) [] W1))):=by kernel_rfl
def YA (ro:Option Nat) (K:AB):AB:=Ag (fun e ds W=>wV (AH prog .add 3 true (e 38) (.int .i64 1)) fun lP=>K .normal (Env.of e [(38,lP),(81,lP)]) ds W) K
def YB (ro:Option Nat) (K:AB):AB:=Ag (fun e ds W=>wV (ld prog 56 (e 15) W) fun KZ=>CZ (Vs prog 24 1 [(0,KZ)] W) fun IG M4=>CZ (app prog [24,24] (e 12) IG M4) fun LB Nj=>(YA ro K) .normal (Env.of e [(12,LB),(80,LB),(79,IG),(78,KZ),(77,(e 12))]) ds Nj) (Av 1 (YA ro K))
theorem vI (ro:Option Nat) (e:Env) (ds:List Deferred) (K:AB) (W:CW):AJ prog AM ro 21 85 (AY prog 21 0) e ds W K=(wV (AH prog .lss 3 false (e 38) (e 37)) fun H7=>wI H7 (wV (Bm prog 40 (e 36) (e 38)) fun EC=>wV (ld prog 3 EC W) fun Df=>wV (AH prog .sub 3 true Df (.int .i64 1)) fun Nl=>wV (Bm prog 24 (e 1) Nl) fun GD=>wV (BD prog 56 GD 0) fun EG=>wV (ld prog 9 EG (W.new (.cells .nil 2 #[.string ⟨#[]⟩,.slice none 0 0] 56))) fun Fk=>wV (AH prog .sub 3 true Df (.int .i64 1)) fun F_=>wV (Bm prog 24 (e 1) F_) fun GF=>wV (BD prog 56 GF 1) fun Hn=>wV (ld prog 40 Hn (W.new (.cells .nil 2 #[.string ⟨#[]⟩,.slice none 0 0] 56))) fun FX=>AD prog AM 79 [FX] (W.new (.cells .nil 2 #[.string ⟨#[]⟩,.slice none 0 0] 56)) (AQ (fun E_ Du=>wV (Sh prog 56 [(0,Fk),(1,E_)]) fun IH=>true=true∧wV (B5 prog 56 (.pointer (some ⟨W.sz,0,none⟩)) IH Du) fun H5=>(((True)∧((True)∧ld prog 40 Hn (W.new (.cells .nil 2 #[.string ⟨#[]⟩,.slice none 0 0] 56))=some FX))∧(((True)∧((ld prog 9 EG Du=some Fk)∧ld prog 9 EG (W.new (.cells .nil 2 #[.string ⟨#[]⟩,.slice none 0 0] 56))=some Fk))∧True))∧(((True)∧((H3 (.pointer (some ⟨W.sz,0,none⟩)) ((W.new (.cells .nil 2 #[.string ⟨#[]⟩,.slice none 0 0] 56)).obj W.sz) Du=true)∧H3 (.pointer (some ⟨W.sz,0,none⟩)) ((W.new (.cells .nil 2 #[.string ⟨#[]⟩,.slice none 0 0] 56)).obj W.sz) (W.new (.cells .nil 2 #[.string ⟨#[]⟩,.slice none 0 0] 56))=true))∧True)∧wV (ld prog 78 (e 9) H5) fun D0=>wV (ld prog 56 (.pointer (some ⟨W.sz,0,none⟩)) H5) fun IU=>AD prog AM 62 [D0,IU] H5 (AQ (fun Ju MQ=>Bj prog AM ro 21 85 (.rangeFunc (.tmp 58) #[59,60] (AU prog 21 0) (AV prog 21 0)) (Env.of e [(58,Ju),(57,IU),(56,D0),(15,(.pointer (some ⟨W.sz,0,none⟩))),(55,IH),(54,E_),(53,FX),(52,Hn),(51,GF),(50,F_),(49,Df),(48,(e 1)),(47,Fk),(46,EG),(45,GD),(44,Nl),(43,Df),(42,(e 1)),(14,Df),(41,Df),(40,EC),(39,H7)]) ds MQ (Av 2 (YB ro K))) (fun jN LI=>(YB ro K) (.panic jN) (Env.of e [(57,IU),(56,D0),(15,(.pointer (some ⟨W.sz,0,none⟩))),(55,IH),(54,E_),(53,FX),(52,Hn),(51,GF),(50,F_),(49,Df),(48,(e 1)),(47,Fk),(46,EG),(45,GD),(44,Nl),(43,Df),(42,(e 1)),(14,Df),(41,Df),(40,EC),(39,H7)]) ds LI))) (fun AAt Il=>False))) (K (.exit 0) (Env.of e [(39,H7)]) ds W)):=by kernel_rfl
theorem vJ (ro:Option Nat) (e:Env) (ds:List Deferred) (K:AB) (W:CW):AJ prog AM ro 21 85 (AU prog 21 0) e ds W K=(K .normal (Env.of e [(17,(e 60)),(16,(e 59))]) ds W):=by kernel_rfl
theorem vK (ro:Option Nat) (e:Env) (ds:List Deferred) (K:AB) (W:CW):AJ prog AM ro 21 85 (AV prog 21 0) e ds W K=(wV (AH prog .eql 5 true (e 17) (.int .u8 2)) fun UH=>wI UH (wV (BD prog 56 (e 15) 1) fun MR=>wV (ld prog 40 MR W) fun Hx=>wV (ld prog 89 (e 11) W) fun IV=>wV (HV IV) fun Nm=>wV (BD prog 100 Nm 1) fun Ji=>wV (ld prog 98 Ji W) fun G8=>wV (BD prog 56 (e 15) 1) fun Jj=>wV (ld prog 40 Jj W) fun M5=>wV (Bm prog 40 M5 (e 16)) fun Vu=>wV (ld prog 3 Vu W) fun MS=>wV (HW prog 98 G8 MS false W) fun Jk=>wV (Bm prog 40 Hx (e 16)) fun MT=>wV (B5 prog 3 MT Jk W) fun Is=>(((True)∧HW prog 98 G8 MS false W=some Jk)∧(((True)∧ld prog 3 Vu W=some MS)∧(((True)∧ld prog 40 Jj W=some M5)∧(((True)∧ld prog 98 Ji W=some G8)∧(((True)∧ld prog 89 (e 11) W=some IV)∧(((True)∧ld prog 40 MR W=some Hx)∧True))))))∧True∧K .normal (Env.of e [(76,MT),(75,Jk),(74,MS),(73,Vu),(72,(e 16)),(71,M5),(70,Jj),(69,G8),(68,Ji),(67,Nm),(66,IV),(65,(e 16)),(64,Hx),(63,MR),(62,UH),(61,(e 17))]) ds Is) (K .normal (Env.of e [(62,UH),(61,(e 17))]) ds W)):=by kernel_rfl
theorem Wc (Q:Ending→CW→Prop) (e:Env) (W:CW):AI prog Tryz.f21 Q .ret e [] W=Q (.returned (.tuple #[e 6,e 7,e 8])) W:=by kernel_rfl
theorem AAu {Q:Ending→CW→Prop} {v0 v1 v2:Value} {W:CW} (h:AJ prog AM none 21 85 (AK prog 21) (Env.args [v0,v1,v2]) [] W (AI prog Tryz.f21 Q)):AD prog AM 21 [v0,v1,v2] W Q:=AX Tryz.func21 (by kernel_rfl) (by kernel_rfl) (by kernel_rfl) (by kernel_rfl) (by kernel_rfl) h
end Go.Ce
namespace Go.Ce
open Go Go.Proofs Go.Proofs.Tryz
theorem AAv (v0 v1 v2:Value) (K:AB) (W:CW):AJ prog AM none 22 30 (AK prog 22) (Env.args [v0,v1,v2]) [] W K=(AD prog AM 49 [v0,v1,v2] W (AQ (fun Bu W0=>wV (ext Bu 0) fun Bh=>wV (ext Bu 1) fun CI=>CZ (H2 prog 78 W0) fun v8 W2=>wV (B5 prog 78 v8 Bh W2) fun W3=>wV (AH prog .neq 30 true CI (.int .i64 0)) fun DE=>wI DE (K .ret (Env.of (Env.args [v0,v1,v2]) [(7,CI),(6,(.slice none 0 0)),(19,CI),(18,DE),(17,CI),(9,CI),(8,v8),(16,CI),(15,Bh),(10,Bu),(14,Bu),(13,v2),(12,v1),(11,v0),(7,(.int .i64 0)),(6,(.slice none 0 0))]) [] W3) (wV (ld prog 78 v8 W3) fun v20=>wV (Sh prog 131 [(0,v20),(1,v1)]) fun D9=>AD prog AM 78 [D9,v2] W3 (AQ (fun DI W4=>wV (HV DI) fun DZ=>wV (BD prog 100 DZ 0) fun Et=>wV (ld prog 40 Et W4) fun Dv=>AD prog AM 81 [Dv] W4 (AQ (fun Dx W6=>AD prog AM 80 [Dx] W6 (AQ (fun C5 W8=>K .ret (Env.of (Env.args [v0,v1,v2]) [(7,(.int .i64 0)),(6,C5),(29,C5),(28,Dx),(27,Dv),(26,Et),(25,DZ),(24,DI),(23,v2),(22,D9),(21,v1),(20,v20),(18,DE),(17,CI),(9,CI),(8,v8),(16,CI),(15,Bh),(10,Bu),(14,Bu),(13,v2),(12,v1),(11,v0),(7,(.int .i64 0)),(6,(.slice none 0 0))]) [] W8) (fun lN W9=>K (.panic lN) (Env.of (Env.args [v0,v1,v2]) [(28,Dx),(27,Dv),(26,Et),(25,DZ),(24,DI),(23,v2),(22,D9),(21,v1),(20,v20),(18,DE),(17,CI),(9,CI),(8,v8),(16,CI),(15,Bh),(10,Bu),(14,Bu),(13,v2),(12,v1),(11,v0),(7,(.int .i64 0)),(6,(.slice none 0 0))]) [] W9))) (fun qi W7=>K (.panic qi) (Env.of (Env.args [v0,v1,v2]) [(27,Dv),(26,Et),(25,DZ),(24,DI),(23,v2),(22,D9),(21,v1),(20,v20),(18,DE),(17,CI),(9,CI),(8,v8),(16,CI),(15,Bh),(10,Bu),(14,Bu),(13,v2),(12,v1),(11,v0),(7,(.int .i64 0)),(6,(.slice none 0 0))]) [] W7))) (fun jL W5=>K (.panic jL) (Env.of (Env.args [v0,v1,v2]) [(23,v2),(22,D9),(21,v1),(20,v20),(18,DE),(17,CI),(9,CI),(8,v8),(16,CI),(15,Bh),(10,Bu),(14,Bu),(13,v2),(12,v1),(11,v0),(7,(.int .i64 0)),(6,(.slice none 0 0))]) [] W5)))) (fun Jh W1=>K (.panic Jh) (Env.of (Env.args [v0,v1,v2]) [(13,v2),(12,v1),(11,v0),(7,(.int .i64 0)),(6,(.slice none 0 0))]) [] W1))):=by kernel_rfl
theorem Wd (Q:Ending→CW→Prop) (e:Env) (W:CW):AI prog Tryz.f22 Q .ret e [] W=Q (.returned (.tuple #[e 6,e 7])) W:=by kernel_rfl
theorem AAw {Q:Ending→CW→Prop} {v0 v1 v2:Value} {W:CW} (h:AJ prog AM none 22 30 (AK prog 22) (Env.args [v0,v1,v2]) [] W (AI prog Tryz.f22 Q)):AD prog AM 22 [v0,v1,v2] W Q:=AX Tryz.func22 (by kernel_rfl) (by kernel_rfl) (by kernel_rfl) (by kernel_rfl) (by kernel_rfl) h
theorem AAx (v0:Value) (K:AB) (W:CW):AJ prog AM none 80 9 (AK prog 80) (Env.args [v0]) [] W K=(AD prog AM 112 [v0] W (AQ (fun v5 W0=>AD prog AM 113 [v5] W0 (AQ (fun v7 W2=>K .ret (Env.of (Env.args [v0]) [(2,v5),(8,v5),(7,v7),(6,v5),(3,v5),(5,v5),(4,v0),(2,(.slice none 0 0))]) [] W2) (fun PS W3=>K (.panic PS) (Env.of (Env.args [v0]) [(6,v5),(3,v5),(5,v5),(4,v0),(2,(.slice none 0 0))]) [] W3))) (fun Jh W1=>K (.panic Jh) (Env.of (Env.args [v0]) [(4,v0),(2,(.slice none 0 0))]) [] W1))):=by kernel_rfl
theorem Wf (Q:Ending→CW→Prop) (e:Env) (W:CW):AI prog Tryz.f80 Q .ret e [] W=Q (.returned (e 2)) W:=by kernel_rfl
theorem AAy {Q:Ending→CW→Prop} {v0:Value} {W:CW} (h:AJ prog AM none 80 9 (AK prog 80) (Env.args [v0]) [] W (AI prog Tryz.f80 Q)):AD prog AM 80 [v0] W Q:=AX Tryz.func80 (by kernel_rfl) (by kernel_rfl) (by kernel_rfl) (by kernel_rfl) (by kernel_rfl) h
theorem AAz (v0:Value) (K:AB) (W:CW):AJ prog AM none 81 4 (AK prog 81) (Env.args [v0]) [] W K=(CZ (SZ prog 40 v0 W) fun v1 W0=>wV (some (.func (.func 114) #[] #[v1])) fun v3=>K .ret (Env.of (Env.args [v0]) [(2,v3),(3,v3),(2,(.nilFunc)),(1,v1)]) [] W0):=by kernel_rfl
theorem jO (Q:Ending→CW→Prop) (e:Env) (W:CW):AI prog Tryz.f81 Q .ret e [] W=Q (.returned (e 2)) W:=by kernel_rfl
theorem AA0 {Q:Ending→CW→Prop} {v0:Value} {W:CW} (h:AJ prog AM none 81 4 (AK prog 81) (Env.args [v0]) [] W (AI prog Tryz.f81 Q)):AD prog AM 81 [v0] W Q:=AX Tryz.func81 (by kernel_rfl) (by kernel_rfl) (by kernel_rfl) (by kernel_rfl) (by kernel_rfl) h
theorem vM (v0:Value) (K:AB) (W:CW):AJ prog AM none 112 5 (AK prog 112) (Env.args [v0]) [] W K=(AD prog AM 127 [(.slice none 0 0),v0] W (AQ (fun v4 W0=>K .ret (Env.of (Env.args [v0]) [(2,v4),(4,v4),(3,v0),(2,(.slice none 0 0))]) [] W0) (fun Jh W1=>K (.panic Jh) (Env.of (Env.args [v0]) [(3,v0),(2,(.slice none 0 0))]) [] W1))):=by kernel_rfl
theorem du (Q:Ending→CW→Prop) (e:Env) (W:CW):AI prog Tryz.f112 Q .ret e [] W=Q (.returned (e 2)) W:=by kernel_rfl
theorem vN {Q:Ending→CW→Prop} {v0:Value} {W:CW} (h:AJ prog AM none 112 5 (AK prog 112) (Env.args [v0]) [] W (AI prog Tryz.f112 Q)):AD prog AM 112 [v0] W Q:=AX Tryz.func112 (by kernel_rfl) (by kernel_rfl) (by kernel_rfl) (by kernel_rfl) (by kernel_rfl) h
theorem m9 (v0:Value) (K:AB) (W:CW):AJ prog AM none 113 11 (AK prog 113) (Env.args [v0]) [] W K=(wV (A8 prog 40 v0 W) fun v4=>wV (cO prog 3 164 v4) fun v8=>AD prog AM 116 [v8] W (AQ (fun v9 W0=>AD prog AM 128 [v0,(.int .i64 0),v4,v9] W0 (AQ (fun v10 W2=>K .normal (Env.of (Env.args [v0]) [(10,v10),(9,v9),(8,v8),(7,v4),(6,v4),(5,v0),(2,v4),(4,v4),(3,v0)]) [] W2) (fun PS W3=>K (.panic PS) (Env.of (Env.args [v0]) [(9,v9),(8,v8),(7,v4),(6,v4),(5,v0),(2,v4),(4,v4),(3,v0)]) [] W3))) (fun Jh W1=>K (.panic Jh) (Env.of (Env.args [v0]) [(8,v8),(7,v4),(6,v4),(5,v0),(2,v4),(4,v4),(3,v0)]) [] W1))):=by kernel_rfl
theorem m_ {Q:Ending→CW→Prop} {v0:Value} {W:CW} (h:AJ prog AM none 113 11 (AK prog 113) (Env.args [v0]) [] W (AI prog Tryz.f113 Q)):AD prog AM 113 [v0] W Q:=AX Tryz.func113 (by kernel_rfl) (by kernel_rfl) (by kernel_rfl) (by kernel_rfl) (by kernel_rfl) h
theorem vO (v0 v1:Value) (K:AB) (W:CW):AJ prog AM none 114 16 (AK prog 114) (Env.args [v0,v1]) [] W K=(wV (ld prog 40 v1 W) fun v5=>wV (A8 prog 40 v5 W) fun v6=>Bj prog AM none 114 16 (.loop (AY prog 114 0)) (Env.of (Env.args [v0,v1]) [(7,(.int .i64 0)),(6,v6),(5,v5)]) [] W (Av 0 K)):=by kernel_rfl
def St (ro:Option Nat) (K:AB):AB:=Ag (fun e ds W=>wV (AH prog .add 3 true (e 7) (.int .i64 1)) fun Bh=>K .normal (Env.of e [(7,Bh),(15,Bh)]) ds W) K
theorem qj (ro:Option Nat) (e:Env) (ds:List Deferred) (K:AB) (W:CW):AJ prog AM ro 114 16 (AY prog 114 0) e ds W K=(wV (AH prog .lss 3 false (e 7) (e 6)) fun v8=>wI v8 (wV (Bm prog 40 (e 5) (e 7)) fun v9=>wV (ld prog 3 v9 W) fun v10=>Ej prog AM (e 0) [v10] W (fun C2 W1=>wV (KU C2) fun Bu=>wI Bu ((St ro K) .ret (Env.of e [(14,Bu),(13,C2),(12,v10),(11,(e 0)),(4,v10),(10,v10),(9,v9),(8,v8)]) ds W1) ((St ro K) .normal (Env.of e [(14,Bu),(13,C2),(12,v10),(11,(e 0)),(4,v10),(10,v10),(9,v9),(8,v8)]) ds W1)) (fun dw W2=>(St ro K) (.panic dw) (Env.of e [(12,v10),(11,(e 0)),(4,v10),(10,v10),(9,v9),(8,v8)]) ds W2)) (K (.exit 0) (Env.of e [(8,v8)]) ds W)):=by kernel_rfl
theorem vP {Q:Ending→CW→Prop} {v0 v1:Value} {W:CW} (h:AJ prog AM none 114 16 (AK prog 114) (Env.args [v0,v1]) [] W (AI prog Tryz.f114 Q)):AD prog AM 114 [v0,v1] W Q:=AX Tryz.func114 (by kernel_rfl) (by kernel_rfl) (by kernel_rfl) (by kernel_rfl) (by kernel_rfl) h
def gf (ro:Option Nat) (K:AB):AB:=Ag (fun e ds W=>wV (ld prog 40 (e 2) W) fun CV=>K .ret (Env.of e [(4,CV),(12,CV)]) ds W) K
theorem vQ (v0 v1:Value) (K:AB) (W:CW):AJ prog AM none 127 13 (AK prog 127) (Env.args [v0,v1]) [] W K=(CZ (SZ prog 40 v0 W) fun v2 W0=>Bj prog AM none 127 13 (.rangeFunc (.tmp 6) #[7] (AU prog 127 0) (AV prog 127 0)) (Env.of (Env.args [v0,v1]) [(6,v1),(4,(.slice none 0 0)),(2,v2)]) [] W0 (Av 0 (gf none K))):=by kernel_rfl
theorem ql (ro:Option Nat) (e:Env) (ds:List Deferred) (K:AB) (W:CW):AJ prog AM ro 127 13 (AU prog 127 0) e ds W K=(K .normal (Env.of e [(5,(e 7))]) ds W):=by kernel_rfl
theorem qn (ro:Option Nat) (e:Env) (ds:List Deferred) (K:AB) (W:CW):AJ prog AM ro 127 13 (AV prog 127 0) e ds W K=(wV (ld prog 40 (e 2) W) fun v8=>CZ (Vs prog 40 1 [(0,(e 5))] W) fun v10 W2=>CZ (app prog [40,40] v8 v10 W2) fun v11 W3=>wV (B5 prog 40 (e 2) v11 W3) fun W4=>K .normal (Env.of e [(11,v11),(10,v10),(9,(e 5)),(8,v8)]) ds W4):=by kernel_rfl
theorem dz (Q:Ending→CW→Prop) (e:Env) (W:CW):AI prog Tryz.f127 Q .ret e [] W=Q (.returned (e 4)) W:=by kernel_rfl
theorem vR {Q:Ending→CW→Prop} {v0 v1:Value} {W:CW} (h:AJ prog AM none 127 13 (AK prog 127) (Env.args [v0,v1]) [] W (AI prog Tryz.f127 Q)):AD prog AM 127 [v0,v1] W Q:=AX Tryz.func127 (by kernel_rfl) (by kernel_rfl) (by kernel_rfl) (by kernel_rfl) (by kernel_rfl) h
theorem vS (v0:Value) (K:AB) (W:CW):AJ prog AM none 116 8 (AK prog 116) (Env.args [v0]) [] W K=(AD prog AM 139 [v0] W (AQ (fun v7 W0=>K .ret (Env.of (Env.args [v0]) [(2,v7),(7,v7),(6,v0),(2,(.int .i64 0))]) [] W0) (fun Jh W1=>K (.panic Jh) (Env.of (Env.args [v0]) [(6,v0),(2,(.int .i64 0))]) [] W1))):=by kernel_rfl
theorem d_ (Q:Ending→CW→Prop) (e:Env) (W:CW):AI prog Tryz.f116 Q .ret e [] W=Q (.returned (e 2)) W:=by kernel_rfl
theorem vT {Q:Ending→CW→Prop} {v0:Value} {W:CW} (h:AJ prog AM none 116 8 (AK prog 116) (Env.args [v0]) [] W (AI prog Tryz.f116 Q)):AD prog AM 116 [v0] W Q:=AX Tryz.func116 (by kernel_rfl) (by kernel_rfl) (by kernel_rfl) (by kernel_rfl) (by kernel_rfl) h
def YC (ro:Option Nat) (K:AB):AB:=Ag (fun e ds W=>wV (cO prog 197 5 (e 0)) fun DQ=>wV (idx prog 9 (.string ⟨#[0,1,2,2,3,3,3,3,4,4,4,4,4,4,4,4,5,5,5,5,5,5,5,5,5,5,5,5,5,5,5,5,6,6,6,6,6,6,6,6,6,6,6,6,6,6,6,6,6,6,6,6,6,6,6,6,6,6,6,6,6,6,6,6,7,7,7,7,7,7,7,7,7,7,7,7,7,7,7,7,7,7,7,7,7,7,7,7,7,7,7,7,7,7,7,7,7,7,7,7,7,7,7,7,7,7,7,7,7,7,7,7,7,7,7,7,7,7,7,7,7,7,7,7,7,7,7,7,8,8,8,8,8,8,8,8,8,8,8,8,8,8,8,8,8,8,8,8,8,8,8,8,8,8,8,8,8,8,8,8,8,8,8,8,8,8,8,8,8,8,8,8,8,8,8,8,8,8,8,8,8,8,8,8,8,8,8,8,8,8,8,8,8,8,8,8,8,8,8,8,8,8,8,8,8,8,8,8,8,8,8,8,8,8,8,8,8,8,8,8,8,8,8,8,8,8,8,8,8,8,8,8,8,8,8,8,8,8,8,8,8,8,8,8,8,8,8,8,8,8,8,8,8,8,8,8]⟩) DQ) fun D9=>wV (cO prog 5 3 D9) fun DP=>wV (AH prog .add 3 false (e 2) DP) fun DI=>K .ret (Env.of e [(2,DI),(24,DI),(23,DP),(22,D9),(21,DQ),(20,(e 0)),(19,(e 2))]) ds W) K
def YD (ro:Option Nat) (K:AB):AB:=Ag (fun e ds W=>wV (AH prog .geq 197 true (e 0) (.int .u64 256)) fun Bu=>wI Bu (wV (AH prog .shr 197 true (e 0) (.int .u64 8)) fun CI=>wV (AH prog .add 3 true (e 2) (.int .i64 8)) fun DE=>(YC ro K) .normal (Env.of e [(2,DE),(18,DE),(17,(e 2)),(0,CI),(16,CI),(15,(e 0)),(14,Bu),(13,(e 0))]) ds W) ((YC ro K) .normal (Env.of e [(14,Bu),(13,(e 0))]) ds W)) K
def YE (ro:Option Nat) (K:AB):AB:=Ag (fun e ds W=>wV (AH prog .geq 197 true (e 0) (.int .u64 65536)) fun v8=>wI v8 (wV (AH prog .shr 197 true (e 0) (.int .u64 16)) fun v10=>wV (AH prog .add 3 true (e 2) (.int .i64 16)) fun CV=>(YD ro K) .normal (Env.of e [(2,CV),(12,CV),(11,(e 2)),(0,v10),(10,v10),(9,(e 0)),(8,v8),(7,(e 0))]) ds W) ((YD ro K) .normal (Env.of e [(8,v8),(7,(e 0))]) ds W)) K
theorem vU (v0:Value) (K:AB) (W:CW):AJ prog AM none 139 25 (AK prog 139) (Env.args [v0]) [] W K=(wV (AH prog .geq 197 true v0 (.int .u64 4294967296)) fun v4=>wI v4 (wV (AH prog .shr 197 true v0 (.int .u64 32)) fun v6=>(YE none K) .normal (Env.of (Env.args [v0]) [(2,(.int .i64 32)),(0,v6),(6,v6),(5,v0),(4,v4),(3,v0),(2,(.int .i64 0))]) [] W) ((YE none K) .normal (Env.of (Env.args [v0]) [(4,v4),(3,v0),(2,(.int .i64 0))]) [] W)):=by kernel_rfl
theorem eC (Q:Ending→CW→Prop) (e:Env) (W:CW):AI prog Tryz.f139 Q .ret e [] W=Q (.returned (e 2)) W:=by kernel_rfl
theorem vV {Q:Ending→CW→Prop} {v0:Value} {W:CW} (h:AJ prog AM none 139 25 (AK prog 139) (Env.args [v0]) [] W (AI prog Tryz.f139 Q)):AD prog AM 139 [v0] W Q:=AX Tryz.func139 (by kernel_rfl) (by kernel_rfl) (by kernel_rfl) (by kernel_rfl) (by kernel_rfl) h
def MU (ro:Option Nat) (K:AB):AB:=Ag (fun e ds W=>K .ret e ds W) K
theorem vW (v0 v1:Value) (K:AB) (W:CW):AJ prog AM none 147 17 (AK prog 147) (Env.args [v0,v1]) [] W K=(AD prog AM 159 [v0] W (AQ (fun v6 W1=>wI v6 (AD prog AM 159 [v1] W1 (AQ (fun v9 W3=>wV (KU v9) fun v10=>wI v10 ((MU none K) .normal (Env.of (Env.args [v0,v1]) [(4,(.bool true)),(16,(.bool true)),(15,undef),(12,(.bool true)),(14,undef),(12,(.bool true)),(13,undef),(12,(.bool true)),(12,v10),(11,v10),(10,v10),(7,(.bool true)),(9,v9),(7,(.bool true)),(8,v1),(7,(.bool true)),(7,v6),(6,v6),(5,v0),(4,(.bool false))]) [] W3) (wV (AH prog .lss 3 false v0 v1) fun Bh=>(MU none K) .normal (Env.of (Env.args [v0,v1]) [(4,Bh),(16,Bh),(15,Bh),(12,(.bool false)),(14,v1),(12,(.bool false)),(13,v0),(12,(.bool false)),(12,v10),(11,v10),(10,v10),(7,(.bool true)),(9,v9),(7,(.bool true)),(8,v1),(7,(.bool true)),(7,v6),(6,v6),(5,v0),(4,(.bool false))]) [] W3)) (fun zr W4=>(MU none K) (.panic zr) (Env.of (Env.args [v0,v1]) [(7,(.bool true)),(8,v1),(7,(.bool true)),(7,v6),(6,v6),(5,v0),(4,(.bool false))]) [] W4))) (wV (AH prog .lss 3 false v0 v1) fun Bh=>(MU none K) .normal (Env.of (Env.args [v0,v1]) [(4,Bh),(16,Bh),(15,Bh),(12,(.bool false)),(14,v1),(12,(.bool false)),(13,v0),(12,(.bool false)),(12,(.bool false)),(11,(.bool false)),(10,undef),(7,(.bool false)),(9,undef),(7,(.bool false)),(8,undef),(7,(.bool false)),(7,v6),(6,v6),(5,v0),(4,(.bool false))]) [] W1)) (fun dw W2=>(MU none K) (.panic dw) (Env.of (Env.args [v0,v1]) [(5,v0),(4,(.bool false))]) [] W2))):=by kernel_rfl
theorem eD (Q:Ending→CW→Prop) (e:Env) (W:CW):AI prog Tryz.f147 Q .ret e [] W=Q (.returned (e 4)) W:=by kernel_rfl
theorem vX {Q:Ending→CW→Prop} {v0 v1:Value} {W:CW} (h:AJ prog AM none 147 17 (AK prog 147) (Env.args [v0,v1]) [] W (AI prog Tryz.f147 Q)):AD prog AM 147 [v0,v1] W Q:=AX Tryz.func147 (by kernel_rfl) (by kernel_rfl) (by kernel_rfl) (by kernel_rfl) (by kernel_rfl) h
theorem vY (v0:Value) (K:AB) (W:CW):AJ prog AM none 159 6 (AK prog 159) (Env.args [v0]) [] W K=(wV (AH prog .neq 3 false v0 v0) fun v5=>K .ret (Env.of (Env.args [v0]) [(2,v5),(5,v5),(4,v0),(3,v0),(2,(.bool false))]) [] W):=by kernel_rfl
theorem eE (Q:Ending→CW→Prop) (e:Env) (W:CW):AI prog Tryz.f159 Q .ret e [] W=Q (.returned (e 2)) W:=by kernel_rfl
theorem vZ {Q:Ending→CW→Prop} {v0:Value} {W:CW} (h:AJ prog AM none 159 6 (AK prog 159) (Env.args [v0]) [] W (AI prog Tryz.f159 Q)):AD prog AM 159 [v0] W Q:=AX Tryz.func159 (by kernel_rfl) (by kernel_rfl) (by kernel_rfl) (by kernel_rfl) (by kernel_rfl) h
end Go.Ce
namespace Go.Ce
open Go Go.Proofs Go.Proofs.Tryz
theorem nA (v0 v1 v2 v3:Value) (K:AB) (W:CW):AJ prog AM none 128 134 (AK prog 128) (Env.args [v0,v1,v2,v3]) [] W K=(Bj prog AM none 128 134 (.loop (AY prog 128 0)) (Env.of (Env.args [v0,v1,v2,v3]) [(9,(.bool true)),(8,(.bool true))]) [] W (Av 0 K)):=by kernel_rfl
def IW (ro:Option Nat) (K:AB):AB:=Ag (fun e ds W=>AD prog AM 149 [(e 0),(e 1),(e 2),(e 11)] W (AQ (fun UI W6=>wV (ext UI 0) fun Dd=>wV (ext UI 1) fun DC=>wV (AH prog .sub 3 false Dd (e 1)) fun Gw=>wV (AH prog .sub 3 false (e 2) Dd) fun Bc=>wV (AH prog .quo 3 true (e 10) (.int .i64 8)) fun CG=>wV (AH prog .lss 3 false Gw Bc) fun Ho=>wI Ho (wV (AH prog .geq 3 false Gw CG) fun Dc=>AD prog AM 128 [(e 0),(e 1),Dd,(e 3)] W6 (AQ (fun Kn W8=>wV (AH prog .add 3 true Dd (.int .i64 1)) fun OY=>K .normal (Env.of e [(1,OY),(123,OY),(122,Dd),(121,Kn),(120,(e 3)),(119,Dd),(118,(e 1)),(117,(e 0)),(8,Dc),(116,Dc),(115,CG),(114,Gw),(113,Ho),(112,Bc),(111,Gw),(18,CG),(110,CG),(109,(e 10)),(17,Bc),(16,Gw),(108,Bc),(107,Dd),(106,(e 2)),(105,Gw),(104,(e 1)),(103,Dd),(9,DC),(102,DC),(15,DC),(14,Dd),(101,DC),(100,Dd),(94,UI),(99,UI),(98,(e 11)),(97,(e 2)),(96,(e 1)),(95,(e 0))]) ds W8) (fun lN W9=>K (.panic lN) (Env.of e [(120,(e 3)),(119,Dd),(118,(e 1)),(117,(e 0)),(8,Dc),(116,Dc),(115,CG),(114,Gw),(113,Ho),(112,Bc),(111,Gw),(18,CG),(110,CG),(109,(e 10)),(17,Bc),(16,Gw),(108,Bc),(107,Dd),(106,(e 2)),(105,Gw),(104,(e 1)),(103,Dd),(9,DC),(102,DC),(15,DC),(14,Dd),(101,DC),(100,Dd),(94,UI),(99,UI),(98,(e 11)),(97,(e 2)),(96,(e 1)),(95,(e 0))]) ds W9))) (wV (AH prog .geq 3 false Bc CG) fun DV=>wV (AH prog .add 3 true Dd (.int .i64 1)) fun OZ=>AD prog AM 128 [(e 0),OZ,(e 2),(e 3)] W6 (AQ (fun Hm Rq=>K .normal (Env.of e [(2,Dd),(133,Dd),(132,Hm),(131,(e 3)),(130,(e 2)),(129,OZ),(128,Dd),(127,(e 0)),(8,DV),(126,DV),(125,CG),(124,Bc),(113,Ho),(112,Bc),(111,Gw),(18,CG),(110,CG),(109,(e 10)),(17,Bc),(16,Gw),(108,Bc),(107,Dd),(106,(e 2)),(105,Gw),(104,(e 1)),(103,Dd),(9,DC),(102,DC),(15,DC),(14,Dd),(101,DC),(100,Dd),(94,UI),(99,UI),(98,(e 11)),(97,(e 2)),(96,(e 1)),(95,(e 0))]) ds Rq) (fun qh Du=>K (.panic qh) (Env.of e [(131,(e 3)),(130,(e 2)),(129,OZ),(128,Dd),(127,(e 0)),(8,DV),(126,DV),(125,CG),(124,Bc),(113,Ho),(112,Bc),(111,Gw),(18,CG),(110,CG),(109,(e 10)),(17,Bc),(16,Gw),(108,Bc),(107,Dd),(106,(e 2)),(105,Gw),(104,(e 1)),(103,Dd),(9,DC),(102,DC),(15,DC),(14,Dd),(101,DC),(100,Dd),(94,UI),(99,UI),(98,(e 11)),(97,(e 2)),(96,(e 1)),(95,(e 0))]) ds Du)))) (fun qi W7=>K (.panic qi) (Env.of e [(98,(e 11)),(97,(e 2)),(96,(e 1)),(95,(e 0))]) ds W7))) (Av 1 K)
def Oa (ro:Option Nat) (K:AB):AB:=Ag (fun e ds W=>wI (e 87) (AD prog AM 148 [(e 0),(e 1),(e 2),(e 11)] W (AQ (fun QI H5=>(IW ro K) (.exit 1) (Env.of e [(1,QI),(93,QI),(13,QI),(92,QI),(91,(e 11)),(90,(e 2)),(89,(e 1)),(88,(e 0))]) ds H5) (fun qo M4=>(IW ro K) (.panic qo) (Env.of e [(91,(e 11)),(90,(e 2)),(89,(e 1)),(88,(e 0))]) ds M4))) ((IW ro K) .normal e ds W)) (IW ro K)
def HK (ro:Option Nat) (K:AB):AB:=Ag (fun e ds W=>wV (AH prog .gtr 3 true (e 1) (.int .i64 0)) fun MS=>wI MS (wV (AH prog .sub 3 true (e 1) (.int .i64 1)) fun KZ=>wV (Bm prog 40 (e 0) KZ) fun IG=>wV (ld prog 3 IG W) fun LB=>wV (Bm prog 40 (e 0) (e 11)) fun cR=>wV (ld prog 3 cR W) fun JT=>AD prog AM 147 [LB,JT] W (AQ (fun PT CQ=>wV (KU PT) fun PU=>(((True)∧ld prog 3 cR W=some JT)∧(((True)∧ld prog 3 IG W=some LB)∧True))∧True∧(Oa ro K) .normal (Env.of e [(87,PU),(86,PU),(75,(.bool true)),(85,PT),(75,(.bool true)),(84,JT),(75,(.bool true)),(83,cR),(75,(.bool true)),(82,(e 11)),(75,(.bool true)),(81,(e 0)),(75,(.bool true)),(80,LB),(75,(.bool true)),(79,IG),(75,(.bool true)),(78,KZ),(75,(.bool true)),(77,(e 1)),(75,(.bool true)),(76,(e 0)),(75,(.bool true)),(75,MS),(74,MS),(73,(e 1))]) ds CQ) (fun AA1 MQ=>False))) (True∧True∧(Oa ro K) .normal (Env.of e [(87,(.bool false)),(86,undef),(75,(.bool false)),(85,undef),(75,(.bool false)),(84,undef),(75,(.bool false)),(83,undef),(75,(.bool false)),(82,undef),(75,(.bool false)),(81,undef),(75,(.bool false)),(80,undef),(75,(.bool false)),(79,undef),(75,(.bool false)),(78,undef),(75,(.bool false)),(77,undef),(75,(.bool false)),(76,undef),(75,(.bool false)),(75,MS),(74,MS),(73,(e 1))]) ds W)) (Av 1 K)
def Lq (ro:Option Nat) (K:AB):AB:=Ag (fun e ds W=>wI (e 68) (AD prog AM 146 [(e 0),(e 1),(e 2)] W (AQ (fun JU Is=>wI JU ((HK ro K) .ret (Env.of e [(72,JU),(71,(e 2)),(70,(e 1)),(69,(e 0))]) ds Is) ((HK ro K) .normal (Env.of e [(72,JU),(71,(e 2)),(70,(e 1)),(69,(e 0))]) ds Is)) (fun eF Nk=>(HK ro K) (.panic eF) (Env.of e [(71,(e 2)),(70,(e 1)),(69,(e 0))]) ds Nk))) ((HK ro K) .normal e ds W)) (HK ro K)
def Lr (ro:Option Nat) (K:AB):AB:=Ag (fun e ds W=>wI (e 8) (wI (e 9) (wV (AH prog .eql 186 true (e 12) (.int .i64 1)) fun Nm=>(Lq ro K) .normal (Env.of e [(68,Nm),(67,Nm),(65,(.bool true)),(66,(e 12)),(65,(.bool true)),(65,(e 9)),(64,(e 9)),(63,(e 9)),(62,(.bool true)),(62,(e 8)),(61,(e 8))]) ds W) ((Lq ro K) .normal (Env.of e [(68,(.bool false)),(67,undef),(65,(.bool false)),(66,undef),(65,(.bool false)),(65,(e 9)),(64,(e 9)),(63,(e 9)),(62,(.bool true)),(62,(e 8)),(61,(e 8))]) ds W)) ((Lq ro K) .normal (Env.of e [(68,(.bool false)),(67,undef),(65,(.bool false)),(66,undef),(65,(.bool false)),(65,(.bool false)),(64,(.bool false)),(63,undef),(62,(.bool false)),(62,(e 8)),(61,(e 8))]) ds W)) (Av 1 K)
def Ls (ro:Option Nat) (K:AB):AB:=Ag (fun e ds W=>AD prog AM 144 [(e 0),(e 1),(e 2)] W (AQ (fun EG W4=>wV (ext EG 0) fun Fk=>wV (ext EG 1) fun EZ=>wV (AH prog .eql 186 true EZ (.int .i64 2)) fun F_=>wI F_ (AD prog AM 145 [(e 0),(e 1),(e 2)] W4 (AQ (fun E_ qp=>wV (AH prog .sub 3 true (e 2) (.int .i64 1)) fun D0=>wV (AH prog .sub 3 false Fk (e 1)) fun Ko=>wV (AH prog .sub 3 false D0 Ko) fun GN=>(Lr ro K) .normal (Env.of e [(12,(.int .i64 1)),(11,GN),(60,GN),(59,Ko),(58,(e 1)),(57,Fk),(56,D0),(55,(e 2)),(54,E_),(53,(e 2)),(52,(e 1)),(51,(e 0)),(50,F_),(49,EZ),(12,EZ),(11,Fk),(48,EZ),(47,Fk),(42,EG),(46,EG),(45,(e 2)),(44,(e 1)),(43,(e 0))]) ds qp) (fun ADS nB=>(Lr ro K) (.panic ADS) (Env.of e [(53,(e 2)),(52,(e 1)),(51,(e 0)),(50,F_),(49,EZ),(12,EZ),(11,Fk),(48,EZ),(47,Fk),(42,EG),(46,EG),(45,(e 2)),(44,(e 1)),(43,(e 0))]) ds nB))) ((Lr ro K) .normal (Env.of e [(50,F_),(49,EZ),(12,EZ),(11,Fk),(48,EZ),(47,Fk),(42,EG),(46,EG),(45,(e 2)),(44,(e 1)),(43,(e 0))]) ds W4)) (fun jL W5=>K (.panic jL) (Env.of e [(45,(e 2)),(44,(e 1)),(43,(e 0))]) ds W5))) (Av 1 K)
theorem gg (ro:Option Nat) (e:Env) (ds:List Deferred) (K:AB) (W:CW):AJ prog AM ro 128 134 (AY prog 128 0) e ds W K=(wV (AH prog .sub 3 false (e 2) (e 1)) fun DQ=>wV (AH prog .leq 3 true DQ (.int .i64 12)) fun DP=>wI DP (AD prog AM 141 [(e 0),(e 1),(e 2)] W (AQ (fun Dv W0=>K .ret (Env.of e [(27,Dv),(26,(e 2)),(25,(e 1)),(24,(e 0)),(23,DP),(22,DQ),(10,DQ),(21,DQ),(20,(e 1)),(19,(e 2))]) ds W0) (fun Jh W1=>K (.panic Jh) (Env.of e [(26,(e 2)),(25,(e 1)),(24,(e 0)),(23,DP),(22,DQ),(10,DQ),(21,DQ),(20,(e 1)),(19,(e 2))]) ds W1))) (wV (AH prog .eql 3 true (e 3) (.int .i64 0)) fun C5=>wI C5 (AD prog AM 142 [(e 0),(e 1),(e 2)] W (AQ (fun FJ W2=>K .ret (Env.of e [(33,FJ),(32,(e 2)),(31,(e 1)),(30,(e 0)),(29,C5),(28,(e 3)),(23,DP),(22,DQ),(10,DQ),(21,DQ),(20,(e 1)),(19,(e 2))]) ds W2) (fun PS W3=>K (.panic PS) (Env.of e [(32,(e 2)),(31,(e 1)),(30,(e 0)),(29,C5),(28,(e 3)),(23,DP),(22,DQ),(10,DQ),(21,DQ),(20,(e 1)),(19,(e 2))]) ds W3))) (wV (KU (e 8)) fun FL=>wI FL (AD prog AM 143 [(e 0),(e 1),(e 2)] W (AQ (fun H7 cQ=>wV (AH prog .sub 3 true (e 3) (.int .i64 1)) fun Df=>(Ls ro K) .normal (Env.of e [(3,Df),(41,Df),(40,(e 3)),(39,H7),(38,(e 2)),(37,(e 1)),(36,(e 0)),(35,FL),(34,(e 8)),(29,C5),(28,(e 3)),(23,DP),(22,DQ),(10,DQ),(21,DQ),(20,(e 1)),(19,(e 2))]) ds cQ) (fun AA2 ZD=>(Ls ro K) (.panic AA2) (Env.of e [(38,(e 2)),(37,(e 1)),(36,(e 0)),(35,FL),(34,(e 8)),(29,C5),(28,(e 3)),(23,DP),(22,DQ),(10,DQ),(21,DQ),(20,(e 1)),(19,(e 2))]) ds ZD))) ((Ls ro K) .normal (Env.of e [(35,FL),(34,(e 8)),(29,C5),(28,(e 3)),(23,DP),(22,DQ),(10,DQ),(21,DQ),(20,(e 1)),(19,(e 2))]) ds W)))):=by kernel_rfl
theorem nC {Q:Ending→CW→Prop} {v0 v1 v2 v3:Value} {W:CW} (h:AJ prog AM none 128 134 (AK prog 128) (Env.args [v0,v1,v2,v3]) [] W (AI prog Tryz.f128 Q)):AD prog AM 128 [v0,v1,v2,v3] W Q:=AX Tryz.func128 (by kernel_rfl) (by kernel_rfl) (by kernel_rfl) (by kernel_rfl) (by kernel_rfl) h
theorem nD (v0 v1 v2:Value) (K:AB) (W:CW):AJ prog AM none 141 49 (AK prog 141) (Env.args [v0,v1,v2]) [] W K=(wV (AH prog .add 3 true v1 (.int .i64 1)) fun v9=>Bj prog AM none 141 49 (.loop (AY prog 141 0)) (Env.of (Env.args [v0,v1,v2]) [(6,v9),(9,v9),(8,v1)]) [] W (Av 0 K)):=by kernel_rfl
def YF (ro:Option Nat) (K:AB):AB:=Ag (fun e ds W=>wV (AH prog .add 3 true (e 6) (.int .i64 1)) fun Bu=>K .normal (Env.of e [(6,Bu),(14,Bu),(13,(e 6))]) ds W) K
theorem gh (ro:Option Nat) (e:Env) (ds:List Deferred) (K:AB) (W:CW):AJ prog AM ro 141 49 (AY prog 141 0) e ds W K=(wV (AH prog .lss 3 false (e 6) (e 2)) fun CV=>wI CV (Bj prog AM ro 141 49 (.loop (AY prog 141 1)) (Env.of e [(7,(e 6)),(15,(e 6)),(12,CV),(11,(e 2)),(10,(e 6))]) ds W (Av 2 (Av 1 (YF ro K)))) (K (.exit 0) (Env.of e [(12,CV),(11,(e 2)),(10,(e 6))]) ds W)):=by kernel_rfl
def YG (ro:Option Nat) (K:AB):AB:=Ag (fun e ds W=>wV (AH prog .sub 3 true (e 7) (.int .i64 1)) fun DY=>K .normal (Env.of e [(7,DY),(32,DY),(31,(e 7))]) ds W) K
def Ob (ro:Option Nat) (K:AB):AB:=Ag (fun e ds W=>wV (AH prog .sub 3 true (e 7) (.int .i64 1)) fun F1=>wV (AH prog .sub 3 true (e 7) (.int .i64 1)) fun EC=>wV (Bm prog 40 (e 0) EC) fun Df=>wV (ld prog 3 Df W) fun GH=>wV (Bm prog 40 (e 0) (e 7)) fun GD=>wV (ld prog 3 GD W) fun EG=>wV (Bm prog 40 (e 0) (e 7)) fun Fk=>wV (B5 prog 3 Fk GH W) fun W2=>wV (Bm prog 40 (e 0) F1) fun EZ=>wV (B5 prog 3 EZ EG W2) fun W3=>(((True)∧((True)∧ld prog 3 GD W=some EG))∧(((True)∧((True)∧ld prog 3 Df W=some GH))∧True))∧True∧(YG ro K) .normal (Env.of e [(48,EZ),(47,Fk),(46,EG),(45,GD),(44,(e 7)),(43,(e 0)),(42,GH),(41,Df),(40,EC),(39,(e 7)),(38,(e 0)),(37,F1),(36,(e 7)),(35,(e 0)),(34,(e 7)),(33,(e 0))]) ds W3) K
def Su (ro:Option Nat) (K:AB):AB:=Ag (fun e ds W=>wI (e 30) ((Ob ro K) .normal e ds W) ((Ob ro K) (.exit 2) e ds W)) (Ob ro K)
theorem qq (ro:Option Nat) (e:Env) (ds:List Deferred) (K:AB) (W:CW):AJ prog AM ro 141 49 (AY prog 141 1) e ds W K=(wV (AH prog .gtr 3 false (e 7) (e 1)) fun DE=>wI DE (wV (Bm prog 40 (e 0) (e 7)) fun D9=>wV (ld prog 3 D9 W) fun DP=>wV (AH prog .sub 3 true (e 7) (.int .i64 1)) fun Et=>wV (Bm prog 40 (e 0) Et) fun Dv=>wV (ld prog 3 Dv W) fun Dx=>AD prog AM 147 [DP,Dx] W (AQ (fun C5 W6=>(((True)∧ld prog 3 Dv W=some Dx)∧(((True)∧ld prog 3 D9 W=some DP)∧True))∧True∧(Su ro K) .normal (Env.of e [(30,C5),(29,C5),(19,(.bool true)),(28,Dx),(19,(.bool true)),(27,Dv),(19,(.bool true)),(26,Et),(19,(.bool true)),(25,(e 7)),(19,(.bool true)),(24,(e 0)),(19,(.bool true)),(23,DP),(19,(.bool true)),(22,D9),(19,(.bool true)),(21,(e 7)),(19,(.bool true)),(20,(e 0)),(19,(.bool true)),(19,DE),(18,DE),(17,(e 1)),(16,(e 7))]) ds W6) (fun qi W7=>False))) (True∧True∧(Su ro K) .normal (Env.of e [(30,(.bool false)),(29,undef),(19,(.bool false)),(28,undef),(19,(.bool false)),(27,undef),(19,(.bool false)),(26,undef),(19,(.bool false)),(25,undef),(19,(.bool false)),(24,undef),(19,(.bool false)),(23,undef),(19,(.bool false)),(22,undef),(19,(.bool false)),(21,undef),(19,(.bool false)),(20,undef),(19,(.bool false)),(19,DE),(18,DE),(17,(e 1)),(16,(e 7))]) ds W)):=by kernel_rfl
theorem nE {Q:Ending→CW→Prop} {v0 v1 v2:Value} {W:CW} (h:AJ prog AM none 141 49 (AK prog 141) (Env.args [v0,v1,v2]) [] W (AI prog Tryz.f141 Q)):AD prog AM 141 [v0,v1,v2] W Q:=AX Tryz.func141 (by kernel_rfl) (by kernel_rfl) (by kernel_rfl) (by kernel_rfl) (by kernel_rfl) h
def gi (ro:Option Nat) (K:AB):AB:=Ag (fun e ds W=>wV (AH prog .sub 3 true (e 8) (.int .i64 1)) fun Dx=>Bj prog AM ro 142 56 (.loop (AY prog 142 1)) (Env.of e [(10,Dx),(28,Dx),(27,(e 8))]) ds W (Av 2 K)) K
theorem vd (v0 v1 v2:Value) (K:AB) (W:CW):AJ prog AM none 142 56 (AK prog 142) (Env.args [v0,v1,v2]) [] W K=(wV (AH prog .sub 3 false v2 v1) fun Bu=>wV (AH prog .sub 3 true Bu (.int .i64 1)) fun CI=>wV (AH prog .quo 3 true CI (.int .i64 2)) fun CH=>Bj prog AM none 142 56 (.loop (AY prog 142 0)) (Env.of (Env.args [v0,v1,v2]) [(9,CH),(17,CH),(16,CI),(15,Bu),(8,Bu),(14,Bu),(13,v1),(12,v2),(7,(.int .i64 0)),(6,v1),(11,v1)]) [] W (Av 0 (gi none K))):=by kernel_rfl
def YH (ro:Option Nat) (K:AB):AB:=Ag (fun e ds W=>wV (AH prog .sub 3 true (e 9) (.int .i64 1)) fun DQ=>K .normal (Env.of e [(9,DQ),(21,DQ),(20,(e 9))]) ds W) K
theorem qu (ro:Option Nat) (e:Env) (ds:List Deferred) (K:AB) (W:CW):AJ prog AM ro 142 56 (AY prog 142 0) e ds W K=(wV (AH prog .geq 3 true (e 9) (.int .i64 0)) fun Di=>wI Di (AD prog AM 156 [(e 0),(e 9),(e 8),(e 6)] W (AQ (fun Et W2=>(YH ro K) .normal (Env.of e [(26,Et),(25,(e 6)),(24,(e 8)),(23,(e 9)),(22,(e 0)),(19,Di),(18,(e 9))]) ds W2) (fun PS W3=>(YH ro K) (.panic PS) (Env.of e [(25,(e 6)),(24,(e 8)),(23,(e 9)),(22,(e 0)),(19,Di),(18,(e 9))]) ds W3))) (K (.exit 0) (Env.of e [(19,Di),(18,(e 9))]) ds W)):=by kernel_rfl
def YI (ro:Option Nat) (K:AB):AB:=Ag (fun e ds W=>wV (AH prog .sub 3 true (e 10) (.int .i64 1)) fun DY=>K .normal (Env.of e [(10,DY),(32,DY),(31,(e 10))]) ds W) K
theorem qw (ro:Option Nat) (e:Env) (ds:List Deferred) (K:AB) (W:CW):AJ prog AM ro 142 56 (AY prog 142 1) e ds W K=(wV (AH prog .geq 3 true (e 10) (.int .i64 0)) fun v30=>wI v30 (wV (AH prog .add 3 false (e 6) (e 10)) fun H6=>wV (AH prog .add 3 false (e 6) (e 10)) fun GH=>wV (Bm prog 40 (e 0) GH) fun Fq=>wV (ld prog 3 Fq W) fun Nl=>wV (Bm prog 40 (e 0) (e 6)) fun Fk=>wV (ld prog 3 Fk W) fun EZ=>wV (Bm prog 40 (e 0) (e 6)) fun HL=>wV (B5 prog 3 HL Nl W) fun W5=>wV (Bm prog 40 (e 0) H6) fun F_=>wV (B5 prog 3 F_ EZ W5) fun W6=>(((True)∧((True)∧ld prog 3 Fk W=some EZ))∧(((True)∧((True)∧ld prog 3 Fq W=some Nl))∧True))∧True∧AD prog AM 156 [(e 0),(e 7),(e 10),(e 6)] W6 (AQ (fun IH W7=>(YI ro K) .normal (Env.of e [(55,IH),(54,(e 6)),(53,(e 10)),(52,(e 7)),(51,(e 0)),(50,F_),(49,HL),(48,EZ),(47,Fk),(46,(e 6)),(45,(e 0)),(44,Nl),(43,Fq),(42,GH),(41,(e 10)),(40,(e 6)),(39,(e 0)),(38,H6),(37,(e 10)),(36,(e 6)),(35,(e 0)),(34,(e 6)),(33,(e 0)),(30,v30),(29,(e 10))]) ds W7) (fun ch8 W8=>(YI ro K) (.panic ch8) (Env.of e [(54,(e 6)),(53,(e 10)),(52,(e 7)),(51,(e 0)),(50,F_),(49,HL),(48,EZ),(47,Fk),(46,(e 6)),(45,(e 0)),(44,Nl),(43,Fq),(42,GH),(41,(e 10)),(40,(e 6)),(39,(e 0)),(38,H6),(37,(e 10)),(36,(e 6)),(35,(e 0)),(34,(e 6)),(33,(e 0)),(30,v30),(29,(e 10))]) ds W8))) (K (.exit 2) (Env.of e [(30,v30),(29,(e 10))]) ds W)):=by kernel_rfl
theorem vg {Q:Ending→CW→Prop} {v0 v1 v2:Value} {W:CW} (h:AJ prog AM none 142 56 (AK prog 142) (Env.args [v0,v1,v2]) [] W (AI prog Tryz.f142 Q)):AD prog AM 142 [v0,v1,v2] W Q:=AX Tryz.func142 (by kernel_rfl) (by kernel_rfl) (by kernel_rfl) (by kernel_rfl) (by kernel_rfl) h
theorem vi (v0 v1 v2:Value) (K:AB) (W:CW):AJ prog AM none 143 65 (AK prog 143) (Env.args [v0,v1,v2]) [] W K=(wV (AH prog .sub 3 false v2 v1) fun C2=>wV (AH prog .geq 3 true C2 (.int .i64 8)) fun Bh=>wI Bh (wV (cO prog 3 205 C2) fun CH=>CZ (H2 prog 205 W) fun v7 W0=>wV (B5 prog 205 v7 CH W0) fun W1=>AD prog AM 151 [C2] W1 (AQ (fun Di W2=>wV (AH prog .quo 3 true C2 (.int .i64 4)) fun D9=>wV (AH prog .mul 3 true D9 (.int .i64 2)) fun DP=>wV (AH prog .add 3 false v1 DP) fun DI=>wV (AH prog .sub 3 true DI (.int .i64 1)) fun DZ=>Bj prog AM none 143 65 (.loop (AY prog 143 0)) (Env.of (Env.args [v0,v1,v2]) [(9,DZ),(25,DZ),(24,DI),(23,DP),(22,D9),(21,C2),(20,v1),(8,Di),(19,Di),(18,C2),(7,v7),(17,CH),(16,C2),(15,Bh),(14,C2),(6,C2),(13,C2),(12,v1),(11,v2)]) [] W2 (Av 0 K)) (fun PS W3=>K (.panic PS) (Env.of (Env.args [v0,v1,v2]) [(18,C2),(7,v7),(17,CH),(16,C2),(15,Bh),(14,C2),(6,C2),(13,C2),(12,v1),(11,v2)]) [] W3))) (K .normal (Env.of (Env.args [v0,v1,v2]) [(15,Bh),(14,C2),(6,C2),(13,C2),(12,v1),(11,v2)]) [] W)):=by kernel_rfl
def Sv (ro:Option Nat) (K:AB):AB:=Ag (fun e ds W=>wV (AH prog .add 3 true (e 9) (.int .i64 1)) fun FL=>K .normal (Env.of e [(9,FL),(35,FL),(34,(e 9))]) ds W) K
def Sw (ro:Option Nat) (K:AB):AB:=Ag (fun e ds W=>wV (AH prog .add 3 false (e 1) (e 10)) fun Hn=>wV (AH prog .add 3 false (e 1) (e 10)) fun D0=>wV (Bm prog 40 (e 0) D0) fun IU=>wV (ld prog 3 IU W) fun Ju=>wV (Bm prog 40 (e 0) (e 9)) fun Gj=>wV (ld prog 3 Gj W) fun UH=>wV (Bm prog 40 (e 0) (e 9)) fun MR=>wV (B5 prog 3 MR Ju W) fun W7=>wV (Bm prog 40 (e 0) Hn) fun Hx=>wV (B5 prog 3 Hx UH W7) fun W8=>(((True)∧((True)∧ld prog 3 Gj W=some UH))∧(((True)∧((True)∧ld prog 3 IU W=some Ju))∧True))∧True∧(Sv ro K) .normal (Env.of e [(64,Hx),(63,MR),(62,UH),(61,Gj),(60,(e 9)),(59,(e 0)),(58,Ju),(57,IU),(56,D0),(55,(e 10)),(54,(e 1)),(53,(e 0)),(52,Hn),(51,(e 10)),(50,(e 1)),(49,(e 0)),(48,(e 9)),(47,(e 0))]) ds W8) (Av 1 (Sv ro K))
theorem qy (ro:Option Nat) (e:Env) (ds:List Deferred) (K:AB) (W:CW):AJ prog AM ro 143 65 (AY prog 143 0) e ds W K=(wV (AH prog .quo 3 true (e 6) (.int .i64 4)) fun C5=>wV (AH prog .mul 3 true C5 (.int .i64 2)) fun v30=>wV (AH prog .add 3 false (e 1) v30) fun Dg=>wV (AH prog .add 3 true Dg (.int .i64 1)) fun DY=>wV (AH prog .leq 3 false (e 9) DY) fun FJ=>wI FJ (AD prog AM 152 [(e 7)] W (AQ (fun G9 W5=>wV (AH prog .sub 164 true (e 8) (.int .u64 1)) fun H6=>wV (AH prog .and 164 false G9 H6) fun H7=>wV (cO prog 164 3 H7) fun EC=>wV (AH prog .geq 3 false EC (e 6)) fun Fq=>wI Fq (wV (AH prog .sub 3 false EC (e 6)) fun EG=>(Sw ro K) .normal (Env.of e [(10,EG),(46,EG),(45,(e 6)),(44,EC),(43,Fq),(42,(e 6)),(41,EC),(10,EC),(40,EC),(39,H7),(38,H6),(37,(e 8)),(36,G9),(33,FJ),(32,DY),(31,Dg),(30,v30),(29,C5),(28,(e 6)),(27,(e 1)),(26,(e 9))]) ds W5) ((Sw ro K) .normal (Env.of e [(43,Fq),(42,(e 6)),(41,EC),(10,EC),(40,EC),(39,H7),(38,H6),(37,(e 8)),(36,G9),(33,FJ),(32,DY),(31,Dg),(30,v30),(29,C5),(28,(e 6)),(27,(e 1)),(26,(e 9))]) ds W5)) (fun tK W6=>(Sv ro K) (.panic tK) (Env.of e [(33,FJ),(32,DY),(31,Dg),(30,v30),(29,C5),(28,(e 6)),(27,(e 1)),(26,(e 9))]) ds W6))) (K (.exit 0) (Env.of e [(33,FJ),(32,DY),(31,Dg),(30,v30),(29,C5),(28,(e 6)),(27,(e 1)),(26,(e 9))]) ds W)):=by kernel_rfl
theorem vj {Q:Ending→CW→Prop} {v0 v1 v2:Value} {W:CW} (h:AJ prog AM none 143 65 (AK prog 143) (Env.args [v0,v1,v2]) [] W (AI prog Tryz.f143 Q)):AD prog AM 143 [v0,v1,v2] W Q:=AX Tryz.func143 (by kernel_rfl) (by kernel_rfl) (by kernel_rfl) (by kernel_rfl) (by kernel_rfl) h
def Oc (ro:Option Nat) (K:AB):AB:=Ag (fun e ds W=>wV (ld prog 3 (e 9) W) fun HL=>wV (AH prog .eql 3 true HL (.int .i64 0)) fun Hn=>wI Hn (K .ret (Env.of e [(7,(.int .i64 1)),(6,(e 11)),(53,(e 11)),(51,Hn),(52,Hn),(49,HL)]) ds W) (wV (AH prog .eql 3 true HL (.int .i64 12)) fun IH=>wI IH (K .ret (Env.of e [(7,(.int .i64 2)),(6,(e 11)),(56,(e 11)),(54,IH),(55,IH),(51,Hn),(52,Hn),(49,HL)]) ds W) (K .ret (Env.of e [(7,(.int .i64 0)),(6,(e 11)),(50,(e 11)),(54,IH),(55,IH),(51,Hn),(52,Hn),(49,HL)]) ds W))) K
def MV (ro:Option Nat) (K:AB):AB:=Ag (fun e ds W=>AD prog AM 158 [(e 0),(e 10),(e 11),(e 12),(e 9)] W (AQ (fun EZ W2=>(Oc ro K) .normal (Env.of e [(11,EZ),(48,EZ),(47,(e 12)),(46,(e 11)),(45,(e 10)),(44,(e 0))]) ds W2) (fun PS W3=>(Oc ro K) (.panic PS) (Env.of e [(47,(e 12)),(46,(e 11)),(45,(e 10)),(44,(e 0))]) ds W3))) (Oc ro K)
theorem vk (v0 v1 v2:Value) (K:AB) (W:CW):AJ prog AM none 144 57 (AK prog 144) (Env.args [v0,v1,v2]) [] W K=(wV (AH prog .sub 3 false v2 v1) fun Bh=>CZ (H2 prog 3 W) fun v9 W0=>wV (AH prog .quo 3 true Bh (.int .i64 4)) fun DE=>wV (AH prog .mul 3 true DE (.int .i64 1)) fun Di=>wV (AH prog .add 3 false v1 Di) fun v20=>wV (AH prog .quo 3 true Bh (.int .i64 4)) fun DP=>wV (AH prog .mul 3 true DP (.int .i64 2)) fun DI=>wV (AH prog .add 3 false v1 DI) fun DZ=>wV (AH prog .quo 3 true Bh (.int .i64 4)) fun Dx=>wV (AH prog .mul 3 true Dx (.int .i64 3)) fun C5=>wV (AH prog .add 3 false v1 C5) fun v30=>wV (AH prog .geq 3 true Bh (.int .i64 8)) fun DY=>wI DY (wV (AH prog .geq 3 true Bh (.int .i64 50)) fun EH=>wI EH (AD prog AM 157 [v0,v20,v9] W0 (AQ (fun F1 W5=>AD prog AM 157 [v0,DZ,v9] W5 (AQ (fun EC W7=>AD prog AM 157 [v0,v30,v9] W7 (AQ (fun Fq W9=>(MV none K) .normal (Env.of (Env.args [v0,v1,v2]) [(12,Fq),(43,Fq),(42,v30),(41,v0),(11,EC),(40,EC),(39,DZ),(38,v0),(10,F1),(37,F1),(36,v20),(35,v0),(34,EH),(33,Bh),(32,DY),(31,Bh),(12,v30),(30,v30),(29,C5),(28,Dx),(27,Bh),(26,v1),(11,DZ),(25,DZ),(24,DI),(23,DP),(22,Bh),(21,v1),(10,v20),(20,v20),(19,Di),(18,DE),(17,Bh),(16,v1),(9,v9),(8,Bh),(15,Bh),(14,v1),(13,v2),(7,(.int .i64 0)),(6,(.int .i64 0))]) [] W9) (fun aF Rq=>(MV none K) (.panic aF) (Env.of (Env.args [v0,v1,v2]) [(42,v30),(41,v0),(11,EC),(40,EC),(39,DZ),(38,v0),(10,F1),(37,F1),(36,v20),(35,v0),(34,EH),(33,Bh),(32,DY),(31,Bh),(12,v30),(30,v30),(29,C5),(28,Dx),(27,Bh),(26,v1),(11,DZ),(25,DZ),(24,DI),(23,DP),(22,Bh),(21,v1),(10,v20),(20,v20),(19,Di),(18,DE),(17,Bh),(16,v1),(9,v9),(8,Bh),(15,Bh),(14,v1),(13,v2),(7,(.int .i64 0)),(6,(.int .i64 0))]) [] Rq))) (fun ch8 W8=>(MV none K) (.panic ch8) (Env.of (Env.args [v0,v1,v2]) [(39,DZ),(38,v0),(10,F1),(37,F1),(36,v20),(35,v0),(34,EH),(33,Bh),(32,DY),(31,Bh),(12,v30),(30,v30),(29,C5),(28,Dx),(27,Bh),(26,v1),(11,DZ),(25,DZ),(24,DI),(23,DP),(22,Bh),(21,v1),(10,v20),(20,v20),(19,Di),(18,DE),(17,Bh),(16,v1),(9,v9),(8,Bh),(15,Bh),(14,v1),(13,v2),(7,(.int .i64 0)),(6,(.int .i64 0))]) [] W8))) (fun tK W6=>(MV none K) (.panic tK) (Env.of (Env.args [v0,v1,v2]) [(36,v20),(35,v0),(34,EH),(33,Bh),(32,DY),(31,Bh),(12,v30),(30,v30),(29,C5),(28,Dx),(27,Bh),(26,v1),(11,DZ),(25,DZ),(24,DI),(23,DP),(22,Bh),(21,v1),(10,v20),(20,v20),(19,Di),(18,DE),(17,Bh),(16,v1),(9,v9),(8,Bh),(15,Bh),(14,v1),(13,v2),(7,(.int .i64 0)),(6,(.int .i64 0))]) [] W6))) ((MV none K) .normal (Env.of (Env.args [v0,v1,v2]) [(34,EH),(33,Bh),(32,DY),(31,Bh),(12,v30),(30,v30),(29,C5),(28,Dx),(27,Bh),(26,v1),(11,DZ),(25,DZ),(24,DI),(23,DP),(22,Bh),(21,v1),(10,v20),(20,v20),(19,Di),(18,DE),(17,Bh),(16,v1),(9,v9),(8,Bh),(15,Bh),(14,v1),(13,v2),(7,(.int .i64 0)),(6,(.int .i64 0))]) [] W0)) ((Oc none K) .normal (Env.of (Env.args [v0,v1,v2]) [(32,DY),(31,Bh),(12,v30),(30,v30),(29,C5),(28,Dx),(27,Bh),(26,v1),(11,DZ),(25,DZ),(24,DI),(23,DP),(22,Bh),(21,v1),(10,v20),(20,v20),(19,Di),(18,DE),(17,Bh),(16,v1),(9,v9),(8,Bh),(15,Bh),(14,v1),(13,v2),(7,(.int .i64 0)),(6,(.int .i64 0))]) [] W0)):=by kernel_rfl
theorem Nn (Q:Ending→CW→Prop) (e:Env) (W:CW):AI prog Tryz.f144 Q .ret e [] W=Q (.returned (.tuple #[e 6,e 7])) W:=by kernel_rfl
theorem vn {Q:Ending→CW→Prop} {v0 v1 v2:Value} {W:CW} (h:AJ prog AM none 144 57 (AK prog 144) (Env.args [v0,v1,v2]) [] W (AI prog Tryz.f144 Q)):AD prog AM 144 [v0,v1,v2] W Q:=AX Tryz.func144 (by kernel_rfl) (by kernel_rfl) (by kernel_rfl) (by kernel_rfl) (by kernel_rfl) h
theorem vu (v0 v1 v2:Value) (K:AB) (W:CW):AJ prog AM none 145 32 (AK prog 145) (Env.args [v0,v1,v2]) [] W K=(wV (AH prog .sub 3 true v2 (.int .i64 1)) fun v10=>Bj prog AM none 145 32 (.loop (AY prog 145 0)) (Env.of (Env.args [v0,v1,v2]) [(7,v10),(10,v10),(9,v2),(6,v1),(8,v1)]) [] W (Av 0 K)):=by kernel_rfl
theorem qz (ro:Option Nat) (e:Env) (ds:List Deferred) (K:AB) (W:CW):AJ prog AM ro 145 32 (AY prog 145 0) e ds W K=(wV (AH prog .lss 3 false (e 6) (e 7)) fun C2=>wI C2 (wV (Bm prog 40 (e 0) (e 7)) fun v20=>wV (ld prog 3 v20 W) fun DQ=>wV (Bm prog 40 (e 0) (e 6)) fun DI=>wV (ld prog 3 DI W) fun DZ=>wV (Bm prog 40 (e 0) (e 6)) fun Et=>wV (B5 prog 3 Et DQ W) fun W0=>wV (Bm prog 40 (e 0) (e 7)) fun Dv=>wV (B5 prog 3 Dv DZ W0) fun W1=>(((True)∧((True)∧ld prog 3 DI W=some DZ))∧(((True)∧((True)∧ld prog 3 v20 W=some DQ))∧True))∧True∧wV (AH prog .add 3 true (e 6) (.int .i64 1)) fun C5=>wV (AH prog .sub 3 true (e 7) (.int .i64 1)) fun Dg=>K .normal (Env.of e [(7,Dg),(31,Dg),(30,(e 7)),(6,C5),(29,C5),(28,(e 6)),(27,Dv),(26,Et),(25,DZ),(24,DI),(23,(e 6)),(22,(e 0)),(21,DQ),(20,v20),(19,(e 7)),(18,(e 0)),(17,(e 7)),(16,(e 0)),(15,(e 6)),(14,(e 0)),(13,C2),(12,(e 7)),(11,(e 6))]) ds W1) (K (.exit 0) (Env.of e [(13,C2),(12,(e 7)),(11,(e 6))]) ds W)):=by kernel_rfl
theorem vz {Q:Ending→CW→Prop} {v0 v1 v2:Value} {W:CW} (h:AJ prog AM none 145 32 (AK prog 145) (Env.args [v0,v1,v2]) [] W (AI prog Tryz.f145 Q)):AD prog AM 145 [v0,v1,v2] W Q:=AX Tryz.func145 (by kernel_rfl) (by kernel_rfl) (by kernel_rfl) (by kernel_rfl) (by kernel_rfl) h
def gj (ro:Option Nat) (K:AB):AB:=Ag (fun e ds W=>K .ret (Env.of e [(6,(.bool false))]) ds W) K
theorem v_ (v0 v1 v2:Value) (K:AB) (W:CW):AJ prog AM none 146 133 (AK prog 146) (Env.args [v0,v1,v2]) [] W K=(wV (AH prog .add 3 true v1 (.int .i64 1)) fun CV=>Bj prog AM none 146 133 (.loop (AY prog 146 0)) (Env.of (Env.args [v0,v1,v2]) [(8,(.int .i64 0)),(7,CV),(12,CV),(11,v1),(6,(.bool false))]) [] W (Av 0 (gj none K))):=by kernel_rfl
def I_ (ro:Option Nat) (K:AB):AB:=Ag (fun e ds W=>wV (AH prog .add 3 true (e 8) (.int .i64 1)) fun CI=>K .normal (Env.of e [(8,CI),(16,CI),(15,(e 8))]) ds W) K
def gk (ro:Option Nat) (K:AB):AB:=Ag (fun e ds W=>wV (AH prog .sub 3 false (e 2) (e 7)) fun ZC=>wV (AH prog .geq 3 true ZC (.int .i64 2)) fun Ss=>wI Ss (wV (AH prog .add 3 true (e 7) (.int .i64 1)) fun Dd=>Bj prog AM ro 146 133 (.loop (AY prog 146 3)) (Env.of e [(10,Dd),(100,Dd),(99,(e 7)),(98,Ss),(97,ZC),(96,(e 7)),(95,(e 2))]) ds W (Av 6 (Av 1 (I_ ro K)))) ((I_ ro K) .normal (Env.of e [(98,Ss),(97,ZC),(96,(e 7)),(95,(e 2))]) ds W)) (Av 1 (I_ ro K))
def YJ (ro:Option Nat) (K:AB):AB:=Ag (fun e ds W=>wV (AH prog .eql 3 false (e 7) (e 2)) fun F1=>wI F1 ((I_ ro K) .ret (Env.of e [(6,(.bool true)),(37,F1),(36,(e 2)),(35,(e 7))]) ds W) (wV (AH prog .sub 3 false (e 2) (e 1)) fun EC=>wV (AH prog .lss 3 true EC (.int .i64 50)) fun Df=>wI Df ((I_ ro K) .ret (Env.of e [(6,(.bool false)),(41,Df),(40,EC),(39,(e 1)),(38,(e 2)),(37,F1),(36,(e 2)),(35,(e 7))]) ds W) (wV (AH prog .sub 3 true (e 7) (.int .i64 1)) fun EG=>wV (AH prog .sub 3 true (e 7) (.int .i64 1)) fun HL=>wV (Bm prog 40 (e 0) HL) fun F_=>wV (ld prog 3 F_ W) fun GF=>wV (Bm prog 40 (e 0) (e 7)) fun E_=>wV (ld prog 3 E_ W) fun IH=>wV (Bm prog 40 (e 0) (e 7)) fun D0=>wV (B5 prog 3 D0 GF W) fun W2=>wV (Bm prog 40 (e 0) EG) fun IU=>wV (B5 prog 3 IU IH W2) fun W3=>(((True)∧((True)∧ld prog 3 E_ W=some IH))∧(((True)∧((True)∧ld prog 3 F_ W=some GF))∧True))∧True∧wV (AH prog .sub 3 false (e 7) (e 1)) fun GN=>wV (AH prog .geq 3 true GN (.int .i64 2)) fun Gj=>wI Gj (wV (AH prog .sub 3 true (e 7) (.int .i64 1)) fun MR=>Bj prog AM ro 146 133 (.loop (AY prog 146 2)) (Env.of e [(9,MR),(63,MR),(62,(e 7)),(61,Gj),(60,GN),(59,(e 1)),(58,(e 7)),(57,IU),(56,D0),(55,IH),(54,E_),(53,(e 7)),(52,(e 0)),(51,GF),(50,F_),(49,HL),(48,(e 7)),(47,(e 0)),(46,EG),(45,(e 7)),(44,(e 0)),(43,(e 7)),(42,(e 0)),(41,Df),(40,EC),(39,(e 1)),(38,(e 2)),(37,F1),(36,(e 2)),(35,(e 7))]) ds W3 (Av 4 (gk ro K))) ((gk ro K) .normal (Env.of e [(61,Gj),(60,GN),(59,(e 1)),(58,(e 7)),(57,IU),(56,D0),(55,IH),(54,E_),(53,(e 7)),(52,(e 0)),(51,GF),(50,F_),(49,HL),(48,(e 7)),(47,(e 0)),(46,EG),(45,(e 7)),(44,(e 0)),(43,(e 7)),(42,(e 0)),(41,Df),(40,EC),(39,(e 1)),(38,(e 2)),(37,F1),(36,(e 2)),(35,(e 7))]) ds W3)))) (Av 1 (I_ ro K))
theorem q5 (ro:Option Nat) (e:Env) (ds:List Deferred) (K:AB) (W:CW):AJ prog AM ro 146 133 (AY prog 146 0) e ds W K=(wV (AH prog .lss 3 true (e 8) (.int .i64 5)) fun Bu=>wI Bu (Bj prog AM ro 146 133 (.loop (AY prog 146 1)) (Env.of e [(14,Bu),(13,(e 8))]) ds W (Av 2 (YJ ro K))) (K (.exit 0) (Env.of e [(14,Bu),(13,(e 8))]) ds W)):=by kernel_rfl
def Od (ro:Option Nat) (K:AB):AB:=Ag (fun e ds W=>wV (AH prog .add 3 true (e 7) (.int .i64 1)) fun EH=>K .normal (Env.of e [(7,EH),(34,EH),(33,(e 7))]) ds W) K
def Sx (ro:Option Nat) (K:AB):AB:=Ag (fun e ds W=>wI (e 32) ((Od ro K) .normal e ds W) ((Od ro K) (.exit 2) e ds W)) (Od ro K)
theorem q7 (ro:Option Nat) (e:Env) (ds:List Deferred) (K:AB) (W:CW):AJ prog AM ro 146 133 (AY prog 146 1) e ds W K=(wV (AH prog .lss 3 false (e 7) (e 2)) fun Di=>wI Di (wV (Bm prog 40 (e 0) (e 7)) fun DP=>wV (ld prog 3 DP W) fun DI=>wV (AH prog .sub 3 true (e 7) (.int .i64 1)) fun Dv=>wV (Bm prog 40 (e 0) Dv) fun Dx=>wV (ld prog 3 Dx W) fun C5=>AD prog AM 147 [DI,C5] W (AQ (fun v30 W8=>wV (KU v30) fun Dg=>(((True)∧ld prog 3 Dx W=some C5)∧(((True)∧ld prog 3 DP W=some DI)∧True))∧True∧(Sx ro K) .normal (Env.of e [(32,Dg),(31,Dg),(20,(.bool true)),(30,v30),(20,(.bool true)),(29,C5),(20,(.bool true)),(28,Dx),(20,(.bool true)),(27,Dv),(20,(.bool true)),(26,(e 7)),(20,(.bool true)),(25,(e 0)),(20,(.bool true)),(24,DI),(20,(.bool true)),(23,DP),(20,(.bool true)),(22,(e 7)),(20,(.bool true)),(21,(e 0)),(20,(.bool true)),(20,Di),(19,Di),(18,(e 2)),(17,(e 7))]) ds W8) (fun lN W9=>False))) (True∧True∧(Sx ro K) .normal (Env.of e [(32,(.bool false)),(31,undef),(20,(.bool false)),(30,undef),(20,(.bool false)),(29,undef),(20,(.bool false)),(28,undef),(20,(.bool false)),(27,undef),(20,(.bool false)),(26,undef),(20,(.bool false)),(25,undef),(20,(.bool false)),(24,undef),(20,(.bool false)),(23,undef),(20,(.bool false)),(22,undef),(20,(.bool false)),(21,undef),(20,(.bool false)),(20,Di),(19,Di),(18,(e 2)),(17,(e 7))]) ds W)):=by kernel_rfl
theorem eG (Q:Ending→CW→Prop) (e:Env) (W:CW):AI prog Tryz.f146 Q .ret e [] W=Q (.returned (e 6)) W:=by kernel_rfl
theorem wA {Q:Ending→CW→Prop} {v0 v1 v2:Value} {W:CW} (h:AJ prog AM none 146 133 (AK prog 146) (Env.args [v0,v1,v2]) [] W (AI prog Tryz.f146 Q)):AD prog AM 146 [v0,v1,v2] W Q:=AX Tryz.func146 (by kernel_rfl) (by kernel_rfl) (by kernel_rfl) (by kernel_rfl) (by kernel_rfl) h
def gl (ro:Option Nat) (K:AB):AB:=Ag (fun e ds W=>K .ret (Env.of e [(8,(e 9)),(83,(e 9))]) ds W) K
theorem wB (v0 v1 v2 v3:Value) (K:AB) (W:CW):AJ prog AM none 148 84 (AK prog 148) (Env.args [v0,v1,v2,v3]) [] W K=(wV (Bm prog 40 v0 v3) fun CH=>wV (ld prog 3 CH W) fun DE=>wV (Bm prog 40 v0 v1) fun DQ=>wV (ld prog 3 DQ W) fun D9=>wV (Bm prog 40 v0 v1) fun DP=>wV (B5 prog 3 DP DE W) fun W0=>wV (Bm prog 40 v0 v3) fun DI=>wV (B5 prog 3 DI D9 W0) fun W1=>(((True)∧((True)∧ld prog 3 DQ W=some D9))∧(((True)∧((True)∧ld prog 3 CH W=some DE))∧True))∧True∧wV (AH prog .add 3 true v1 (.int .i64 1)) fun Et=>wV (AH prog .sub 3 true v2 (.int .i64 1)) fun Dx=>Bj prog AM none 148 84 (.loop (AY prog 148 0)) (Env.of (Env.args [v0,v1,v2,v3]) [(10,Dx),(9,Et),(28,Dx),(27,v2),(26,Et),(25,v1),(24,DI),(23,DP),(22,D9),(21,DQ),(20,v1),(19,v0),(18,DE),(17,CH),(16,v3),(15,v0),(14,v3),(13,v0),(12,v1),(11,v0),(8,(.int .i64 0))]) [] W1 (Av 0 (gl none K))):=by kernel_rfl
def gm (ro:Option Nat) (K:AB):AB:=Ag (fun e ds W=>wV (AH prog .gtr 3 false (e 9) (e 10)) fun Hx=>wI Hx (K (.exit 0) (Env.of e [(64,Hx),(63,(e 10)),(62,(e 9))]) ds W) (wV (Bm prog 40 (e 0) (e 10)) fun M5=>wV (ld prog 3 M5 W) fun JU=>wV (Bm prog 40 (e 0) (e 9)) fun Jk=>wV (ld prog 3 Jk W) fun MT=>wV (Bm prog 40 (e 0) (e 9)) fun JS=>wV (B5 prog 3 JS JU W) fun W3=>wV (Bm prog 40 (e 0) (e 10)) fun KZ=>wV (B5 prog 3 KZ MT W3) fun W4=>(((True)∧((True)∧ld prog 3 Jk W=some MT))∧(((True)∧((True)∧ld prog 3 M5 W=some JU))∧True))∧True∧wV (AH prog .add 3 true (e 9) (.int .i64 1)) fun LB=>wV (AH prog .sub 3 true (e 10) (.int .i64 1)) fun ZE=>K .normal (Env.of e [(10,ZE),(82,ZE),(81,(e 10)),(9,LB),(80,LB),(79,(e 9)),(78,KZ),(77,JS),(76,MT),(75,Jk),(74,(e 9)),(73,(e 0)),(72,JU),(71,M5),(70,(e 10)),(69,(e 0)),(68,(e 10)),(67,(e 0)),(66,(e 9)),(65,(e 0)),(64,Hx),(63,(e 10)),(62,(e 9))]) ds W4)) (Av 1 K)
def gn (ro:Option Nat) (K:AB):AB:=Ag (fun e ds W=>Bj prog AM ro 148 84 (.loop (AY prog 148 2)) e ds W (Av 4 (gm ro K))) (Av 1 K)
theorem q_ (ro:Option Nat) (e:Env) (ds:List Deferred) (K:AB) (W:CW):AJ prog AM ro 148 84 (AY prog 148 0) e ds W K=(Bj prog AM ro 148 84 (.loop (AY prog 148 1)) e ds W (Av 2 (gn ro K))):=by kernel_rfl
def Oe (ro:Option Nat) (K:AB):AB:=Ag (fun e ds W=>wV (AH prog .add 3 true (e 9) (.int .i64 1)) fun GD=>K .normal (Env.of e [(9,GD),(45,GD),(44,(e 9))]) ds W) K
def Sy (ro:Option Nat) (K:AB):AB:=Ag (fun e ds W=>wI (e 43) ((Oe ro K) .normal e ds W) ((Oe ro K) (.exit 2) e ds W)) (Oe ro K)
theorem rA (ro:Option Nat) (e:Env) (ds:List Deferred) (K:AB) (W:CW):AJ prog AM ro 148 84 (AY prog 148 1) e ds W K=(wV (AH prog .leq 3 false (e 9) (e 10)) fun Dg=>wI Dg (wV (Bm prog 40 (e 0) (e 1)) fun FL=>wV (ld prog 3 FL W) fun G9=>wV (Bm prog 40 (e 0) (e 9)) fun H7=>wV (ld prog 3 H7 W) fun EC=>AD prog AM 147 [G9,EC] W (AQ (fun Df W9=>wV (KU Df) fun GH=>(((True)∧ld prog 3 H7 W=some EC)∧(((True)∧ld prog 3 FL W=some G9)∧True))∧True∧(Sy ro K) .normal (Env.of e [(43,GH),(42,GH),(32,(.bool true)),(41,Df),(32,(.bool true)),(40,EC),(32,(.bool true)),(39,H7),(32,(.bool true)),(38,(e 9)),(32,(.bool true)),(37,(e 0)),(32,(.bool true)),(36,G9),(32,(.bool true)),(35,FL),(32,(.bool true)),(34,(e 1)),(32,(.bool true)),(33,(e 0)),(32,(.bool true)),(32,Dg),(31,Dg),(30,(e 10)),(29,(e 9))]) ds W9) (fun aF Rq=>False))) (True∧True∧(Sy ro K) .normal (Env.of e [(43,(.bool false)),(42,undef),(32,(.bool false)),(41,undef),(32,(.bool false)),(40,undef),(32,(.bool false)),(39,undef),(32,(.bool false)),(38,undef),(32,(.bool false)),(37,undef),(32,(.bool false)),(36,undef),(32,(.bool false)),(35,undef),(32,(.bool false)),(34,undef),(32,(.bool false)),(33,undef),(32,(.bool false)),(32,Dg),(31,Dg),(30,(e 10)),(29,(e 9))]) ds W)):=by kernel_rfl
def Lt (ro:Option Nat) (K:AB):AB:=Ag (fun e ds W=>wV (AH prog .sub 3 true (e 10) (.int .i64 1)) fun Gj=>K .normal (Env.of e [(10,Gj),(61,Gj),(60,(e 10))]) ds W) K
def Of (ro:Option Nat) (K:AB):AB:=Ag (fun e ds W=>wI (e 59) ((Lt ro K) .normal e ds W) ((Lt ro K) (.exit 4) e ds W)) (Lt ro K)
theorem rB (ro:Option Nat) (e:Env) (ds:List Deferred) (K:AB) (W:CW):AJ prog AM ro 148 84 (AY prog 148 2) e ds W K=(wV (AH prog .leq 3 false (e 9) (e 10)) fun EZ=>wI EZ (wV (Bm prog 40 (e 0) (e 1)) fun Hn=>wV (ld prog 3 Hn W) fun FX=>wV (Bm prog 40 (e 0) (e 10)) fun D0=>wV (ld prog 3 D0 W) fun IU=>AD prog AM 147 [FX,IU] W (AQ (fun Ju H5=>(((True)∧ld prog 3 D0 W=some IU)∧(((True)∧ld prog 3 Hn W=some FX)∧True))∧True∧(Of ro K) .normal (Env.of e [(59,Ju),(58,Ju),(49,(.bool true)),(57,IU),(49,(.bool true)),(56,D0),(49,(.bool true)),(55,(e 10)),(49,(.bool true)),(54,(e 0)),(49,(.bool true)),(53,FX),(49,(.bool true)),(52,Hn),(49,(.bool true)),(51,(e 1)),(49,(.bool true)),(50,(e 0)),(49,(.bool true)),(49,EZ),(48,EZ),(47,(e 10)),(46,(e 9))]) ds H5) (fun qo M4=>False))) (True∧True∧(Of ro K) .normal (Env.of e [(59,(.bool false)),(58,undef),(49,(.bool false)),(57,undef),(49,(.bool false)),(56,undef),(49,(.bool false)),(55,undef),(49,(.bool false)),(54,undef),(49,(.bool false)),(53,undef),(49,(.bool false)),(52,undef),(49,(.bool false)),(51,undef),(49,(.bool false)),(50,undef),(49,(.bool false)),(49,EZ),(48,EZ),(47,(e 10)),(46,(e 9))]) ds W)):=by kernel_rfl
theorem eH (Q:Ending→CW→Prop) (e:Env) (W:CW):AI prog Tryz.f148 Q .ret e [] W=Q (.returned (e 8)) W:=by kernel_rfl
theorem wC {Q:Ending→CW→Prop} {v0 v1 v2 v3:Value} {W:CW} (h:AJ prog AM none 148 84 (AK prog 148) (Env.args [v0,v1,v2,v3]) [] W (AI prog Tryz.f148 Q)):AD prog AM 148 [v0,v1,v2,v3] W Q:=AX Tryz.func148 (by kernel_rfl) (by kernel_rfl) (by kernel_rfl) (by kernel_rfl) (by kernel_rfl) h
def gp (ro:Option Nat) (K:AB):AB:=Ag (fun e ds W=>wV (Bm prog 40 (e 0) (e 1)) fun M3=>wV (ld prog 3 M3 W) fun jP=>wV (Bm prog 40 (e 0) (e 11)) fun jM=>wV (ld prog 3 jM W) fun aG=>wV (Bm prog 40 (e 0) (e 11)) fun X9=>wV (B5 prog 3 X9 jP W) fun W6=>wV (Bm prog 40 (e 0) (e 1)) fun Vt=>wV (B5 prog 3 Vt aG W6) fun W7=>(((True)∧((True)∧ld prog 3 jM W=some aG))∧(((True)∧((True)∧ld prog 3 M3 W=some jP))∧True))∧True∧K .ret (Env.of e [(9,(.bool false)),(8,(e 11)),(167,(e 11)),(166,Vt),(165,X9),(164,aG),(163,jM),(162,(e 11)),(161,(e 0)),(160,jP),(159,M3),(158,(e 1)),(157,(e 0)),(156,(e 1)),(155,(e 0)),(154,(e 11)),(153,(e 0))]) ds W7) K
def gq (ro:Option Nat) (K:AB):AB:=Ag (fun e ds W=>wV (AH prog .gtr 3 false (e 10) (e 11)) fun JV=>wI JV (wV (Bm prog 40 (e 0) (e 1)) fun JU=>wV (ld prog 3 JU W) fun Vu=>wV (Bm prog 40 (e 0) (e 11)) fun MT=>wV (ld prog 3 MT W) fun JS=>wV (Bm prog 40 (e 0) (e 11)) fun KZ=>wV (B5 prog 3 KZ Vu W) fun W2=>wV (Bm prog 40 (e 0) (e 1)) fun IG=>wV (B5 prog 3 IG JS W2) fun W3=>(((True)∧((True)∧ld prog 3 MT W=some JS))∧(((True)∧((True)∧ld prog 3 JU W=some Vu))∧True))∧True∧K .ret (Env.of e [(9,(.bool true)),(8,(e 11)),(80,(e 11)),(79,IG),(78,KZ),(77,JS),(76,MT),(75,(e 11)),(74,(e 0)),(73,Vu),(72,JU),(71,(e 1)),(70,(e 0)),(69,(e 1)),(68,(e 0)),(67,(e 11)),(66,(e 0)),(65,JV),(64,(e 11)),(63,(e 10))]) ds W3) (wV (Bm prog 40 (e 0) (e 11)) fun VS=>wV (ld prog 3 VS W) fun Sz=>wV (Bm prog 40 (e 0) (e 10)) fun Og=>wV (ld prog 3 Og W) fun QI=>wV (Bm prog 40 (e 0) (e 10)) fun UJ=>wV (B5 prog 3 UJ Sz W) fun W4=>wV (Bm prog 40 (e 0) (e 11)) fun lQ=>wV (B5 prog 3 lQ QI W4) fun W5=>(((True)∧((True)∧ld prog 3 Og W=some QI))∧(((True)∧((True)∧ld prog 3 VS W=some Sz))∧True))∧True∧wV (AH prog .add 3 true (e 10) (.int .i64 1)) fun X_=>wV (AH prog .sub 3 true (e 11) (.int .i64 1)) fun Ss=>Bj prog AM ro 149 168 (.loop (AY prog 149 2)) (Env.of e [(11,Ss),(98,Ss),(97,(e 11)),(10,X_),(96,X_),(95,(e 10)),(94,lQ),(93,UJ),(92,QI),(91,Og),(90,(e 10)),(89,(e 0)),(88,Sz),(87,VS),(86,(e 11)),(85,(e 0)),(84,(e 11)),(83,(e 0)),(82,(e 10)),(81,(e 0)),(65,JV),(64,(e 11)),(63,(e 10))]) ds W5 (Av 4 (gp ro K)))) K
def aH (ro:Option Nat) (K:AB):AB:=Ag (fun e ds W=>Bj prog AM ro 149 168 (.loop (AY prog 149 1)) e ds W (Av 2 (gq ro K))) K
theorem wD (v0 v1 v2 v3:Value) (K:AB) (W:CW):AJ prog AM none 149 168 (AK prog 149) (Env.args [v0,v1,v2,v3]) [] W K=(wV (Bm prog 40 v0 v3) fun DE=>wV (ld prog 3 DE W) fun Di=>wV (Bm prog 40 v0 v1) fun D9=>wV (ld prog 3 D9 W) fun DP=>wV (Bm prog 40 v0 v1) fun DI=>wV (B5 prog 3 DI Di W) fun W0=>wV (Bm prog 40 v0 v3) fun DZ=>wV (B5 prog 3 DZ DP W0) fun W1=>(((True)∧((True)∧ld prog 3 D9 W=some DP))∧(((True)∧((True)∧ld prog 3 DE W=some Di))∧True))∧True∧wV (AH prog .add 3 true v1 (.int .i64 1)) fun Dv=>wV (AH prog .sub 3 true v2 (.int .i64 1)) fun C5=>Bj prog AM none 149 168 (.loop (AY prog 149 0)) (Env.of (Env.args [v0,v1,v2,v3]) [(11,C5),(10,Dv),(29,C5),(28,v2),(27,Dv),(26,v1),(25,DZ),(24,DI),(23,DP),(22,D9),(21,v1),(20,v0),(19,Di),(18,DE),(17,v3),(16,v0),(15,v3),(14,v0),(13,v1),(12,v0),(9,(.bool false)),(8,(.int .i64 0))]) [] W1 (Av 0 (aH none K))):=by kernel_rfl
def Lu (ro:Option Nat) (K:AB):AB:=Ag (fun e ds W=>wV (AH prog .add 3 true (e 10) (.int .i64 1)) fun GD=>K .normal (Env.of e [(10,GD),(45,GD),(44,(e 10))]) ds W) K
def Oh (ro:Option Nat) (K:AB):AB:=Ag (fun e ds W=>wI (e 43) ((Lu ro K) .normal e ds W) ((Lu ro K) (.exit 0) e ds W)) (Lu ro K)
theorem rC (ro:Option Nat) (e:Env) (ds:List Deferred) (K:AB) (W:CW):AJ prog AM ro 149 168 (AY prog 149 0) e ds W K=(wV (AH prog .leq 3 false (e 10) (e 11)) fun DY=>wI DY (wV (Bm prog 40 (e 0) (e 10)) fun G9=>wV (ld prog 3 G9 W) fun F1=>wV (Bm prog 40 (e 0) (e 1)) fun EC=>wV (ld prog 3 EC W) fun Df=>AD prog AM 147 [F1,Df] W (AQ (fun GH H5=>(((True)∧ld prog 3 EC W=some Df)∧(((True)∧ld prog 3 G9 W=some F1)∧True))∧True∧(Oh ro K) .normal (Env.of e [(43,GH),(42,GH),(33,(.bool true)),(41,Df),(33,(.bool true)),(40,EC),(33,(.bool true)),(39,(e 1)),(33,(.bool true)),(38,(e 0)),(33,(.bool true)),(37,F1),(33,(.bool true)),(36,G9),(33,(.bool true)),(35,(e 10)),(33,(.bool true)),(34,(e 0)),(33,(.bool true)),(33,DY),(32,DY),(31,(e 11)),(30,(e 10))]) ds H5) (fun qo M4=>False))) (True∧True∧(Oh ro K) .normal (Env.of e [(43,(.bool false)),(42,undef),(33,(.bool false)),(41,undef),(33,(.bool false)),(40,undef),(33,(.bool false)),(39,undef),(33,(.bool false)),(38,undef),(33,(.bool false)),(37,undef),(33,(.bool false)),(36,undef),(33,(.bool false)),(35,undef),(33,(.bool false)),(34,undef),(33,(.bool false)),(33,DY),(32,DY),(31,(e 11)),(30,(e 10))]) ds W)):=by kernel_rfl
def Lv (ro:Option Nat) (K:AB):AB:=Ag (fun e ds W=>wV (AH prog .sub 3 true (e 11) (.int .i64 1)) fun UH=>K .normal (Env.of e [(11,UH),(62,UH),(61,(e 11))]) ds W) K
def Oi (ro:Option Nat) (K:AB):AB:=Ag (fun e ds W=>wI (e 60) ((Lv ro K) .normal e ds W) ((Lv ro K) (.exit 2) e ds W)) (Lv ro K)
theorem rD (ro:Option Nat) (e:Env) (ds:List Deferred) (K:AB) (W:CW):AJ prog AM ro 149 168 (AY prog 149 1) e ds W K=(wV (AH prog .leq 3 false (e 10) (e 11)) fun EZ=>wI EZ (wV (Bm prog 40 (e 0) (e 11)) fun Hn=>wV (ld prog 3 Hn W) fun FX=>wV (Bm prog 40 (e 0) (e 1)) fun D0=>wV (ld prog 3 D0 W) fun IU=>AD prog AM 147 [FX,IU] W (AQ (fun Ju MQ=>wV (KU Ju) fun Ko=>(((True)∧ld prog 3 D0 W=some IU)∧(((True)∧ld prog 3 Hn W=some FX)∧True))∧True∧(Oi ro K) .normal (Env.of e [(60,Ko),(59,Ko),(49,(.bool true)),(58,Ju),(49,(.bool true)),(57,IU),(49,(.bool true)),(56,D0),(49,(.bool true)),(55,(e 1)),(49,(.bool true)),(54,(e 0)),(49,(.bool true)),(53,FX),(49,(.bool true)),(52,Hn),(49,(.bool true)),(51,(e 11)),(49,(.bool true)),(50,(e 0)),(49,(.bool true)),(49,EZ),(48,EZ),(47,(e 11)),(46,(e 10))]) ds MQ) (fun jN LI=>False))) (True∧True∧(Oi ro K) .normal (Env.of e [(60,(.bool false)),(59,undef),(49,(.bool false)),(58,undef),(49,(.bool false)),(57,undef),(49,(.bool false)),(56,undef),(49,(.bool false)),(55,undef),(49,(.bool false)),(54,undef),(49,(.bool false)),(53,undef),(49,(.bool false)),(52,undef),(49,(.bool false)),(51,undef),(49,(.bool false)),(50,undef),(49,(.bool false)),(49,EZ),(48,EZ),(47,(e 11)),(46,(e 10))]) ds W)):=by kernel_rfl
def aI (ro:Option Nat) (K:AB):AB:=Ag (fun e ds W=>wV (AH prog .gtr 3 false (e 10) (e 11)) fun HJ=>wI HJ (K (.exit 4) (Env.of e [(134,HJ),(133,(e 11)),(132,(e 10))]) ds W) (wV (Bm prog 40 (e 0) (e 11)) fun Fj=>wV (ld prog 3 Fj W) fun UK=>wV (Bm prog 40 (e 0) (e 10)) fun Gh=>wV (ld prog 3 Gh W) fun YK=>wV (Bm prog 40 (e 0) (e 10)) fun AA3=>wV (B5 prog 3 AA3 UK W) fun Is=>wV (Bm prog 40 (e 0) (e 11)) fun eI=>wV (B5 prog 3 eI YK Is) fun Nk=>(((True)∧((True)∧ld prog 3 Gh W=some YK))∧(((True)∧((True)∧ld prog 3 Fj W=some UK))∧True))∧True∧wV (AH prog .add 3 true (e 10) (.int .i64 1)) fun jQ=>wV (AH prog .sub 3 true (e 11) (.int .i64 1)) fun jR=>K .normal (Env.of e [(11,jR),(152,jR),(151,(e 11)),(10,jQ),(150,jQ),(149,(e 10)),(148,eI),(147,AA3),(146,YK),(145,Gh),(144,(e 10)),(143,(e 0)),(142,UK),(141,Fj),(140,(e 11)),(139,(e 0)),(138,(e 11)),(137,(e 0)),(136,(e 10)),(135,(e 0)),(134,HJ),(133,(e 11)),(132,(e 10))]) ds Nk)) (Av 5 K)
def aJ (ro:Option Nat) (K:AB):AB:=Ag (fun e ds W=>Bj prog AM ro 149 168 (.loop (AY prog 149 4)) e ds W (Av 8 (aI ro K))) (Av 5 K)
theorem rE (ro:Option Nat) (e:Env) (ds:List Deferred) (K:AB) (W:CW):AJ prog AM ro 149 168 (AY prog 149 2) e ds W K=(Bj prog AM ro 149 168 (.loop (AY prog 149 3)) e ds W (Av 6 (aJ ro K))):=by kernel_rfl
def Lw (ro:Option Nat) (K:AB):AB:=Ag (fun e ds W=>wV (AH prog .add 3 true (e 10) (.int .i64 1)) fun M6=>K .normal (Env.of e [(10,M6),(114,M6),(113,(e 10))]) ds W) K
def Oj (ro:Option Nat) (K:AB):AB:=Ag (fun e ds W=>wI (e 112) ((Lw ro K) .normal e ds W) ((Lw ro K) (.exit 6) e ds W)) (Lw ro K)
theorem rF (ro:Option Nat) (e:Env) (ds:List Deferred) (K:AB) (W:CW):AJ prog AM ro 149 168 (AY prog 149 3) e ds W K=(wV (AH prog .leq 3 false (e 10) (e 11)) fun DC=>wI DC (wV (Bm prog 40 (e 0) (e 10)) fun Gw=>wV (ld prog 3 Gw W) fun Ok=>wV (Bm prog 40 (e 0) (e 1)) fun CY=>wV (ld prog 3 CY W) fun CG=>AD prog AM 147 [Ok,CG] W (AQ (fun UL dt=>(((True)∧ld prog 3 CY W=some CG)∧(((True)∧ld prog 3 Gw W=some Ok)∧True))∧True∧(Oj ro K) .normal (Env.of e [(112,UL),(111,UL),(102,(.bool true)),(110,CG),(102,(.bool true)),(109,CY),(102,(.bool true)),(108,(e 1)),(102,(.bool true)),(107,(e 0)),(102,(.bool true)),(106,Ok),(102,(.bool true)),(105,Gw),(102,(.bool true)),(104,(e 10)),(102,(.bool true)),(103,(e 0)),(102,(.bool true)),(102,DC),(101,DC),(100,(e 11)),(99,(e 10))]) ds dt) (fun AAq cQ=>False))) (True∧True∧(Oj ro K) .normal (Env.of e [(112,(.bool false)),(111,undef),(102,(.bool false)),(110,undef),(102,(.bool false)),(109,undef),(102,(.bool false)),(108,undef),(102,(.bool false)),(107,undef),(102,(.bool false)),(106,undef),(102,(.bool false)),(105,undef),(102,(.bool false)),(104,undef),(102,(.bool false)),(103,undef),(102,(.bool false)),(102,DC),(101,DC),(100,(e 11)),(99,(e 10))]) ds W)):=by kernel_rfl
def Lx (ro:Option Nat) (K:AB):AB:=Ag (fun e ds W=>wV (AH prog .sub 3 true (e 11) (.int .i64 1)) fun E9=>K .normal (Env.of e [(11,E9),(131,E9),(130,(e 11))]) ds W) K
def Ol (ro:Option Nat) (K:AB):AB:=Ag (fun e ds W=>wI (e 129) ((Lx ro K) .normal e ds W) ((Lx ro K) (.exit 8) e ds W)) (Lx ro K)
theorem rG (ro:Option Nat) (e:Env) (ds:List Deferred) (K:AB) (W:CW):AJ prog AM ro 149 168 (AY prog 149 4) e ds W K=(wV (AH prog .leq 3 false (e 10) (e 11)) fun DO=>wI DO (wV (Bm prog 40 (e 0) (e 11)) fun Kn=>wV (ld prog 3 Kn W) fun UM=>wV (Bm prog 40 (e 0) (e 1)) fun ED=>wV (ld prog 3 ED W) fun DV=>AD prog AM 147 [UM,DV] W (AQ (fun No gd=>wV (KU No) fun jS=>(((True)∧ld prog 3 ED W=some DV)∧(((True)∧ld prog 3 Kn W=some UM)∧True))∧True∧(Ol ro K) .normal (Env.of e [(129,jS),(128,jS),(118,(.bool true)),(127,No),(118,(.bool true)),(126,DV),(118,(.bool true)),(125,ED),(118,(.bool true)),(124,(e 1)),(118,(.bool true)),(123,(e 0)),(118,(.bool true)),(122,UM),(118,(.bool true)),(121,Kn),(118,(.bool true)),(120,(e 11)),(118,(.bool true)),(119,(e 0)),(118,(.bool true)),(118,DO),(117,DO),(116,(e 11)),(115,(e 10))]) ds gd) (fun ADT pZ=>False))) (True∧True∧(Ol ro K) .normal (Env.of e [(129,(.bool false)),(128,undef),(118,(.bool false)),(127,undef),(118,(.bool false)),(126,undef),(118,(.bool false)),(125,undef),(118,(.bool false)),(124,undef),(118,(.bool false)),(123,undef),(118,(.bool false)),(122,undef),(118,(.bool false)),(121,undef),(118,(.bool false)),(120,undef),(118,(.bool false)),(119,undef),(118,(.bool false)),(118,DO),(117,DO),(116,(e 11)),(115,(e 10))]) ds W)):=by kernel_rfl
theorem eJ (Q:Ending→CW→Prop) (e:Env) (W:CW):AI prog Tryz.f149 Q .ret e [] W=Q (.returned (.tuple #[e 8,e 9])) W:=by kernel_rfl
theorem wE {Q:Ending→CW→Prop} {v0 v1 v2 v3:Value} {W:CW} (h:AJ prog AM none 149 168 (AK prog 149) (Env.args [v0,v1,v2,v3]) [] W (AI prog Tryz.f149 Q)):AD prog AM 149 [v0,v1,v2,v3] W Q:=AX Tryz.func149 (by kernel_rfl) (by kernel_rfl) (by kernel_rfl) (by kernel_rfl) (by kernel_rfl) h
theorem wF (v0:Value) (K:AB) (W:CW):AJ prog AM none 151 7 (AK prog 151) (Env.args [v0]) [] W K=(wV (cO prog 3 164 v0) fun v4=>AD prog AM 116 [v4] W (AQ (fun v5 W0=>wV (AH prog .shl 164 true (.int .u64 1) v5) fun v6=>K .ret (Env.of (Env.args [v0]) [(2,v6),(6,v6),(5,v5),(4,v4),(3,v0),(2,(.int .u64 0))]) [] W0) (fun Jh W1=>K (.panic Jh) (Env.of (Env.args [v0]) [(4,v4),(3,v0),(2,(.int .u64 0))]) [] W1))):=by kernel_rfl
theorem eK (Q:Ending→CW→Prop) (e:Env) (W:CW):AI prog Tryz.f151 Q .ret e [] W=Q (.returned (e 2)) W:=by kernel_rfl
theorem wG {Q:Ending→CW→Prop} {v0:Value} {W:CW} (h:AJ prog AM none 151 7 (AK prog 151) (Env.args [v0]) [] W (AI prog Tryz.f151 Q)):AD prog AM 151 [v0] W Q:=AX Tryz.func151 (by kernel_rfl) (by kernel_rfl) (by kernel_rfl) (by kernel_rfl) (by kernel_rfl) h
theorem wH (v0:Value) (K:AB) (W:CW):AJ prog AM none 152 33 (AK prog 152) (Env.args [v0]) [] W K=(wV (HV v0) fun v4=>wV (ld prog 205 v4 W) fun v5=>wV (HV v0) fun v7=>wV (ld prog 205 v7 W) fun v8=>wV (AH prog .shl 205 true v8 (.int .u64 13)) fun v9=>wV (AH prog .xor 205 false v5 v9) fun v10=>wV (HV v0) fun v11=>wV (B5 prog 205 v11 v10 W) fun W0=>(((True)∧ld prog 205 v7 W=some v8)∧(((True)∧ld prog 205 v4 W=some v5)∧True))∧True∧wV (HV v0) fun C2=>wV (ld prog 205 C2 W0) fun Bu=>wV (HV v0) fun CI=>wV (ld prog 205 CI W0) fun CH=>wV (AH prog .shr 205 true CH (.int .u64 7)) fun DE=>wV (AH prog .xor 205 false Bu DE) fun Di=>wV (HV v0) fun v20=>wV (B5 prog 205 v20 Di W0) fun W1=>(((True)∧ld prog 205 CI W0=some CH)∧(((True)∧ld prog 205 C2 W0=some Bu)∧True))∧True∧wV (HV v0) fun D9=>wV (ld prog 205 D9 W1) fun DP=>wV (HV v0) fun DZ=>wV (ld prog 205 DZ W1) fun Et=>wV (AH prog .shl 205 true Et (.int .u64 17)) fun Dv=>wV (AH prog .xor 205 false DP Dv) fun Dx=>wV (HV v0) fun C5=>wV (B5 prog 205 C5 Dx W1) fun W2=>(((True)∧ld prog 205 DZ W1=some Et)∧(((True)∧ld prog 205 D9 W1=some DP)∧True))∧True∧wV (HV v0) fun Dg=>wV (ld prog 205 Dg W2) fun DY=>K .ret (Env.of (Env.args [v0]) [(2,DY),(32,DY),(31,Dg),(30,v0),(29,C5),(28,Dx),(27,Dv),(26,Et),(25,DZ),(24,v0),(23,DP),(22,D9),(21,v0),(20,v20),(19,Di),(18,DE),(17,CH),(16,CI),(15,v0),(14,Bu),(13,C2),(12,v0),(11,v11),(10,v10),(9,v9),(8,v8),(7,v7),(6,v0),(5,v5),(4,v4),(3,v0),(2,(.int .u64 0))]) [] W2):=by kernel_rfl
theorem eL (Q:Ending→CW→Prop) (e:Env) (W:CW):AI prog Tryz.f152 Q .ret e [] W=Q (.returned (e 2)) W:=by kernel_rfl
theorem wJ {Q:Ending→CW→Prop} {v0:Value} {W:CW} (h:AJ prog AM none 152 33 (AK prog 152) (Env.args [v0]) [] W (AI prog Tryz.f152 Q)):AD prog AM 152 [v0] W Q:=AX Tryz.func152 (by kernel_rfl) (by kernel_rfl) (by kernel_rfl) (by kernel_rfl) (by kernel_rfl) h
theorem wK (v0 v1 v2 v3:Value) (K:AB) (W:CW):AJ prog AM none 156 76 (AK prog 156) (Env.args [v0,v1,v2,v3]) [] W K=(Bj prog AM none 156 76 (.loop (AY prog 156 0)) (Env.of (Env.args [v0,v1,v2,v3]) [(8,v1),(10,v1)]) [] W (Av 0 K)):=by kernel_rfl
def Om (ro:Option Nat) (K:AB):AB:=Ag (fun e ds W=>wV (AH prog .add 3 false (e 3) (e 8)) fun GH=>wV (Bm prog 40 (e 0) GH) fun Fq=>wV (ld prog 3 Fq W) fun Nl=>wV (AH prog .add 3 false (e 3) (e 9)) fun EZ=>wV (Bm prog 40 (e 0) EZ) fun HL=>wV (ld prog 3 HL W) fun F_=>AD prog AM 147 [Nl,F_] W (AQ (fun GF W0=>wV (KU GF) fun Hn=>(((True)∧ld prog 3 HL W=some F_)∧(((True)∧ld prog 3 Fq W=some Nl)∧True))∧True∧wI Hn (K .ret (Env.of e [(52,Hn),(51,GF),(50,F_),(49,HL),(48,EZ),(47,(e 9)),(46,(e 3)),(45,(e 0)),(44,Nl),(43,Fq),(42,GH),(41,(e 8)),(40,(e 3)),(39,(e 0))]) ds W0) (wV (AH prog .add 3 false (e 3) (e 8)) fun D0=>wV (AH prog .add 3 false (e 3) (e 9)) fun GN=>wV (AH prog .add 3 false (e 3) (e 9)) fun Hx=>wV (Bm prog 40 (e 0) Hx) fun JV=>wV (ld prog 3 JV W0) fun IV=>wV (AH prog .add 3 false (e 3) (e 8)) fun Jj=>wV (Bm prog 40 (e 0) Jj) fun M5=>wV (ld prog 3 M5 W0) fun JU=>wV (Bm prog 40 (e 0) D0) fun Vu=>wV (B5 prog 3 Vu IV W0) fun W2=>wV (Bm prog 40 (e 0) GN) fun MS=>wV (B5 prog 3 MS JU W2) fun W3=>(((True)∧((True)∧ld prog 3 M5 W0=some JU))∧(((True)∧((True)∧ld prog 3 JV W0=some IV))∧True))∧True∧K .normal (Env.of e [(8,(e 9)),(75,(e 9)),(74,MS),(73,Vu),(72,JU),(71,M5),(70,Jj),(69,(e 8)),(68,(e 3)),(67,(e 0)),(66,IV),(65,JV),(64,Hx),(63,(e 9)),(62,(e 3)),(61,(e 0)),(60,GN),(59,(e 9)),(58,(e 3)),(57,(e 0)),(56,D0),(55,(e 8)),(54,(e 3)),(53,(e 0)),(52,Hn),(51,GF),(50,F_),(49,HL),(48,EZ),(47,(e 9)),(46,(e 3)),(45,(e 0)),(44,Nl),(43,Fq),(42,GH),(41,(e 8)),(40,(e 3)),(39,(e 0))]) ds W3)) (fun Jh W1=>False))) (Av 1 K)
def S1 (ro:Option Nat) (K:AB):AB:=Ag (fun e ds W=>wI (e 36) (wV (AH prog .add 3 true (e 9) (.int .i64 1)) fun H6=>(Om ro K) .normal (Env.of e [(9,H6),(38,H6),(37,(e 9))]) ds W) ((Om ro K) .normal e ds W)) (Om ro K)
theorem rH (ro:Option Nat) (e:Env) (ds:List Deferred) (K:AB) (W:CW):AJ prog AM ro 156 76 (AY prog 156 0) e ds W K=(wV (AH prog .mul 3 true (.int .i64 2) (e 8)) fun CV=>wV (AH prog .add 3 true CV (.int .i64 1)) fun C2=>wV (AH prog .geq 3 false C2 (e 2)) fun CI=>wI CI (K (.exit 0) (Env.of e [(16,CI),(15,(e 2)),(14,C2),(9,C2),(13,C2),(12,CV),(11,(e 8))]) ds W) (wV (AH prog .add 3 true C2 (.int .i64 1)) fun DE=>wV (AH prog .lss 3 false DE (e 2)) fun v20=>wI v20 (wV (AH prog .add 3 false (e 3) C2) fun DZ=>wV (Bm prog 40 (e 0) DZ) fun Et=>wV (ld prog 3 Et W) fun Dv=>wV (AH prog .add 3 false (e 3) C2) fun Dg=>wV (AH prog .add 3 true Dg (.int .i64 1)) fun DY=>wV (Bm prog 40 (e 0) DY) fun FJ=>wV (ld prog 3 FJ W) fun EH=>AD prog AM 147 [Dv,EH] W (AQ (fun FL W6=>(((True)∧ld prog 3 FJ W=some EH)∧(((True)∧ld prog 3 Et W=some Dv)∧True))∧True∧(S1 ro K) .normal (Env.of e [(36,FL),(35,FL),(21,(.bool true)),(34,EH),(21,(.bool true)),(33,FJ),(21,(.bool true)),(32,DY),(21,(.bool true)),(31,Dg),(21,(.bool true)),(30,C2),(21,(.bool true)),(29,(e 3)),(21,(.bool true)),(28,(e 0)),(21,(.bool true)),(27,Dv),(21,(.bool true)),(26,Et),(21,(.bool true)),(25,DZ),(21,(.bool true)),(24,C2),(21,(.bool true)),(23,(e 3)),(21,(.bool true)),(22,(e 0)),(21,(.bool true)),(21,v20),(20,v20),(19,(e 2)),(18,DE),(17,C2),(16,CI),(15,(e 2)),(14,C2),(9,C2),(13,C2),(12,CV),(11,(e 8))]) ds W6) (fun qi W7=>False))) (True∧True∧(S1 ro K) .normal (Env.of e [(36,(.bool false)),(35,undef),(21,(.bool false)),(34,undef),(21,(.bool false)),(33,undef),(21,(.bool false)),(32,undef),(21,(.bool false)),(31,undef),(21,(.bool false)),(30,undef),(21,(.bool false)),(29,undef),(21,(.bool false)),(28,undef),(21,(.bool false)),(27,undef),(21,(.bool false)),(26,undef),(21,(.bool false)),(25,undef),(21,(.bool false)),(24,undef),(21,(.bool false)),(23,undef),(21,(.bool false)),(22,undef),(21,(.bool false)),(21,v20),(20,v20),(19,(e 2)),(18,DE),(17,C2),(16,CI),(15,(e 2)),(14,C2),(9,C2),(13,C2),(12,CV),(11,(e 8))]) ds W))):=by kernel_rfl
theorem wL {Q:Ending→CW→Prop} {v0 v1 v2 v3:Value} {W:CW} (h:AJ prog AM none 156 76 (AK prog 156) (Env.args [v0,v1,v2,v3]) [] W (AI prog Tryz.f156 Q)):AD prog AM 156 [v0,v1,v2,v3] W Q:=AX Tryz.func156 (by kernel_rfl) (by kernel_rfl) (by kernel_rfl) (by kernel_rfl) (by kernel_rfl) h
theorem wM (v0 v1 v2 v3 v4:Value) (K:AB) (W:CW):AJ prog AM none 158 36 (AK prog 158) (Env.args [v0,v1,v2,v3,v4]) [] W K=(AD prog AM 161 [v0,v1,v2,v4] W (AQ (fun CI W0=>wV (ext CI 0) fun CH=>wV (ext CI 1) fun DE=>AD prog AM 161 [v0,DE,v3,v4] W0 (AQ (fun DI W2=>wV (ext DI 0) fun DZ=>wV (ext DI 1) fun Et=>AD prog AM 161 [v0,CH,DZ,v4] W2 (AQ (fun DY W4=>wV (ext DY 0) fun FJ=>wV (ext DY 1) fun EH=>K .ret (Env.of (Env.args [v0,v1,v2,v3,v4]) [(10,EH),(35,EH),(2,EH),(1,FJ),(34,EH),(33,FJ),(27,DY),(32,DY),(31,v4),(30,DZ),(29,CH),(28,v0),(3,Et),(2,DZ),(26,Et),(25,DZ),(19,DI),(24,DI),(23,v4),(22,v3),(21,DE),(20,v0),(2,DE),(1,CH),(18,DE),(17,CH),(11,CI),(16,CI),(15,v4),(14,v2),(13,v1),(12,v0),(10,(.int .i64 0))]) [] W4) (fun jL W5=>K (.panic jL) (Env.of (Env.args [v0,v1,v2,v3,v4]) [(31,v4),(30,DZ),(29,CH),(28,v0),(3,Et),(2,DZ),(26,Et),(25,DZ),(19,DI),(24,DI),(23,v4),(22,v3),(21,DE),(20,v0),(2,DE),(1,CH),(18,DE),(17,CH),(11,CI),(16,CI),(15,v4),(14,v2),(13,v1),(12,v0),(10,(.int .i64 0))]) [] W5))) (fun PS W3=>K (.panic PS) (Env.of (Env.args [v0,v1,v2,v3,v4]) [(23,v4),(22,v3),(21,DE),(20,v0),(2,DE),(1,CH),(18,DE),(17,CH),(11,CI),(16,CI),(15,v4),(14,v2),(13,v1),(12,v0),(10,(.int .i64 0))]) [] W3))) (fun Jh W1=>K (.panic Jh) (Env.of (Env.args [v0,v1,v2,v3,v4]) [(15,v4),(14,v2),(13,v1),(12,v0),(10,(.int .i64 0))]) [] W1))):=by kernel_rfl
theorem eM (Q:Ending→CW→Prop) (e:Env) (W:CW):AI prog Tryz.f158 Q .ret e [] W=Q (.returned (e 10)) W:=by kernel_rfl
theorem wN {Q:Ending→CW→Prop} {v0 v1 v2 v3 v4:Value} {W:CW} (h:AJ prog AM none 158 36 (AK prog 158) (Env.args [v0,v1,v2,v3,v4]) [] W (AI prog Tryz.f158 Q)):AD prog AM 158 [v0,v1,v2,v3,v4] W Q:=AX Tryz.func158 (by kernel_rfl) (by kernel_rfl) (by kernel_rfl) (by kernel_rfl) (by kernel_rfl) h
theorem wO (v0 v1 v2 v3:Value) (K:AB) (W:CW):AJ prog AM none 161 28 (AK prog 161) (Env.args [v0,v1,v2,v3]) [] W K=(wV (Bm prog 40 v0 v2) fun CV=>wV (ld prog 3 CV W) fun C2=>wV (Bm prog 40 v0 v1) fun CI=>wV (ld prog 3 CI W) fun CH=>AD prog AM 147 [C2,CH] W (AQ (fun DE W0=>(((True)∧ld prog 3 CI W=some CH)∧(((True)∧ld prog 3 CV W=some C2)∧True))∧True∧wI DE (wV (HV v3) fun v20=>wV (ld prog 3 v20 W0) fun DQ=>wV (AH prog .add 3 true DQ (.int .i64 1)) fun D9=>wV (HV v3) fun DP=>wV (B5 prog 3 DP D9 W0) fun W2=>K .ret (Env.of (Env.args [v0,v1,v2,v3]) [(9,v1),(8,v2),(25,v1),(24,v2),(23,DP),(22,D9),(21,DQ),(20,v20),(19,v3),(18,DE),(17,CH),(16,CI),(15,v1),(14,v0),(13,C2),(12,CV),(11,v2),(10,v0),(9,(.int .i64 0)),(8,(.int .i64 0))]) [] W2) (K .ret (Env.of (Env.args [v0,v1,v2,v3]) [(9,v2),(8,v1),(27,v2),(26,v1),(18,DE),(17,CH),(16,CI),(15,v1),(14,v0),(13,C2),(12,CV),(11,v2),(10,v0),(9,(.int .i64 0)),(8,(.int .i64 0))]) [] W0)) (fun Jh W1=>False))):=by kernel_rfl
theorem UN (Q:Ending→CW→Prop) (e:Env) (W:CW):AI prog Tryz.f161 Q .ret e [] W=Q (.returned (.tuple #[e 8,e 9])) W:=by kernel_rfl
theorem wP {Q:Ending→CW→Prop} {v0 v1 v2 v3:Value} {W:CW} (h:AJ prog AM none 161 28 (AK prog 161) (Env.args [v0,v1,v2,v3]) [] W (AI prog Tryz.f161 Q)):AD prog AM 161 [v0,v1,v2,v3] W Q:=AX Tryz.func161 (by kernel_rfl) (by kernel_rfl) (by kernel_rfl) (by kernel_rfl) (by kernel_rfl) h
end Go.Ce
namespace Go.Ce
open Go Go.Proofs Go.Proofs.Tryz
end Go.Ce
namespace Go.Ce
open Go Go.Proofs Go.Proofs.Tryz
def YL (ro:Option Nat) (K:AB):AB:=Ag (fun e ds W=>K .ret e ds W) K
theorem wQ (v0 v1 v2:Value) (K:AB) (W:CW):AJ prog AM none 103 15 (AK prog 103) (Env.args [v0,v1,v2]) [] W K=(wV (AH prog .geq 3 false v0 v1) fun v9=>wI v9 (wV (AH prog .leq 3 false v0 v2) fun C2=>(YL none K) .normal (Env.of (Env.args [v0,v1,v2]) [(6,C2),(14,C2),(13,C2),(10,(.bool true)),(12,v2),(10,(.bool true)),(11,v0),(10,(.bool true)),(10,v9),(9,v9),(8,v1),(7,v0),(6,(.bool false))]) [] W) ((YL none K) .normal (Env.of (Env.args [v0,v1,v2]) [(6,(.bool false)),(14,(.bool false)),(13,undef),(10,(.bool false)),(12,undef),(10,(.bool false)),(11,undef),(10,(.bool false)),(10,v9),(9,v9),(8,v1),(7,v0),(6,(.bool false))]) [] W)):=by kernel_rfl
theorem eN (Q:Ending→CW→Prop) (e:Env) (W:CW):AI prog Tryz.f103 Q .ret e [] W=Q (.returned (e 6)) W:=by kernel_rfl
theorem wR {Q:Ending→CW→Prop} {v0 v1 v2:Value} {W:CW} (h:AJ prog AM none 103 15 (AK prog 103) (Env.args [v0,v1,v2]) [] W (AI prog Tryz.f103 Q)):AD prog AM 103 [v0,v1,v2] W Q:=AX Tryz.func103 (by kernel_rfl) (by kernel_rfl) (by kernel_rfl) (by kernel_rfl) (by kernel_rfl) h
def YM (ro:Option Nat) (K:AB):AB:=Ag (fun e ds W=>K .ret e ds W) K
theorem wS (v0:Value) (K:AB) (W:CW):AJ prog AM none 100 9 (AK prog 100) (Env.args [v0]) [] W K=(wV (AH prog .eql 5 true v0 (.int .u8 1)) fun v4=>wI v4 ((YM none K) .normal (Env.of (Env.args [v0]) [(2,(.bool true)),(8,(.bool true)),(7,undef),(5,(.bool true)),(6,undef),(5,(.bool true)),(5,v4),(4,v4),(3,v0),(2,(.bool false))]) [] W) (wV (AH prog .eql 5 true v0 (.int .u8 2)) fun v7=>(YM none K) .normal (Env.of (Env.args [v0]) [(2,v7),(8,v7),(7,v7),(5,(.bool false)),(6,v0),(5,(.bool false)),(5,v4),(4,v4),(3,v0),(2,(.bool false))]) [] W)):=by kernel_rfl
theorem eO (Q:Ending→CW→Prop) (e:Env) (W:CW):AI prog Tryz.f100 Q .ret e [] W=Q (.returned (e 2)) W:=by kernel_rfl
theorem wT {Q:Ending→CW→Prop} {v0:Value} {W:CW} (h:AJ prog AM none 100 9 (AK prog 100) (Env.args [v0]) [] W (AI prog Tryz.f100 Q)):AD prog AM 100 [v0] W Q:=AX Tryz.func100 (by kernel_rfl) (by kernel_rfl) (by kernel_rfl) (by kernel_rfl) (by kernel_rfl) h
def MW (ro:Option Nat) (K:AB):AB:=Ag (fun e ds W=>K .ret e ds W) K
theorem wU (v0:Value) (K:AB) (W:CW):AJ prog AM none 101 12 (AK prog 101) (Env.args [v0]) [] W K=(wV (A8 prog 9 v0 W) fun v4=>AD prog AM 103 [v4,(.int .i64 1),(.int .i64 60)] W (AQ (fun v5 W1=>wI v5 (CZ (u_ prog 9 29 v0 W1) fun v8 W3=>AD prog AM 123 [v8,(.func (.func 124) #[] #[])] W3 (AQ (fun v9 W4=>wV (KU v9) fun v10=>(MW none K) .normal (Env.of (Env.args [v0]) [(2,v10),(11,v10),(10,v10),(6,(.bool true)),(9,v9),(6,(.bool true)),(8,v8),(6,(.bool true)),(7,v0),(6,(.bool true)),(6,v5),(5,v5),(4,v4),(3,v0),(2,(.bool false))]) [] W4) (fun jL W5=>(MW none K) (.panic jL) (Env.of (Env.args [v0]) [(6,(.bool true)),(8,v8),(6,(.bool true)),(7,v0),(6,(.bool true)),(6,v5),(5,v5),(4,v4),(3,v0),(2,(.bool false))]) [] W5))) ((MW none K) .normal (Env.of (Env.args [v0]) [(2,(.bool false)),(11,(.bool false)),(10,undef),(6,(.bool false)),(9,undef),(6,(.bool false)),(8,undef),(6,(.bool false)),(7,undef),(6,(.bool false)),(6,v5),(5,v5),(4,v4),(3,v0),(2,(.bool false))]) [] W1)) (fun dw W2=>(MW none K) (.panic dw) (Env.of (Env.args [v0]) [(4,v4),(3,v0),(2,(.bool false))]) [] W2))):=by kernel_rfl
theorem UO (Q:Ending→CW→Prop) (e:Env) (W:CW):AI prog Tryz.f101 Q .ret e [] W=Q (.returned (e 2)) W:=by kernel_rfl
theorem wX {Q:Ending→CW→Prop} {v0:Value} {W:CW} (h:AJ prog AM none 101 12 (AK prog 101) (Env.args [v0]) [] W (AI prog Tryz.f101 Q)):AD prog AM 101 [v0] W Q:=AX Tryz.func101 (by kernel_rfl) (by kernel_rfl) (by kernel_rfl) (by kernel_rfl) (by kernel_rfl) h
theorem wY (v0 v1:Value) (K:AB) (W:CW):AJ prog AM none 123 9 (AK prog 123) (Env.args [v0,v1]) [] W K=(AD prog AM 140 [v0,v1] W (AQ (fun v7 W0=>wV (AH prog .geq 3 true v7 (.int .i64 0)) fun v8=>K .ret (Env.of (Env.args [v0,v1]) [(4,v8),(8,v8),(7,v7),(6,v1),(5,v0),(4,(.bool false))]) [] W0) (fun Jh W1=>K (.panic Jh) (Env.of (Env.args [v0,v1]) [(6,v1),(5,v0),(4,(.bool false))]) [] W1))):=by kernel_rfl
theorem eP (Q:Ending→CW→Prop) (e:Env) (W:CW):AI prog Tryz.f123 Q .ret e [] W=Q (.returned (e 4)) W:=by kernel_rfl
theorem wZ {Q:Ending→CW→Prop} {v0 v1:Value} {W:CW} (h:AJ prog AM none 123 9 (AK prog 123) (Env.args [v0,v1]) [] W (AI prog Tryz.f123 Q)):AD prog AM 123 [v0,v1] W Q:=AX Tryz.func123 (by kernel_rfl) (by kernel_rfl) (by kernel_rfl) (by kernel_rfl) (by kernel_rfl) h
def YN (ro:Option Nat) (K:AB):AB:=Ag (fun e ds W=>K .ret (Env.of e [(4,(.int .i64 (-1)))]) ds W) K
theorem wa (v0 v1:Value) (K:AB) (W:CW):AJ prog AM none 140 19 (AK prog 140) (Env.args [v0,v1]) [] W K=(wV (A8 prog 29 v0 W) fun v7=>Bj prog AM none 140 19 (.loop (AY prog 140 0)) (Env.of (Env.args [v0,v1]) [(8,(.int .i64 0)),(7,v7),(6,v0),(4,(.int .i64 0))]) [] W (Av 0 (YN none K))):=by kernel_rfl
def On (ro:Option Nat) (K:AB):AB:=Ag (fun e ds W=>wV (AH prog .add 3 true (e 8) (.int .i64 1)) fun DE=>K .normal (Env.of e [(8,DE),(18,DE)]) ds W) K
theorem rI (ro:Option Nat) (e:Env) (ds:List Deferred) (K:AB) (W:CW):AJ prog AM ro 140 19 (AY prog 140 0) e ds W K=(wV (AH prog .lss 3 false (e 8) (e 7)) fun v9=>wI v9 (wV (Bm prog 29 (e 0) (e 8)) fun Bu=>wV (ld prog 5 Bu W) fun Bh=>Ej prog AM (e 1) [Bh] W (fun CI W2=>wI CI ((On ro K) .ret (Env.of e [(4,(e 8)),(17,(e 8)),(16,CI),(15,Bh),(14,Bu),(13,(e 8)),(12,(e 0)),(11,(e 1)),(5,(e 8)),(10,(e 8)),(9,v9)]) ds W2) ((On ro K) .normal (Env.of e [(16,CI),(15,Bh),(14,Bu),(13,(e 8)),(12,(e 0)),(11,(e 1)),(5,(e 8)),(10,(e 8)),(9,v9)]) ds W2)) (fun PS W3=>(On ro K) (.panic PS) (Env.of e [(15,Bh),(14,Bu),(13,(e 8)),(12,(e 0)),(11,(e 1)),(5,(e 8)),(10,(e 8)),(9,v9)]) ds W3)) (K (.exit 0) (Env.of e [(9,v9)]) ds W)):=by kernel_rfl
theorem UP (Q:Ending→CW→Prop) (e:Env) (W:CW):AI prog Tryz.f140 Q .ret e [] W=Q (.returned (e 4)) W:=by kernel_rfl
theorem wc {Q:Ending→CW→Prop} {v0 v1:Value} {W:CW} (h:AJ prog AM none 140 19 (AK prog 140) (Env.args [v0,v1]) [] W (AI prog Tryz.f140 Q)):AD prog AM 140 [v0,v1] W Q:=AX Tryz.func140 (by kernel_rfl) (by kernel_rfl) (by kernel_rfl) (by kernel_rfl) (by kernel_rfl) h
def YO (ro:Option Nat) (K:AB):AB:=Ag (fun e ds W=>K .ret e ds W) K
theorem we (v0:Value) (K:AB) (W:CW):AJ prog AM none 124 9 (AK prog 124) (Env.args [v0]) [] W K=(wV (AH prog .lss 5 true v0 (.int .u8 33)) fun v4=>wI v4 ((YO none K) .normal (Env.of (Env.args [v0]) [(2,(.bool true)),(8,(.bool true)),(7,undef),(5,(.bool true)),(6,undef),(5,(.bool true)),(5,v4),(4,v4),(3,v0),(2,(.bool false))]) [] W) (wV (AH prog .gtr 5 true v0 (.int .u8 126)) fun v7=>(YO none K) .normal (Env.of (Env.args [v0]) [(2,v7),(8,v7),(7,v7),(5,(.bool false)),(6,v0),(5,(.bool false)),(5,v4),(4,v4),(3,v0),(2,(.bool false))]) [] W)):=by kernel_rfl
theorem eQ (Q:Ending→CW→Prop) (e:Env) (W:CW):AI prog Tryz.f124 Q .ret e [] W=Q (.returned (e 2)) W:=by kernel_rfl
theorem wg {Q:Ending→CW→Prop} {v0:Value} {W:CW} (h:AJ prog AM none 124 9 (AK prog 124) (Env.args [v0]) [] W (AI prog Tryz.f124 Q)):AD prog AM 124 [v0] W Q:=AX Tryz.func124 (by kernel_rfl) (by kernel_rfl) (by kernel_rfl) (by kernel_rfl) (by kernel_rfl) h
theorem wh (v0 v1:Value) (K:AB) (W:CW):AJ prog AM none 102 17 (AK prog 102) (Env.args [v0,v1]) [] W K=(CZ (SZ prog 78 v0 W) fun v2 W0=>CZ (tI W0) fun v9 W1=>CZ (H2 prog 181 W1) fun v6 W2=>wV (B5 prog 181 v6 v9 W2) fun W3=>CZ (tI W3) fun v10 W4=>CZ (H2 prog 181 W4) fun v7 W5=>wV (B5 prog 181 v7 v10 W5) fun W6=>CZ (H2 prog 161 W6) fun v8 W7=>wV (some (.func (.func 125) #[] #[v2,v6,v8,v7])) fun v11=>wV (B5 prog 161 v8 v11 W7) fun W8=>wV (ld prog 161 v8 W8) fun CV=>Ej prog AM CV [v1] W8 (fun Bu W9=>wV (ext Bu 0) fun Bh=>wV (ext Bu 1) fun CI=>K .ret (Env.of (Env.args [v0,v1]) [(5,CI),(4,Bh),(16,CI),(15,Bh),(14,Bu),(13,v1),(12,CV),(11,v11),(8,v8),(7,v7),(10,v10),(6,v6),(9,v9),(5,(.bool false)),(4,(.slice none 0 0)),(2,v2)]) [] W9) (fun aF Rq=>K (.panic aF) (Env.of (Env.args [v0,v1]) [(13,v1),(12,CV),(11,v11),(8,v8),(7,v7),(10,v10),(6,v6),(9,v9),(5,(.bool false)),(4,(.slice none 0 0)),(2,v2)]) [] Rq)):=by kernel_rfl
theorem UQ (Q:Ending→CW→Prop) (e:Env) (W:CW):AI prog Tryz.f102 Q .ret e [] W=Q (.returned (.tuple #[e 4,e 5])) W:=by kernel_rfl
theorem wi {Q:Ending→CW→Prop} {v0 v1:Value} {W:CW} (h:AJ prog AM none 102 17 (AK prog 102) (Env.args [v0,v1]) [] W (AI prog Tryz.f102 Q)):AD prog AM 102 [v0,v1] W Q:=AX Tryz.func102 (by kernel_rfl) (by kernel_rfl) (by kernel_rfl) (by kernel_rfl) (by kernel_rfl) h
def JA (ro:Option Nat) (K:AB):AB:=Ag (fun e ds W=>wV (A8 prog 29 (e 10) W) fun ZE=>wV (AH prog .leq 3 true ZE (.int .i64 60)) fun cR=>K .ret (Env.of e [(7,cR),(6,(e 10)),(83,cR),(82,ZE),(81,(e 10)),(80,(e 10))]) ds W) K
def Fs (ro:Option Nat) (K:AB):AB:=Ag (fun e ds W=>wV (BD prog 48 (e 8) 2) fun EZ=>wV (ld prog 45 EZ W) fun HL=>wV (A8 prog 45 HL W) fun F_=>Bj prog AM ro 125 84 (.loop (AY prog 125 0)) (Env.of e [(51,(.int .i64 0)),(50,F_),(49,HL),(48,EZ)]) ds W (Av 0 (JA ro K))) K
def MX (ro:Option Nat) (K:AB):AB:=Ag (fun e ds W=>wV (ld prog 181 (e 2) W) fun Dv=>wV (cP prog 181 Dv (e 0) (.bool true) W) fun W2=>wV (BD prog 48 (e 8) 1) fun C5=>wV (ld prog 9 C5 W2) fun v30=>wV (AH prog .neq 9 true v30 (.string ⟨#[]⟩)) fun Dg=>wI Dg (wV (BD prog 78 (e 1) 0) fun DY=>wV (ld prog 75 DY W2) fun FJ=>wV (BD prog 48 (e 8) 1) fun EH=>wV (ld prog 9 EH W2) fun FL=>wV (HW prog 75 FJ FL false W2) fun G9=>wV (vB prog 48 G9 3) fun F1=>wV (AH prog .neq 5 true F1 (.int .u8 0)) fun H6=>wI H6 ((Fs ro K) .ret (Env.of e [(7,(.bool false)),(6,(.slice none 0 0)),(38,H6),(37,F1),(36,G9),(35,FL),(34,EH),(33,FJ),(32,DY),(31,Dg),(30,v30),(29,C5),(10,(.slice none 0 0)),(28,(e 0)),(27,Dv)]) ds W2) (wV (ld prog 161 (e 3) W2) fun EC=>wV (BD prog 48 (e 8) 1) fun Df=>wV (ld prog 9 Df W2) fun GH=>Ej prog AM EC [GH] W2 (fun Fq W5=>wV (ext Fq 0) fun Nl=>wV (ext Fq 1) fun GD=>wV (KU GD) fun Fk=>wI Fk ((Fs ro K) .ret (Env.of e [(7,(.bool false)),(6,(.slice none 0 0)),(47,Fk),(46,GD),(9,GD),(10,Nl),(45,GD),(44,Nl),(39,Fq),(43,Fq),(42,GH),(41,Df),(40,EC),(38,H6),(37,F1),(36,G9),(35,FL),(34,EH),(33,FJ),(32,DY),(31,Dg),(30,v30),(29,C5),(10,(.slice none 0 0)),(28,(e 0)),(27,Dv)]) ds W5) ((Fs ro K) .normal (Env.of e [(47,Fk),(46,GD),(9,GD),(10,Nl),(45,GD),(44,Nl),(39,Fq),(43,Fq),(42,GH),(41,Df),(40,EC),(38,H6),(37,F1),(36,G9),(35,FL),(34,EH),(33,FJ),(32,DY),(31,Dg),(30,v30),(29,C5),(10,(.slice none 0 0)),(28,(e 0)),(27,Dv)]) ds W5)) (fun tK W6=>(Fs ro K) (.panic tK) (Env.of e [(42,GH),(41,Df),(40,EC),(38,H6),(37,F1),(36,G9),(35,FL),(34,EH),(33,FJ),(32,DY),(31,Dg),(30,v30),(29,C5),(10,(.slice none 0 0)),(28,(e 0)),(27,Dv)]) ds W6))) ((Fs ro K) .normal (Env.of e [(31,Dg),(30,v30),(29,C5),(10,(.slice none 0 0)),(28,(e 0)),(27,Dv)]) ds W2)) K
def S6 (ro:Option Nat) (K:AB):AB:=Ag (fun e ds W=>wI (e 26) ((MX ro K) .ret (Env.of e [(7,(.bool false)),(6,(.slice none 0 0))]) ds W) ((MX ro K) .normal e ds W)) (MX ro K)
theorem wj (v0 v1 v2 v3 v4:Value) (K:AB) (W:CW):AJ prog AM none 125 84 (AK prog 125) (Env.args [v0,v1,v2,v3,v4]) [] W K=(wV (BD prog 78 v1 0) fun Bu=>wV (ld prog 75 Bu W) fun Bh=>wV (HW prog 75 Bh v0 true W) fun CH=>wV (ext CH 0) fun DE=>wV (ext CH 1) fun Di=>CZ (H2 prog 48 W) fun v8 W0=>wV (B5 prog 48 v8 DE W0) fun W1=>wV (KU Di) fun DQ=>wI DQ ((S6 none K) .normal (Env.of (Env.args [v0,v1,v2,v3,v4]) [(26,(.bool true)),(25,undef),(22,(.bool true)),(24,undef),(22,(.bool true)),(23,undef),(22,(.bool true)),(22,DQ),(21,DQ),(20,Di),(9,Di),(8,v8),(19,Di),(18,DE),(13,CH),(17,CH),(16,v0),(15,Bh),(14,Bu),(7,(.bool false)),(6,(.slice none 0 0))]) [] W1) (wV (ld prog 181 v2 W1) fun DP=>wV (HW prog 181 DP v0 false W1) fun DZ=>(S6 none K) .normal (Env.of (Env.args [v0,v1,v2,v3,v4]) [(26,DZ),(25,DZ),(22,(.bool false)),(24,v0),(22,(.bool false)),(23,DP),(22,(.bool false)),(22,DQ),(21,DQ),(20,Di),(9,Di),(8,v8),(19,Di),(18,DE),(13,CH),(17,CH),(16,v0),(15,Bh),(14,Bu),(7,(.bool false)),(6,(.slice none 0 0))]) [] W1)):=by kernel_rfl
def S7 (ro:Option Nat) (K:AB):AB:=Ag (fun e ds W=>wV (AH prog .add 3 true (e 51) (.int .i64 1)) fun IG=>K .normal (Env.of e [(51,IG),(79,IG)]) ds W) K
def Ly (ro:Option Nat) (K:AB):AB:=Ag (fun e ds W=>wV (ld prog 181 (e 4) W) fun M5=>wV (BD prog 72 (e 12) 0) fun JU=>wV (ld prog 9 JU W) fun Vu=>wV (cP prog 181 M5 Vu (.bool true) W) fun Il=>wV (BD prog 72 (e 12) 1) fun Jk=>wV (ld prog 5 Jk Il) fun MT=>CZ (Vs prog 29 1 [(0,MT)] Il) fun JS H5=>CZ (app prog [29,29] (e 10) JS H5) fun KZ M4=>(S7 ro K) .normal (Env.of e [(10,KZ),(78,KZ),(77,JS),(76,MT),(75,Jk),(74,(e 10)),(73,Vu),(72,JU),(71,M5)]) ds M4) (Av 1 (S7 ro K))
def IX (ro:Option Nat) (K:AB):AB:=Ag (fun e ds W=>wI (e 70) ((Ly ro K) .ret (Env.of e [(7,(.bool false)),(6,(.slice none 0 0))]) ds W) ((Ly ro K) .normal e ds W)) (Ly ro K)
theorem rJ (ro:Option Nat) (e:Env) (ds:List Deferred) (K:AB) (W:CW):AJ prog AM ro 125 84 (AY prog 125 0) e ds W K=(wV (AH prog .lss 3 false (e 51) (e 50)) fun Hn=>wI Hn (wV (Bm prog 45 (e 49) (e 51)) fun FX=>wV (ld prog 72 FX W) fun E_=>CZ (H2 prog 72 W) fun CV Rq=>wV (B5 prog 72 CV E_ Rq) fun Du=>wV (BD prog 72 CV 0) fun IH=>wV (ld prog 9 IH Du) fun D0=>AD prog AM 101 [D0] Du (AQ (fun IU MQ=>wV (KU IU) fun Ju=>wI Ju ((IX ro K) .normal (Env.of e [(70,(.bool true)),(69,undef),(65,(.bool true)),(68,undef),(65,(.bool true)),(67,undef),(65,(.bool true)),(66,undef),(65,(.bool true)),(65,(.bool true)),(64,(.bool true)),(63,undef),(59,(.bool true)),(62,undef),(59,(.bool true)),(61,undef),(59,(.bool true)),(60,undef),(59,(.bool true)),(59,Ju),(58,Ju),(57,IU),(56,D0),(55,IH),(12,CV),(54,E_),(53,FX),(52,Hn)]) ds MQ) (wV (BD prog 72 CV 1) fun GN=>wV (ld prog 5 GN MQ) fun Gj=>AD prog AM 100 [Gj] MQ (AQ (fun UH Is=>wV (KU UH) fun MR=>wI MR ((IX ro K) .normal (Env.of e [(70,(.bool true)),(69,undef),(65,(.bool true)),(68,undef),(65,(.bool true)),(67,undef),(65,(.bool true)),(66,undef),(65,(.bool true)),(65,MR),(64,MR),(63,MR),(59,(.bool false)),(62,UH),(59,(.bool false)),(61,Gj),(59,(.bool false)),(60,GN),(59,(.bool false)),(59,Ju),(58,Ju),(57,IU),(56,D0),(55,IH),(12,CV),(54,E_),(53,FX),(52,Hn)]) ds Is) (wV (ld prog 181 (e 4) Is) fun IV=>wV (BD prog 72 CV 0) fun Nm=>wV (ld prog 9 Nm Is) fun Ji=>wV (HW prog 181 IV Ji false Is) fun G8=>(IX ro K) .normal (Env.of e [(70,G8),(69,G8),(65,(.bool false)),(68,Ji),(65,(.bool false)),(67,Nm),(65,(.bool false)),(66,IV),(65,(.bool false)),(65,MR),(64,MR),(63,MR),(59,(.bool false)),(62,UH),(59,(.bool false)),(61,Gj),(59,(.bool false)),(60,GN),(59,(.bool false)),(59,Ju),(58,Ju),(57,IU),(56,D0),(55,IH),(12,CV),(54,E_),(53,FX),(52,Hn)]) ds Is)) (fun eF Nk=>(IX ro K) (.panic eF) (Env.of e [(59,(.bool false)),(61,Gj),(59,(.bool false)),(60,GN),(59,(.bool false)),(59,Ju),(58,Ju),(57,IU),(56,D0),(55,IH),(12,CV),(54,E_),(53,FX),(52,Hn)]) ds Nk)))) (fun jN LI=>(IX ro K) (.panic jN) (Env.of e [(56,D0),(55,IH),(12,CV),(54,E_),(53,FX),(52,Hn)]) ds LI))) (K (.exit 0) (Env.of e [(52,Hn)]) ds W)):=by kernel_rfl
theorem UR (Q:Ending→CW→Prop) (e:Env) (W:CW):AI prog Tryz.f125 Q .ret e [] W=Q (.returned (.tuple #[e 6,e 7])) W:=by kernel_rfl
theorem wo {Q:Ending→CW→Prop} {v0 v1 v2 v3 v4:Value} {W:CW} (h:AJ prog AM none 125 84 (AK prog 125) (Env.args [v0,v1,v2,v3,v4]) [] W (AI prog Tryz.f125 Q)):AD prog AM 125 [v0,v1,v2,v3,v4] W Q:=AX Tryz.func125 (by kernel_rfl) (by kernel_rfl) (by kernel_rfl) (by kernel_rfl) (by kernel_rfl) h
end Go.Ce
namespace Go.Ce
theorem BK (W:CW) (o:Au) (b:Nat):(W.new o).obj b=if b=W.sz then some o else W.obj b:=by
 unfold CW.new CW.obj; simp only [Tr.Bf]
theorem Ft (W:CW) (i:Nat) (o:Au) (b:Nat):(W.Az i o).obj b=if b=i then some o else W.obj b:=by
 unfold CW.Az CW.obj; simp only [Tr.Bf]
theorem F2 (W:CW) (o:Au):(W.new o).sz=W.sz+1:=rfl
theorem nF (W:CW) (i:Nat) (o:Au):(W.Az i o).sz=W.sz:=rfl
def CW.cell (W:CW) (b k:Nat):Option Value:=match W.obj b with
 | some (.cells c n z _)=>if k<n then some (cellAt c z k) else none
 | some (.fixed f n _)=>if k<n then some (f k) else none
 | _=>none
def Aq (W:CW):Prop:=∀ i o,W.obj i=some o→i<W.sz
structure Kp (W W':CW):Prop where
 sz:W.sz≤W'.sz
 obj:∀ b,b<W.sz→W'.obj b=W.obj b
structure Da (b:Nat) (W W':CW):Prop where
 sz:W'.sz=W.sz
 obj:∀ i,i≠b→W'.obj i=W.obj i
theorem Kp.refl (W:CW):Kp W W:=⟨Nat.le_refl _,fun _ _=>rfl⟩
theorem Kp.trans {A B C:CW} (h:Kp A B) (k:Kp B C):Kp A C:=⟨Nat.le_trans h.sz k.sz,fun b hb=>(k.obj b (Nat.lt_of_lt_of_le hb h.sz)).trans (h.obj b hb)⟩
theorem Kp.new {W:CW} (o:Au):Kp W (W.new o):=⟨Nat.le_succ _,fun b hb=>by rw [BK,if_neg (Nat.ne_of_lt hb)]⟩
theorem Kp.Az {A B C:CW} {b:Nat} (h:Kp A B) (hb:A.sz≤b) (k:Da b B C):Kp A C:=⟨by rw [k.sz]; exact h.sz,fun i hi=>(k.obj i (by omega)).trans (h.obj i hi)⟩
theorem Aq.new {W:CW} (h:Aq W) (o:Au):Aq (W.new o):=by
 intro i u hu; rw [BK] at hu; rw [F2]
 split at hu
 ·omega
 ·have:=h i u hu; omega
theorem Aq.Az {W W':CW} {b:Nat} (h:Aq W) (hb:b<W.sz) (k:Da b W W'):Aq W':=by
 intro i u hu; rw [k.sz]
 by_cases e:i=b
 ·omega
 ·rw [k.obj i e] at hu; exact h i u hu
theorem Da.of (W:CW) (b:Nat) (o:Au):Da b W (W.Az b o):=⟨rfl,fun i hi=>by rw [Ft,if_neg hi]⟩
theorem YP {W:CW} (h:Aq W) {b k:Nat} {v:Value} (hc:W.cell b k=some v):b<W.sz:=by
 unfold CW.cell at hc
 cases ho:W.obj b with
 | none=>rw [ho] at hc; cases hc
 | some o=>exact h b o ho
theorem Kq {W W':CW} {b:Nat} (h:W'.obj b=W.obj b) (k:Nat):W'.cell b k=W.cell b k:=by unfold CW.cell; rw [h]
theorem Kp.cell {W W':CW} (h:Kp W W') (ht:Aq W) {b k:Nat} {v:Value} (hc:W.cell b k=some v):W'.cell b k=some v:=by
 rw [Kq (h.obj b (YP ht hc))]; exact hc
theorem Da.cell {W W':CW} {i:Nat} (h:Da i W W') {b:Nat} (hb:b≠i) (k:Nat):W'.cell b k=W.cell b k:=Kq (h.obj b hb) k
def BF (W:CW) (b:Nat) (e:TypeId) (vs:List Value):Prop:=∃ c n z,W.obj b=some (.cells c n z e)∧vs.length=n∧∀ k v,vs[k]?=some v→cellAt c z k=v
theorem BF.cell {W:CW} {b:Nat} {e:TypeId} {vs:List Value} (h:BF W b e vs) {k:Nat} {v:Value} (hk:vs[k]?=some v):W.cell b k=some v:=by
 obtain ⟨c,n,z,ho,hn,hv⟩:=h; unfold CW.cell; rw [ho]; have:k<n:=by rw [←hn]; exact (List.getElem?_eq_some_iff.1 hk).1
 simp only [if_pos this,hv k v hk]
theorem BF.congr {W W':CW} {b:Nat} {e:TypeId} {vs:List Value} (h:BF W b e vs) (ho:W'.obj b=W.obj b):BF W' b e vs:=by
 obtain ⟨c,n,z,h1,h2⟩:=h; exact ⟨c,n,z,ho.trans h1,h2⟩
theorem BF.lt {W:CW} (ht:Aq W) {b:Nat} {e:TypeId} {vs:List Value} (h:BF W b e vs):b<W.sz:=by
 obtain ⟨c,n,z,h1,h2⟩:=h; exact ht _ _ h1
theorem BF.ext {W W':CW} {b:Nat} {e:TypeId} {vs:List Value} (h:BF W b e vs) (ht:Aq W) (k:Kp W W'):BF W' b e vs:=h.congr (k.obj b (h.lt ht))
section
variable {P:Program}
theorem AF {t:TypeId} (h:agg? P t=some false) {a:Addr} {W:CW} {v:Value} (hc:W.cell a.block a.off=some v):ld P t (.pointer (some a)) W=some v:=by
 unfold CW.cell at hc; unfold ld Jm; simp only
 split at hc
 ·rename_i c n z e ho; rw [ho]; simp only [h,cond_eq_ite]
  split at hc
  ·rename_i A0; rw [if_pos (show Nat.blt a.off n=true from Nat.ble_eq_true_of_le A0)]; exact hc
  ·cases hc
 ·rename_i f n e ho; rw [ho]; simp only [h,cond_eq_ite]
  split at hc
  ·rename_i A0; rw [if_pos (show Nat.blt a.off n=true from Nat.ble_eq_true_of_le A0)]; exact hc
  ·cases hc
 ·cases hc
theorem GO {c:Tr Value} {z:Array Value}:∀ {vs:List Value} {k:Nat},(∀ j v,vs[j]?=some v→cellAt c z (k+j)=v)→BW c z vs.length k=vs
 | [],_,_=>rfl
 | v::vs,k,h=>by
  simp only [List.length_cons,BW]; have e:=h 0 v rfl; rw [Nat.add_zero] at e; rw [e,GO fun j w hj=>?_]; have:=h (j+1) w (by simpa using hj); rw [show k+1+j=k+(j+1) by omega]; exact this
theorem Np {f:Nat→Value}:∀ {vs:List Value} {k:Nat},(∀ j v,vs[j]?=some v→f (k+j)=v)→EJ f vs.length k=vs
 | [],_,_=>rfl
 | v::vs,k,h=>by
  simp only [List.length_cons,EJ]; have e:=h 0 v rfl; rw [Nat.add_zero] at e; rw [e,Np fun j w hj=>?_]; have:=h (j+1) w (by simpa using hj); rw [show k+1+j=k+(j+1) by omega]; exact this
def Cells (W:CW) (b k:Nat) (vs:List Value):Prop:=∀ j v,vs[j]?=some v→W.cell b (k+j)=some v
theorem Cells.ext {W W':CW} {b k:Nat} {vs:List Value} (h:Cells W b k vs) (ht:Aq W) (hx:Kp W W'):Cells W' b k vs:=fun j v hj=>hx.cell ht (h j v hj)
theorem BF.cells {W:CW} {b:Nat} {e:TypeId} {vs:List Value} (h:BF W b e vs):Cells W b 0 vs:=fun j v hj=>by rw [Nat.zero_add]; exact h.cell hj
theorem Ba {t:TypeId} {m:Nat} (h:agg? P t=some true) (hs:Db P t=some m) {a:Addr} {W:CW} {vs:List Value} (hl:vs.length=m) (hm:0<m) (hc:Cells W a.block a.off vs):ld P t (.pointer (some a)) W=some (.agg vs.toArray):=by
 obtain ⟨l,Xe⟩:∃ l,l+1=m:=⟨m-1,by omega⟩
 have RQ:∃ v,vs[l]?=some v:=⟨vs[l]'(by omega),List.getElem?_eq_getElem _⟩
 obtain ⟨v,hv⟩:=RQ; have LR:=hc l v hv; unfold CW.cell at LR; unfold ld Jm; simp only
 split at LR
 ·rename_i c n z e ho
  split at LR
  ·rename_i A0; rw [ho]; simp only [h,hs,cond_eq_ite]; rw [if_pos (Nat.ble_eq_true_of_le (by omega)),←hl,GO fun j w hj=>?_]; have:=hc j w hj; unfold CW.cell at this; rw [ho] at this; simp only at this
   split at this
   ·exact Option.some.inj this
   ·cases this
  ·cases LR
 ·rename_i f n e ho
  split at LR
  ·rename_i A0; rw [ho]; simp only [h,hs,cond_eq_ite]; rw [if_pos (Nat.ble_eq_true_of_le (by omega)),←hl,Np fun j w hj=>?_]; have:=hc j w hj; unfold CW.cell at this; rw [ho] at this; simp only at this
   split at this
   ·exact Option.some.inj this
   ·cases this
  ·cases LR
 ·cases LR
theorem BG {α:Type} {x:Option α} {v:α} {K:α→Prop} (h:x=some v) (hk:K v):wV x K:=by rw [h]; exact hk
theorem JW {x:Option (Value × CW)} {v:Value} {W:CW} {K:Value→CW→Prop} (h:x=some (v,W)) (hk:K v W):CZ x K:=by rw [h]; exact hk
theorem HM {t:TypeId} {n:Nat} {z:Value} (hz:Gp P t=some z) (hs:Db P t=some n) {W:CW} {K:Value→CW→Prop} (ht:Aq W)
  (hk:∀ W1,Kp W W1→Aq W1→W1.sz=W.sz+1→BF W1 W.sz t z.cells.toList→K (.pointer (some ⟨W.sz,0,none⟩)) W1):CZ (H2 P t W) K:=by
 refine JW (by unfold H2; rw [hz,hs]) (hk _ (.new _) (ht.new _) rfl ⟨.nil,_,_,by rw [BK,if_pos rfl],by simp,fun k v hv=>?_⟩); have A0:=(List.getElem?_eq_some_iff.1 hv).1; simp only [Array.length_toList] at A0; unfold cellAt; simp only [Tr.get_nil]; rw [Nat.mod_eq_of_lt A0]; rw [Array.getElem?_toList] at hv; simp only [Array.getD_eq_getD_getElem?,hv,Option.getD_some]
theorem GA {t:TypeId} {n:Nat} (hs:Db P t=some n) {v:Value} {W:CW} {K:Value→CW→Prop} (ht:Aq W)
  (hk:∀ W1,Kp W W1→Aq W1→W1.sz=W.sz+1→BF W1 W.sz t v.cells.toList→K (.pointer (some ⟨W.sz,0,none⟩)) W1):CZ (SZ P t v W) K:=by
 refine JW (by unfold SZ; rw [hs]; rfl) (hk _ (.new _) (ht.new _) rfl ⟨_,_,_,by rw [BK,if_pos rfl],by simp,fun k w hv=>?_⟩); have A0:=(List.getElem?_eq_some_iff.1 hv).1; rw [C_ _ _ _ A0,List.getD_eq_getElem?_getD,hv]; rfl
def putAt (vs:List Value) (k:Nat) (ws:List Value):List Value:=vs.take k++ws++vs.drop (k+ws.length)
theorem YQ {vs ws:List Value} {k:Nat} (h:k+ws.length≤vs.length):(putAt vs k ws).length=vs.length:=by
 simp only [putAt,List.length_append,List.length_take,List.length_drop]; omega
theorem QK {vs ws:List Value} {k:Nat} (h:k+ws.length≤vs.length) (j:Nat):(putAt vs k ws)[j]?=if k≤j∧j<k+ws.length then ws[j-k]? else vs[j]?:=by
 have h1:(vs.take k).length=k:=by rw [List.length_take]; omega
 simp only [putAt,List.append_assoc]
 by_cases h2:j<k
 ·rw [List.getElem?_append_left (by omega),if_neg (by omega),List.getElem?_take,if_pos h2]
 ·rw [List.getElem?_append_right (by omega),h1]
  by_cases h3:j<k+ws.length
  ·rw [List.getElem?_append_left (by omega),if_pos ⟨by omega,h3⟩]
  ·rw [List.getElem?_append_right (by omega),if_neg (by omega),List.getElem?_drop]; congr 1; omega
theorem BF.put {W:CW} {b:Nat} {e:TypeId} {vs ws:List Value} {k:Nat} (h:BF W b e vs) (hk:k+ws.length≤vs.length):∃ c n z,W.obj b=some (.cells c n z e)∧vs.length=n∧BF (W.Az b (.cells (c.Ah k ws) n z e)) b e (putAt vs k ws):=by
 obtain ⟨c,n,z,ho,hn,hv⟩:=h; refine ⟨c,n,z,ho,hn,_,_,_,by rw [Ft,if_pos rfl],by rw [YQ hk,hn],fun j v hj=>?_⟩; rw [QK hk] at hj; unfold cellAt; rw [Tr.Iw]
 split at hj
 ·rename_i h1; rw [if_pos h1,hj]
 ·rename_i h1; rw [if_neg h1]; exact hv j v hj
theorem Am {t:TypeId} (hs:Db P t=some 1) {a:Addr} {v:Value} (h1:BO v=true) {W:CW} {e:TypeId} {vs:List Value} (hb:BF W a.block e vs) (ha:a.off<vs.length) {K:CW→Prop}
  (hk:∀ W1,Da a.block W W1→BF W1 a.block e (putAt vs a.off [v])→K W1):wV (B5 P t (.pointer (some a)) v W) K:=by
 obtain ⟨c,n,z,ho,hn,Y'⟩:=hb.put (k:=a.off) (ws:=[v]) (by simp only [List.length_singleton]; omega); refine BG ?_ (hk _ (Da.of _ _ _) Y'); have:B5 P t (.pointer (some a)) v W=JJ P t a v W:=rfl; rw [this]; unfold JJ; rw [ho]; have A0:Nat.blt a.off n=true:=Nat.ble_eq_true_of_le (by omega)
 cases v <;> first | (cases h1; done) | (simp only [hs,A0,Nat.beq_refl,Bool.and_self,cond_true,Tr.Ah])
theorem Dj {t:TypeId} {m:Nat} (hs:Db P t=some m) {a:Addr} {ws:List Value} (h1:ws.all BO=true) (hm:ws.length=m) {W:CW} {e:TypeId} {vs:List Value} (hb:BF W a.block e vs) (ha:a.off+m≤vs.length) {K:CW→Prop}
  (hk:∀ W1,Da a.block W W1→BF W1 a.block e (putAt vs a.off ws)→K W1):wV (B5 P t (.pointer (some a)) (.agg ws.toArray) W) K:=by
 obtain ⟨c,n,z,ho,hn,Y'⟩:=hb.put (k:=a.off) (ws:=ws) (by omega); refine BG ?_ (hk _ (Da.of _ _ _) Y'); have:B5 P t (.pointer (some a)) (.agg ws.toArray) W=JJ P t a (.agg ws.toArray) W:=rfl; rw [this]; unfold JJ; rw [ho]; have A0:Nat.ble (a.off+m) n=true:=Nat.ble_eq_true_of_le (by omega); simp only [hs,A0,hm,List.size_toArray,Nat.beq_refl,Bool.and_self,cond_true,h1]
end
end Go.Ce
namespace Go.Ce
theorem AA {α:Type} (v:α) (K:α→Prop):wV (some v) K=K v:=rfl
theorem Bx (X Y:Prop):wI (.bool true) X Y=X:=rfl
theorem Ay (X Y:Prop):wI (.bool false) X Y=Y:=rfl
theorem Ar (b:Bool):KU (.bool b)=some (.bool (!b)):=rfl
theorem Bi (Y:Env→List Deferred→CW→Prop) (K:AB) (e:Env) (ds:List Deferred) (W:CW):Ag Y K .normal e ds W=Y e ds W:=rfl
theorem LC (Y:Env→List Deferred→CW→Prop) (K:AB) (e:Env) (ds:List Deferred) (W:CW):Ag Y K .ret e ds W=K .ret e ds W:=rfl
theorem Rr (Y:Env→List Deferred→CW→Prop) (K:AB) (i:Nat) (e:Env) (ds:List Deferred) (W:CW):Ag Y K (.exit i) e ds W=K (.exit i) e ds W:=rfl
theorem zs (Y:Env→List Deferred→CW→Prop) (K:AB) (ch:List PanicEntry) (e:Env) (ds:List Deferred) (W:CW):Ag Y K (.panic ch) e ds W=K (.panic ch) e ds W:=rfl
theorem rK (i:Nat) (K:AB) (e:Env) (ds:List Deferred) (W:CW):Av i K .normal e ds W=K .normal e ds W:=rfl
theorem PV (i:Nat) (K:AB) (e:Env) (ds:List Deferred) (W:CW):Av i K .ret e ds W=K .ret e ds W:=rfl
theorem bKp (i:Nat) (K:AB) (ch:List PanicEntry) (e:Env) (ds:List Deferred) (W:CW):Av i K (.panic ch) e ds W=K (.panic ch) e ds W:=rfl
theorem JB (i j:Nat) (K:AB) (e:Env) (ds:List Deferred) (W:CW):Av i K (.exit j) e ds W=if j=i then K .normal e ds W else K (.exit j) e ds W:=by
 simp only [Av,cond_eq_ite,Nat.beq_eq]
theorem aK (vs:List Value) (t:Nat):Env.args vs t=(vs[t]?).getD undef:=by
 unfold Env.args
 cases vs[t]? <;> rfl
def FA (I:Nat→Env→List Deferred→CW→Prop) (k:Nat) (K:AB):AB:=fun x e ds W=>match x with
 | .normal=>∃ k',k'<k∧I k' e ds W
 | x=>K x e ds W
theorem Wg (I:Nat→Env→List Deferred→CW→Prop) (k:Nat) (K:AB) (e:Env) (ds:List Deferred) (W:CW):FA I k K .normal e ds W=∃ k',k'<k∧I k' e ds W:=rfl
theorem zt (I:Nat→Env→List Deferred→CW→Prop) (k:Nat) (K:AB) (e:Env) (ds:List Deferred) (W:CW):FA I k K .ret e ds W=K .ret e ds W:=rfl
theorem Wh (I:Nat→Env→List Deferred→CW→Prop) (k:Nat) (K:AB) (i:Nat) (e:Env) (ds:List Deferred) (W:CW):FA I k K (.exit i) e ds W=K (.exit i) e ds W:=rfl
theorem tKp (I:Nat→Env→List Deferred→CW→Prop) (k:Nat) (K:AB) (ch:List PanicEntry) (e:Env) (ds:List Deferred) (W:CW):FA I k K (.panic ch) e ds W=K (.panic ch) e ds W:=rfl
theorem Dh {P:Program} {L:List FuncId} {ro:Option Nat} {fn:FuncId} {nt:Nat} {b:Code} {K:AB} (I:Nat→Env→List Deferred→CW→Prop) (k:Nat) {e:Env} {ds:List Deferred} {W:CW} (h0:I k e ds W)
  (NL:∀ k e ds W,I k e ds W→AJ P L ro fn nt b e ds W (FA I k K)):Bj P L ro fn nt (.loop b) e ds W K :=
 AAn I (fun k e ds W hi=>NL k e ds W hi) k e ds W h0
def Gk (v:Value) (W:CW):Ending→CW→Prop:=fun e W'=>e=.returned v∧W'=W
theorem BA {P:Program} {L:List FuncId} {f:FuncId} {args:List Value} {W:CW} {K:Value→CW→Prop} {KP:List PanicEntry→CW→Prop} {v:Value} (h:AD P L f args W (Gk v W)) (hk:K v W):AD P L f args W (AQ K KP) :=
 h.mono fun e W' ⟨he,hw⟩=>by subst he; subst hw; exact hk
theorem H8 {P:Program} {L:List FuncId} {f:FuncId} {first cap:Array Value} {args:List Value} {W:CW} {K:Value→CW→Prop} {KP:List PanicEntry→CW→Prop} {fn:Func} (hf:P.funcs[f]?=some fn) (hb:fn.body.isNone=false)
  (h:AD P L f (first.toList++args++cap.toList) W (AQ K KP)):Ej P L (.func (.func f) first cap) args W K KP:=by
 unfold Ej Ht; simp only; have:Iv P f (first.toList++args++cap.toList) W=none:=by unfold Iv; rw [hf]; simp only [hb,cond_false]
 rw [this]; exact h
def A3 {α:Type} (n:Nat) (R:Nat→Nat→α→Prop) (v:Value) (l:List α):Prop:=∃ a cap,v=.slice a l.length cap∧∀ i x,l[i]?=some x→∃ p,a=some p∧R p.block (p.off+i*n) x
section
variable {P:Program} {t:TypeId} {k:Bool}
theorem CD (kk:IntKind) (a b:Int):AH P .eql t k (.int kk a) (.int kk b)=some (.bool (a == b)):=by simp [AH,Mu]
theorem DK (kk:IntKind) (a b:Int):AH P .neq t k (.int kk a) (.int kk b)=some (.bool (a != b)):=by simp [AH,Mu]
theorem Ax (kk:IntKind) (a b:Int):AH P .lss t k (.int kk a) (.int kk b)=some (.bool (decide (a<b))):=by simp [AH,Mu]
theorem Ds (kk:IntKind) (a b:Int):AH P .leq t k (.int kk a) (.int kk b)=some (.bool (decide (a≤b))):=by simp [AH,Mu]
theorem CO (kk:IntKind) (a b:Int):AH P .gtr t k (.int kk a) (.int kk b)=some (.bool (decide (a>b))):=by simp [AH,Mu]
theorem DL (kk:IntKind) (a b:Int):AH P .geq t k (.int kk a) (.int kk b)=some (.bool (decide (a≥b))):=by simp [AH,Mu]
theorem Ae (kk:IntKind) (a b:Int):AH P .add t k (.int kk a) (.int kk b)=some (.int kk (kk.wrap (a+b))):=by simp [AH,Mu]
theorem Ak (kk:IntKind) (a b:Int):AH P .sub t k (.int kk a) (.int kk b)=some (.int kk (kk.wrap (a-b))):=by simp [AH,Mu]
theorem Jv (kk:IntKind) (a b:Int):AH P .mul t k (.int kk a) (.int kk b)=some (.int kk (kk.wrap (a*b))):=by simp [AH,Mu]
theorem nG (kk:IntKind) (a b:Int) (h:b≠0):AH P .quo t k (.int kk a) (.int kk b)=some (.int kk (kk.wrap (a.tdiv b))):=by simp [AH,Mu,beq_false_of_ne h]
theorem nH (kk:IntKind) (a b:Int) (h:b≠0):AH P .rem t k (.int kk a) (.int kk b)=some (.int kk (a.tmod b)):=by simp [AH,Mu,beq_false_of_ne h]
theorem MY (a b:ByteArray):AH P .eql t k (.string a) (.string b)=some (.bool (VZ (sb a) (sb b))):=rfl
theorem Wi (a b:ByteArray):AH P .neq t k (.string a) (.string b)=some (.bool (!VZ (sb a) (sb b))):=rfl
theorem Wk (a b:ByteArray):AH P .geq t k (.string a) (.string b)=some (.bool (!SP (sb a) (sb b))):=rfl
theorem US:∀ l:List UInt8,VZ l l=true
 | []=>rfl
 | a::l=>by simp only [VZ,Nat.beq_refl,US l,Bool.and_self]
theorem rL {a b:ByteArray}:VZ (sb a) (sb b)=true↔a=b:=⟨La,fun h=>by rw [h]; exact US _⟩
theorem MZ (a b:ByteArray):VZ (sb a) (sb b)=decide (a=b):=by
 cases h:VZ (sb a) (sb b) with
 | true=>exact (decide_eq_true (La h)).symm
 | false=>exact (decide_eq_false fun e=>by rw [rL.2 e] at h; cases h).symm
theorem At {el:TypeId} (u:P.underlying t=some (.slice el)) (a:Option Addr) (n c:Nat) (W:CW):A8 P t (.slice a n c) W=some (.int .i64 n):=by unfold A8; rw [u]
theorem Lz (u:P.underlying t=some .string) (s:ByteArray) (W:CW):A8 P t (.string s) W=some (.int .i64 s.size):=by unfold A8; rw [u]
theorem BM {el:TypeId} {n:Nat} (u:P.underlying t=some (.slice el)) (hs:Db P el=some n) {a:Addr} {len cap:Nat} {kk:IntKind} {i:Nat} (hi:i<len):Bm P t (.slice (some a) len cap) (.int kk i)=some (.pointer (some ⟨a.block,a.off+i*n,none⟩)):=by
 unfold Bm; simp only [u,C7,hs]; simp only [cond_eq_ite]; rw [if_pos (by simp only [Bool.and_eq_true,decide_eq_true_eq]; omega)]; simp
theorem wrap64 {x:Int} (h1:-9223372036854775808≤x) (h2:x≤9223372036854775807):IntKind.i64.wrap x=x:=by
 unfold IntKind.wrap; simp [IntKind.bits,IntKind.signed]; omega
end
theorem aL {α:Type} (a:α) (l:List α):(a::l)[0]?=some a:=rfl
theorem pb {α:Type} (a:α) (l:List α) (i:Nat):(a::l)[i+1]?=l[i]?:=rfl
theorem ZF {α:Type} (a b:α):(some a).getD b=a:=rfl
end Go.Ce
namespace Go.Ce
open Go Go.Proofs Go.Proofs.Tryz
structure UT where
 name:ByteArray
 kind:Int
structure Aj where
 name:ByteArray
 By:ByteArray
 fields:List UT
 elem:Int
structure Br where
 type:ByteArray
 to:ByteArray
 map:List Int
structure BN where
 type:ByteArray
 AL:List Int
def DW (W:CW) (b o:Nat) (x:Int):Prop:=W.cell b o=some (.int .i64 x)∧-9223372036854775808≤x∧x≤9223372036854775807
structure QL (W:CW) (b o:Nat) (x:UT):Prop where
 name:W.cell b o=some (.string x.name)
 kind:W.cell b (o+1)=some (.int .u8 x.kind)
 lo:0≤x.kind
 hi:x.kind<256
structure M7 (W:CW) (b o:Nat) (x:Aj):Prop where
 name:W.cell b o=some (.string x.name)
 By:W.cell b (o+1)=some (.string x.By)
 fields:∃ v,W.cell b (o+2)=some v∧A3 2 (QL W) v x.fields
 elem:W.cell b (o+3)=some (.int .u8 x.elem)
 binds:∃ a l k,W.cell b (o+4)=some (.slice a l k)
 lo:0≤x.elem
 hi:x.elem<256
def Nq (W:CW) (el:TypeId) (v:Value):Prop:=∀ a l c,v=.slice a l c→TV W a el=true∧l≤c
theorem Nq.of {W W':CW} {el:TypeId} {v:Value} (h:Nq W el v) (ho:∀ b o,W.obj b=some o→(∃ c n z e,o=.cells c n z e)∨(∃ f n e,o=.fixed f n e)→W'.obj b=some o):Nq W' el v:=by
 intro a l c hv; obtain ⟨h1,h2⟩:=h a l c hv; refine ⟨?_,h2⟩
 cases a with
 | none=>rfl
 | some a =>
  unfold TV at h1 ⊢; simp only [Bool.or_eq_true] at h1 ⊢
  rcases h1 with h1 | h1
  ·exact .inl h1
  ·right
   cases hb:W.obj a.block with
   | none=>rw [hb] at h1; cases h1
   | some o =>
    rw [hb] at h1
    cases o with
    | cells c n z e=>rw [ho _ _ hb (.inl ⟨_,_,_,_,rfl⟩)]; exact h1
    | fixed f n e=>rw [ho _ _ hb (.inr ⟨_,_,_,rfl⟩)]; exact h1
    | _=>cases h1
theorem Nq.kp {W W':CW} {el:TypeId} {v:Value} (h:Nq W el v) (ht:Aq W) (k:Kp W W'):Nq W' el v:=h.of fun b o hb _=>by rw [k.obj b (ht _ _ hb)]; exact hb
structure Vv (W:CW) (b o:Nat) (x:Br):Prop where
 type:W.cell b o=some (.string x.type)
 to:W.cell b (o+1)=some (.string x.to)
 map:∃ v,W.cell b (o+2)=some v∧A3 1 (DW W) v x.map∧Nq W 3 v
structure Gx (W:CW) (b o:Nat) (x:BN):Prop where
 type:W.cell b o=some (.string x.type)
 AL:∃ v,W.cell b (o+1)=some v∧A3 1 (DW W) v x.AL
theorem u9:prog.underlying 9=some .string:=by kernel_rfl
theorem ky:prog.underlying 22=some (.slice 48):=by kernel_rfl
theorem u23:prog.underlying 23=some (.slice 58):=by kernel_rfl
theorem WC:prog.underlying 24=some (.slice 56):=by kernel_rfl
theorem eR:prog.underlying 29=some (.slice 5):=by kernel_rfl
theorem Hq:prog.underlying 40=some (.slice 3):=by kernel_rfl
theorem tL:prog.underlying 45=some (.slice 72):=by kernel_rfl
theorem zu:prog.underlying 51=some (.slice 9):=by kernel_rfl
theorem s3:Db prog 3=some 1:=by kernel_rfl
theorem s5:Db prog 5=some 1:=by kernel_rfl
theorem s9:Db prog 9=some 1:=by kernel_rfl
theorem gu:Db prog 48=some 5:=by kernel_rfl
theorem Ma:Db prog 56=some 2:=by kernel_rfl
theorem jT:Db prog 58=some 3:=by kernel_rfl
theorem s72:Db prog 72=some 2:=by kernel_rfl
theorem a3:agg? prog 3=some false:=by kernel_rfl
theorem a5:agg? prog 5=some false:=by kernel_rfl
theorem a9:agg? prog 9=some false:=by kernel_rfl
theorem a29:agg? prog 29=some false:=by kernel_rfl
theorem Nr:agg? prog 40=some false:=by kernel_rfl
theorem a45:agg? prog 45=some false:=by kernel_rfl
theorem a48:agg? prog 48=some true:=by kernel_rfl
theorem jU:agg? prog 56=some true:=by kernel_rfl
theorem a58:agg? prog 58=some true:=by kernel_rfl
theorem a72:agg? prog 72=some true:=by kernel_rfl
theorem Oo (a:Addr):BD prog 48 (.pointer (some a)) 0=some (.pointer (some ⟨a.block,a.off,none⟩)):=by kernel_rfl
theorem YR (a:Addr):BD prog 48 (.pointer (some a)) 1=some (.pointer (some ⟨a.block,a.off+1,none⟩)):=by kernel_rfl
theorem Oq (a:Addr):BD prog 48 (.pointer (some a)) 2=some (.pointer (some ⟨a.block,a.off+2,none⟩)):=by kernel_rfl
theorem YS (a:Addr):BD prog 48 (.pointer (some a)) 3=some (.pointer (some ⟨a.block,a.off+3,none⟩)):=by kernel_rfl
theorem YT (a:Addr):BD prog 72 (.pointer (some a)) 0=some (.pointer (some ⟨a.block,a.off,none⟩)):=by kernel_rfl
theorem gv (a:Addr):BD prog 72 (.pointer (some a)) 1=some (.pointer (some ⟨a.block,a.off+1,none⟩)):=by kernel_rfl
theorem H9 (a:Addr):BD prog 56 (.pointer (some a)) 0=some (.pointer (some ⟨a.block,a.off,none⟩)):=by kernel_rfl
theorem FM (a:Addr):BD prog 56 (.pointer (some a)) 1=some (.pointer (some ⟨a.block,a.off+1,none⟩)):=by kernel_rfl
theorem S8 (a:Addr):BD prog 58 (.pointer (some a)) 0=some (.pointer (some ⟨a.block,a.off,none⟩)):=by kernel_rfl
theorem Mb (a:Addr):BD prog 58 (.pointer (some a)) 1=some (.pointer (some ⟨a.block,a.off+1,none⟩)):=by kernel_rfl
theorem S9 (a:Addr):BD prog 58 (.pointer (some a)) 2=some (.pointer (some ⟨a.block,a.off+2,none⟩)):=by kernel_rfl
end Go.Ce
namespace Go.Ce
open Go Go.Proofs Go.Proofs.Tryz
theorem aM (n a b:Int) (W:CW):AD prog AM 103 [.int .i64 n,.int .i64 a,.int .i64 b] W (Gk (.bool (decide (a≤n) && decide (n≤b))) W):=by
 refine wR ?_; rw [wQ]; simp only [DL,Ds,AA]; refine AN (fun h=>?_) (fun h=>?_) <;> simp only [YL,Bi,eN,AW] <;> refine ⟨?_,rfl⟩ <;> simp at h <;> simp [h]
 omega
theorem Wl (n:Int) (W:CW):AD prog AM 100 [.int .u8 n] W (Gk (.bool (n == 1 || n == 2)) W):=by
 refine wT ?_; rw [wS]; simp only [CD,AA]; refine AN (fun h=>?_) (fun h=>?_) <;> simp only [YM,Bi,eO,AW] <;> refine ⟨?_,rfl⟩ <;> simp [h]
theorem YU (n:Int) (W:CW):AD prog AM 124 [.int .u8 n] W (Gk (.bool (decide (n<33) || decide (n>126))) W):=by
 refine wg ?_; rw [we]; simp only [Ax,CO,AA]; refine AN (fun h=>?_) (fun h=>?_) <;> simp only [YO,Bi,eQ,AW] <;> refine ⟨?_,rfl⟩ <;> simp [h]
end Go.Ce
namespace Go.Ce
def jV (T:Tr Value) (t:Nat):Value:=match T.get t with | some v=>v | none=>undef
theorem YV (a:AP) (t:Nat):a.at t=jV a.t t:=by
 unfold AP.at jV
 cases a.t.get t <;> rfl
def Dy (W:CW) (l:Nat) (st:LoopState) (Dq:Option Code) (fn:FuncId) (e:Env) (nt:Nat) (ps:Array Tmp) (A B:Code) (d:Nat):Prop :=
 ∃ T:Tr Value,W.obj l=some (.loop st Dq fn T nt ps A B d)∧∀ t,jV T t=e t
theorem Dy.congr {W W':CW} {l:Nat} {st:LoopState} {Dq:Option Code} {fn:FuncId} {e:Env} {nt:Nat} {ps:Array Tmp} {A B:Code} {d:Nat} (h:Dy W l st Dq fn e nt ps A B d) (ho:W'.obj l=W.obj l):Dy W' l st Dq fn e nt ps A B d:=by
 obtain ⟨T,h1,h2⟩:=h; exact ⟨T,ho.trans h1,h2⟩
def Env.Gg (e:Env):List (Tmp × Value)→Env
 | []=>e
 | p::ps=>Env.Gg (fun t=>if t=p.1 then p.2 else e t) ps
theorem gx:∀ (ps:List (Tmp × Value)) (T:Tr Value) (e:Env),(∀ t,jV T t=e t) →
  ∀ t,jV (ps.foldl (fun t (p:Tmp × Value)=>t.set p.1 p.2) T) t=e.Gg ps t
 | [],T,e,h=>h
 | p::ps,T,e,h=>by
  intro t; refine gx ps (T.set p.1 p.2) _ (fun t=>?_) t; unfold jV; rw [Tr.Bf]
  by_cases ht:t=p.1
  ·rw [if_pos ht,if_pos ht]
  ·rw [if_neg ht,if_neg ht]; exact h t
def ADU (l:Nat) (Q:Ending→CW→Prop):AB:=fun x _ ds W=>∃ st Dq fn e nt ps A B d,Dy W l st Dq fn e nt ps A B d∧match x with
 | .normal=>∀ W',Da l W W'→Dy W' l .ready none fn e nt ps A B d→Q (.returned (.bool true)) W'
 | .ret=>∀ W',Da l W W'→Dy W' l .done (some .ret) fn e nt ps A B d→Q (.returned (.bool false)) W'
 | .exit id=>∀ W',Da l W W'→Dy W' l .done (some (.exit id)) fn e nt ps A B d→Q (.returned (.bool false)) W'
 | .panic ch=>ds=[]∧Q (.panicked ch) W
 | _=>False
section
variable {P:Program} {L:List FuncId}
theorem gy {l:Nat} {args:List Value} {W:CW} {Q:Ending→CW→Prop} {Dq:Option Code} {fn:FuncId} {e:Env} {nt:Nat} {ps:Array Tmp} {A B:Code} {d:Nat} (hl:Dy W l .ready Dq fn e nt ps A B d) (hn:args.length=ps.size)
  (h:AJ P L (some l) fn nt A (e.Gg (ps.toList.zip args)) [] W fun x e1 ds W1=>x=.normal∧∃ aN e2 zo u0 A1 B1 d1,Dy W1 l .ready aN fn e2 zo u0 A1 B1 d1∧∀ W2,Da l W1 W2→Dy W2 l .busy aN fn e2 zo u0 A1 B1 d1→AJ P L (some l) fn nt B e1 ds W2 (ADU l Q)):KW P L l args W Q:=by
 obtain ⟨T,ho,hT⟩:=hl
 let a0:AP:=⟨(ps.toList.zip args).foldl (fun t (p:Tmp × Value)=>t.set p.1 p.2) T,nt,[]⟩
 have hae:AE a0 (e.Gg (ps.toList.zip args)) []:=⟨fun t=>by rw [YV]; exact gx _ T e hT t,rfl⟩
 obtain ⟨n,⟨x1,a1,W1⟩,h1,e1,h2,h3,h4⟩:=HI h a0 hae rfl; simp only at h2 h3 h4; obtain ⟨rfl,aN,e2,zo,u0,A1,B1,d1,jD,h4⟩:=h4; obtain ⟨T1,eS,hT1⟩:=jD; obtain ⟨m,⟨x2,a2,W2⟩,h5,e3,h6,h7,h8⟩:=HI (h4 _ (Da.of W1 l (.loop .busy aN fn T1 zo u0 A1 B1 d1)) ⟨T1,by rw [Ft,if_pos rfl],hT1⟩) a1 h2 h3; simp only at h8; obtain ⟨st,AFM,fn2,e4,nt2,ps2,A2,B2,d2,SE,h8⟩:=h8; obtain ⟨T2,cK,hT2⟩:=SE; have up1:(DT P L (max n m)).code (some l) fn A a0 W=some [(.normal,a1,W1)]:=GM (Nat.le_max_left n m) h1; have up2:(DT P L (max n m)).code (some l) fn B a1 (W1.Az l (.loop .busy aN fn T1 zo u0 A1 B1 d1))=some [(x2,a2,W2)]:=GM (Nat.le_max_right n m) h5
 have key:∀ {o:Ending × CW},(match x2 with
   | .normal=>Tk l none W2
   | .ret=>Tk l (some .ret) W2
   | .exit id=>Tk l (some (.exit id)) W2
   | .panic ch=>cond a2.defers.isEmpty (some [(.panicked ch,W2)]) none
   | _=>none)=some [o]→(DT P L (max n m+1)).round l args W=some [o]:=by
  intro o hx; rw [IQ]; simp only [CU,ho]; have hq:Nat.beq args.length ps.size=true:=by rw [hn]; exact Nat.beq_refl _
  rw [hq]; simp only [cond_true]; rw [show (DT P L (max n m)).code (some l) fn A ⟨(ps.toList.zip args).foldl (fun t (p:Tmp × Value)=>t.set p.1 p.2) T,nt,[]⟩ W=some [(.normal,a1,W1)] from up1]; refine DU _ _ ?_; simp only [eS]; rw [up2]; refine DU _ _ ?_; rw [←hx]
  cases x2 <;> rfl
 cases x2 with
 | normal=>exact ⟨_,(.returned (.bool true),W2.Az l (.loop .ready none fn2 T2 nt2 ps2 A2 B2 d2)),key (by simp only [Tk,cK]; rfl),h8 _ (Da.of _ _ _) ⟨T2,by rw [Ft,if_pos rfl],hT2⟩⟩
 | ret=>exact ⟨_,(.returned (.bool false),W2.Az l (.loop .done (some .ret) fn2 T2 nt2 ps2 A2 B2 d2)),key (by simp only [Tk,cK]; rfl),h8 _ (Da.of _ _ _) ⟨T2,by rw [Ft,if_pos rfl],hT2⟩⟩
 | exit id=>exact ⟨_,(.returned (.bool false),W2.Az l (.loop .done (some (.exit id)) fn2 T2 nt2 ps2 A2 B2 d2)),key (by simp only [Tk,cK]; rfl),h8 _ (Da.of _ _ _) ⟨T2,by rw [Ft,if_pos rfl],hT2⟩⟩
 | panic ch =>
  obtain ⟨hd,hq⟩:=h8; exact ⟨_,(.panicked ch,W2),key (by simp only [hd]; rfl),hq⟩
 | goto id=>exact h8.elim
 | outgrown=>exact h8.elim
def eT (l:Nat) (e:Env) (ds:List Deferred) (K:AB):Ending→CW→Prop:=fun en W=>(∃ v,en=.returned v)∧∃ st Dq fn e0 nt ps A B d,Dy W l st Dq fn e0 nt ps A B d∧st≠.busy∧∀ W',Da l W W'→match Dq with
 | none=>K .normal e ds W'
 | some .ret=>K .ret e ds W'
 | some (.exit id)=>K (.exit id) e ds W'
 | _=>False
def mark (r:Nat):Deferred:={ target:=.collected r,args:=#[] }
def S_ (Dq:Option Code) (a:AP) (W:CW):KF:=match Dq with
 | none=>some [(.normal,a,W)]
 | some .ret=>some [(.ret,a,W)]
 | some (.exit id)=>some [(.exit id,a,W)]
 | _=>none
theorem eU {ro:Option Nat} {fn:FuncId} {nt:Nat} {f:Operand} {ps:Array Tmp} {A B:Code} {e:Env} {ds:List Deferred} {W W1:CW} {K:AB} {dl:Nat} {mk:List Deferred} {g:FuncId} {args:List Value} (har:Tj ro W=some (dl,mk,W1))
  (hf:Ht (e.ev f) [.func (.yield W1.sz) #[] #[]]=some (.enter g args))
  (h:∀ W2,Da W1.sz (W1.new .deferred) W2→Dy W2 W1.sz .ready none fn e nt ps A B dl→AD P L g args W2 (eT W1.sz e (mk++ds) K)):Bj P L ro fn nt (.rangeFunc f ps A B) e ds W K:=by
 intro a ha hn; have h0:W1.new (.loop .ready none fn a.t a.nt ps A B dl)=(W1.new .deferred).Az W1.sz (.loop .ready none fn a.t a.nt ps A B dl)∨True:=.inr trivial; have hu:Da W1.sz (W1.new .deferred) (W1.new (.loop .ready none fn a.t a.nt ps A B dl)):=⟨rfl,fun i hi=>by rw [BK,BK,if_neg hi,if_neg hi]⟩
 have hl:Dy (W1.new (.loop .ready none fn a.t a.nt ps A B dl)) W1.sz .ready none fn e nt ps A B dl:=⟨a.t,by rw [BK,if_pos rfl,hn],fun t=>(YV a t).symm.trans (ha.1 t)⟩
 obtain ⟨n,⟨en,W3⟩,h1,⟨v,hv⟩,st,Dq,Vo,e0,gz,g_,A',B',d',⟨T,ho,hT⟩,Ef,hk⟩:=h _ hu hl; simp only at hv; subst hv; have AFU:AE ({ a with defers:=mk++a.defers }:AP) e (mk++ds):=⟨ha.1,by rw [ha.2]⟩
 have key:∀ {o:Exit × AP × CW},S_ Dq { a with defers:=mk++a.defers } (W3.Az W1.sz (.loop .exhausted Dq Vo T gz g_ A' B' d'))=some [o]→(DT P L (n+1)).code ro fn (.rangeFunc f ps A B) a W=some [o]:=by
  intro o hx; rw [IQ]; show Bn P (DT P L n) ro fn (.rangeFunc f ps A B) a W=some [o]; unfold Bn; simp only [har,ha.eval,hf]; rw [h1]; refine DU _ _ ?_; simp only [ho]; rw [←hx]
  cases st <;> first | exact (Ef rfl).elim | (cases Dq with | none=>rfl | some c=>cases c <;> rfl)
 have hk:=hk _ (Da.of W3 W1.sz (.loop .exhausted Dq Vo T gz g_ A' B' d'))
 have fin:∀ x:Exit,S_ Dq { a with defers:=mk++a.defers } (W3.Az W1.sz (.loop .exhausted Dq Vo T gz g_ A' B' d'))=some [(x,({ a with defers:=mk++a.defers }:AP),W3.Az W1.sz (.loop .exhausted Dq Vo T gz g_ A' B' d'))]→K x e (mk++ds) (W3.Az W1.sz (.loop .exhausted Dq Vo T gz g_ A' B' d'))→mu P L ro fn (.rangeFunc f ps A B) a W fun x a' W'=>∃ e',AE a' e' a'.defers∧a'.nt=nt∧K x e' a'.defers W':=by
  intro x hx hK
  refine ⟨n+1,_,key hx,e,?_,hn,?_⟩
  ·exact ⟨ha.1,rfl⟩
  ·show K x e (mk++a.defers) _; rw [ha.2]; exact hK
 cases Dq with
 | none=>exact fin .normal rfl hk
 | some c =>
  cases c <;> first | exact hk.elim | exact fin _ rfl hk
def hG (l:Nat) (e:Env) (ds:List Deferred) (K:AB):Ending→CW→Prop
 | .panicked ch,W=>K (.panic ch) e ds W
 | en,W=>eT l e ds K en W
theorem aO {ro:Option Nat} {fn:FuncId} {nt:Nat} {f:Operand} {ps:Array Tmp} {A B:Code} {e:Env} {ds:List Deferred} {W W1:CW} {K:AB} {dl:Nat} {mk:List Deferred} {g:FuncId} {args:List Value} (har:Tj ro W=some (dl,mk,W1))
  (hf:Ht (e.ev f) [.func (.yield W1.sz) #[] #[]]=some (.enter g args))
  (h:∀ W2,Da W1.sz (W1.new .deferred) W2→Dy W2 W1.sz .ready none fn e nt ps A B dl→AD P L g args W2 (hG W1.sz e (mk++ds) K)):Bj P L ro fn nt (.rangeFunc f ps A B) e ds W K:=by
 ·intro a ha hn; have hu:Da W1.sz (W1.new .deferred) (W1.new (.loop .ready none fn a.t a.nt ps A B dl)):=⟨rfl,fun i hi=>by rw [BK,BK,if_neg hi,if_neg hi]⟩
  have hl:Dy (W1.new (.loop .ready none fn a.t a.nt ps A B dl)) W1.sz .ready none fn e nt ps A B dl:=⟨a.t,by rw [BK,if_pos rfl,hn],fun t=>(YV a t).symm.trans (ha.1 t)⟩
  obtain ⟨n,⟨en,W3⟩,h1,nI⟩:=h _ hu hl
  cases en with
  | panicked ch =>
   refine ⟨n+1,(.panic ch,{ a with defers:=mk++a.defers },W3),?_,e,⟨ha.1,rfl⟩,hn,?_⟩
   ·rw [IQ]; show Bn P (DT P L n) ro fn (.rangeFunc f ps A B) a W=_; unfold Bn; simp only [har,ha.eval,hf]; rw [h1]; exact DU _ _ rfl
   ·show K (.panic ch) e (mk++a.defers) W3; rw [ha.2]; exact nI
  | returned v =>
   obtain ⟨_,st,Dq,Vo,e0,gz,g_,A',B',d',⟨T,ho,hT⟩,Ef,hk⟩:=nI; have hk:=hk _ (Da.of W3 W1.sz (.loop .exhausted Dq Vo T gz g_ A' B' d'))
   have key:∀ {o:Exit × AP × CW},S_ Dq { a with defers:=mk++a.defers } (W3.Az W1.sz (.loop .exhausted Dq Vo T gz g_ A' B' d'))=some [o]→(DT P L (n+1)).code ro fn (.rangeFunc f ps A B) a W=some [o]:=by
    intro o hx; rw [IQ]; show Bn P (DT P L n) ro fn (.rangeFunc f ps A B) a W=some [o]; unfold Bn; simp only [har,ha.eval,hf]; rw [h1]; refine DU _ _ ?_; simp only [ho]; rw [←hx]
    cases st <;> first | exact (Ef rfl).elim | (cases Dq with | none=>rfl | some c=>cases c <;> rfl)
   have fin:∀ x:Exit,S_ Dq { a with defers:=mk++a.defers } (W3.Az W1.sz (.loop .exhausted Dq Vo T gz g_ A' B' d'))=some [(x,({ a with defers:=mk++a.defers }:AP),W3.Az W1.sz (.loop .exhausted Dq Vo T gz g_ A' B' d'))]→K x e (mk++ds) (W3.Az W1.sz (.loop .exhausted Dq Vo T gz g_ A' B' d'))→mu P L ro fn (.rangeFunc f ps A B) a W fun x a' W'=>∃ e',AE a' e' a'.defers∧a'.nt=nt∧K x e' a'.defers W':=by
    intro x hx hK; refine ⟨n+1,_,key hx,e,⟨ha.1,rfl⟩,hn,?_⟩; show K x e (mk++a.defers) _; rw [ha.2]; exact hK
   cases Dq with
   | none=>exact fin .normal rfl hk
   | some c=>cases c <;> first | exact hk.elim | exact fin _ rfl hk
  | outgrown=>obtain ⟨⟨v,hv⟩,_⟩:=nI; cases hv
theorem AA4 {fn:FuncId} {nt:Nat} {f:Operand} {ps:Array Tmp} {A B:Code} {e:Env} {ds:List Deferred} {W:CW} {K:AB} {g:FuncId} {args:List Value} (ht:Aq W)
  (hf:Ht (e.ev f) [.func (.yield (W.sz+1)) #[] #[]]=some (.enter g args))
  (h:∀ W2,Kp W W2→Aq W2→W2.sz=W.sz+2→W2.obj W.sz=some .deferred→Dy W2 (W.sz+1) .ready none fn e nt ps A B W.sz→AD P L g args W2 (hG (W.sz+1) e (mark W.sz::ds) K)):Bj P L none fn nt (.rangeFunc f ps A B) e ds W K:=by
 refine aO (dl:=W.sz) (mk:=[mark W.sz]) (W1:=W.new .deferred) rfl hf fun W2 hu hl=>?_; have k1:Kp W (W.new .deferred):=.new _; have k2:Kp W ((W.new .deferred).new .deferred):=k1.trans (.new _); have t2:Aq ((W.new .deferred).new .deferred):=(ht.new _).new _; refine h W2 (k2.Az (by rw [F2]; omega) hu) (t2.Az (by simp only [F2]; omega) hu) (by rw [hu.sz]; rfl) ?_ hl; rw [hu.obj _ (by rw [F2]; omega),BK,if_neg (by rw [F2]; omega),BK,if_pos rfl]
theorem hP {fn:FuncId} {nt:Nat} {f:Operand} {ps:Array Tmp} {A B:Code} {e:Env} {ds:List Deferred} {W:CW} {K:AB} {g:FuncId} {args:List Value} (ht:Aq W)
  (hf:Ht (e.ev f) [.func (.yield (W.sz+1)) #[] #[]]=some (.enter g args))
  (h:∀ W2,Kp W W2→Aq W2→W2.sz=W.sz+2→W2.obj W.sz=some .deferred→Dy W2 (W.sz+1) .ready none fn e nt ps A B W.sz→AD P L g args W2 (eT (W.sz+1) e (mark W.sz::ds) K)):Bj P L none fn nt (.rangeFunc f ps A B) e ds W K:=by
 refine eU (dl:=W.sz) (mk:=[mark W.sz]) (W1:=W.new .deferred) rfl hf fun W2 hu hl=>?_; have k1:Kp W (W.new .deferred):=.new _; have k2:Kp W ((W.new .deferred).new .deferred):=k1.trans (.new _); have t2:Aq ((W.new .deferred).new .deferred):=(ht.new _).new _; refine h W2 (k2.Az (by rw [F2]; omega) hu) (t2.Az (by simp only [F2]; omega) hu) (by rw [hu.sz]; rfl) ?_ hl; rw [hu.obj _ (by rw [F2]; omega),BK,if_neg (by rw [F2]; omega),BK,if_pos rfl]
end
end Go.Ce
namespace Go.Ce
section
variable {κ:Type} [DecidableEq κ]
def look (m:List (κ × Value)) (s:κ) (i:Nat):Option (Nat × Value):=match m with
 | []=>none
 | p::m=>if s=p.1 then some (i,p.2) else look m s (i+1)
def Kr (m:List (κ × Value)) (s:κ):Option Value:=match m with
 | []=>none
 | p::m=>if s=p.1 then some p.2 else Kr m s
def YW (m:List (κ × Value)) (s:κ) (x:Value):List (κ × Value):=match m with
 | []=>[(s,x)]
 | p::m=>if s=p.1 then (s,x)::m else p::YW m s x
theorem II:∀ (m:List (κ × Value)) (s:κ) (x:Value) (u:κ),Kr (YW m s x) u=if u=s then some x else Kr m u
 | [],s,x,u=>by simp [YW,Kr]
 | p::m,s,x,u=>by
  simp only [YW]
  by_cases h:s=p.1
  ·rw [if_pos h]; simp only [Kr]
   by_cases hu:u=s
   ·rw [if_pos hu,if_pos hu]
   ·rw [if_neg hu,if_neg hu,if_neg (by rw [←h]; exact hu)]
  ·rw [if_neg h]; simp only [Kr]
   by_cases hu:u=p.1
   ·rw [if_pos hu,if_pos hu,if_neg (fun e=>h (by rw [←e]; exact hu))]
   ·rw [if_neg hu,if_neg hu,II m s x u]
theorem aP:∀ (m:List (κ × Value)) (s:κ) (i:Nat),(look m s i).map (·.2)=Kr m s
 | [],s,i=>rfl
 | p::m,s,i=>by
  simp only [look,Kr]
  by_cases h:s=p.1
  ·rw [if_pos h,if_pos h]; rfl
  ·rw [if_neg h,if_neg h]; exact aP m s (i+1)
def FR (enc:κ→Value) (W:CW) (r:Nat) (m:List (κ × Value)):Prop:=∃ es EE,W.obj r=some (.map es EE)∧es.map (fun e=>(e.key,e.val))=m.map fun p=>(enc p.1,p.2)
theorem FR.congr {enc:κ→Value} {W W':CW} {r:Nat} {m:List (κ × Value)} (h:FR enc W r m) (ho:W'.obj r=W.obj r):FR enc W' r m:=by
 obtain ⟨es,EE,h1,h2⟩:=h; exact ⟨es,EE,ho.trans h1,h2⟩
theorem FR.lt {enc:κ→Value} {W:CW} (ht:Aq W) {r:Nat} {m:List (κ × Value)} (h:FR enc W r m):r<W.sz:=by
 obtain ⟨es,EE,h1,h2⟩:=h; exact ht _ _ h1
theorem FR.kp {enc:κ→Value} {W W':CW} {r:Nat} {m:List (κ × Value)} (h:FR enc W r m) (ht:Aq W) (k:Kp W W'):FR enc W' r m:=h.congr (k.obj r (h.lt ht))
variable {enc:κ→Value} {d:TypeDesc}
theorem UU (hk:∀ a b,M' d (enc a) (enc b)=some (decide (a=b))) (s:κ):∀ (es:List MapEntry) (m:List (κ × Value)) (i:Nat),es.map (fun e=>(e.key,e.val))=m.map (fun p=>(enc p.1,p.2))→Jl d (enc s) es i=some (look m s i)
 | [],[],i,_=>rfl
 | e::es,p::m,i,h=>by
  simp only [List.map_cons,List.cons.injEq,Prod.mk.injEq] at h; obtain ⟨⟨h1,h2⟩,h3⟩:=h; simp only [Jl,look]; rw [h1,hk]
  by_cases hs:s=p.1
  ·rw [if_pos hs,decide_eq_true hs]; simp only [h2]
  ·rw [if_neg hs,decide_eq_false hs]; exact UU hk s es m (i+1) h3
 | [],_::_,_,h=>by cases h
 | _::_,[],_,h=>by cases h
theorem hX (hk:∀ a b,M' d (enc a) (enc b)=some (decide (a=b))) (s:κ) (x:Value):∀ (es:List MapEntry) (m:List (κ × Value)) (i j:Nat) (y:Value),es.map (fun e=>(e.key,e.val))=m.map (fun p=>(enc p.1,p.2))→look m s i=some (j,y) →
  (Iu x (enc s) (j-i) es).map (fun e=>(e.key,e.val))=(YW m s x).map (fun p=>(enc p.1,p.2))∧i≤j
 | [],[],i,j,y,_,hl=>by cases hl
 | e::es,p::m,i,j,y,h,hl=>by
  simp only [List.map_cons,List.cons.injEq,Prod.mk.injEq] at h; obtain ⟨⟨h1,h2⟩,h3⟩:=h; simp only [look] at hl; simp only [YW]
  by_cases hs:s=p.1
  ·rw [if_pos hs] at hl; rw [if_pos hs]
   cases hl
   refine ⟨?_,Nat.le_refl _⟩; rw [Nat.sub_self]; simp only [Iu,List.map_cons,h3]
  ·rw [if_neg hs] at hl; rw [if_neg hs]; obtain ⟨h4,h5⟩:=hX hk s x es m (i+1) j y h3 hl; refine ⟨?_,by omega⟩; rw [show j-i=(j-(i+1))+1 by omega]; simp only [Iu,List.map_cons,h4,h1,h2]
 | [],_::_,_,_,_,h,_=>by cases h
 | _::_,[],_,_,_,h,_=>by cases h
theorem NR (s:κ) (x:Value):∀ (m:List (κ × Value)) (i:Nat),look m s i=none→YW m s x=m++[(s,x)]
 | [],i,_=>rfl
 | p::m,i,h=>by
  simp only [look] at h; simp only [YW]
  by_cases hs:s=p.1
  ·rw [if_pos hs] at h; cases h
  ·rw [if_neg hs] at h ⊢; rw [NR s x m _ h]; rfl
variable {P:Program} {t kt el:TypeId} {z:Value}
theorem Ks (u:P.underlying t=some (.map kt el)) (uk:P.underlying kt=some d) (hd:IE d=true) (hz:Gp P el=some z) (hk:∀ a b,M' d (enc a) (enc b)=some (decide (a=b))) {W:CW} {r:Nat} {m:List (κ × Value)} (h:FR enc W r m) (s:κ) (ok:Bool) :
  HW P t (.map (some r)) (enc s) ok W=some (match Kr m s with
   | some x=>cond ok (.tuple #[x,.bool true]) x
   | none=>cond ok (.tuple #[z,.bool false]) z):=by
 obtain ⟨es,EE,h1,h2⟩:=h; unfold HW M_; simp only [u,uk,hd,hz,h1,C7,cond_true]; rw [UU hk s es m 0 h2]; simp only; have:=aP m s 0
 cases hl:look m s 0 with
 | none=>rw [hl] at this; rw [←this]; rfl
 | some p=>rw [hl] at this; obtain ⟨i,x⟩:=p; rw [←this]; rfl
theorem aQ (u:P.underlying t=some (.map kt el)) (uk:P.underlying kt=some d) (hd:IE d=true) (hk:∀ a b,M' d (enc a) (enc b)=some (decide (a=b))) {W:CW} {r:Nat} {m:List (κ × Value)} (h:FR enc W r m) {s:κ} {x:Value} {K:CW→Prop}
  (hK:∀ W1,Da r W W1→FR enc W1 r (YW m s x)→K W1):wV (cP P t (.map (some r)) (enc s) x W) K:=by
 obtain ⟨es,EE,h1,h2⟩:=h; have hf:=UU hk s es m 0 h2
 cases hl:look m s 0 with
 | none =>
  rw [hl] at hf
  refine BG (v:=W.Az r (.map (es++[{ key:=enc s,val:=x,born:=EE }]) (EE+1))) ?_ (hK _ (Da.of _ _ _) ⟨_,_,by rw [Ft,if_pos rfl],?_⟩)
  ·unfold cP M_; simp only [u,uk,hd,h1,C7,cond_true,hf]
  ·rw [NR s x m 0 hl,List.map_append,List.map_append,h2]; rfl
 | some p =>
  obtain ⟨j,y⟩:=p; rw [hl] at hf; obtain ⟨h3,_⟩:=hX hk s x es m 0 j y h2 hl; rw [Nat.sub_zero] at h3; refine BG (v:=W.Az r (.map (Iu x (enc s) j es) EE)) ?_ (hK _ (Da.of _ _ _) ⟨_,_,by rw [Ft,if_pos rfl],h3⟩); unfold cP M_; simp only [u,uk,hd,h1,C7,cond_true,hf]
theorem UW {W:CW} {K:Value→CW→Prop} (ht:Aq W) (hk:∀ W1,Kp W W1→Aq W1→W1.sz=W.sz+1→FR enc W1 W.sz []→K (.map (some W.sz)) W1):CZ (tI W) K :=
 hk _ (.new _) (ht.new _) rfl ⟨[],0,by rw [BK,if_pos rfl],rfl⟩
end
theorem Fu (a b:ByteArray):M' .string (.string a) (.string b)=some (decide (a=b)):=by
 simp only [M',MZ]
section
variable {P:Program}
theorem QM {W:CW} {a:Addr} {cs:List Value} (h:Cells W a.block a.off cs):Eh (some a) cs.length W=some cs:=by
 unfold Eh; simp only [cond_eq_ite]
 cases cs with
 | nil=>rfl
 | cons c cs =>
  rw [if_neg (by simp)]; have RQ:∃ v,(c::cs)[cs.length]?=some v:=⟨(c::cs)[cs.length]'(by simp),List.getElem?_eq_getElem _⟩
  obtain ⟨v,hv⟩:=RQ; have LR:=h _ v hv; unfold CW.cell at LR
  split at LR
  ·rename_i t n z e ho
   split at LR
   ·rename_i A0; rw [ho]; simp only [List.length_cons]; rw [if_pos (Nat.ble_eq_true_of_le (by omega))]
    have:=GO (c:=t) (z:=z) (vs:=c::cs) (k:=a.off) fun j w hj=>by
     have:=h j w hj; unfold CW.cell at this; rw [ho] at this; simp only at this
     split at this
     ·exact Option.some.inj this
     ·cases this
    rw [←this]; simp
   ·cases LR
  ·rename_i f n e ho
   split at LR
   ·rename_i A0; rw [ho]; simp only [List.length_cons]; rw [if_pos (Nat.ble_eq_true_of_le (by omega))]
    have:=Np (f:=f) (vs:=c::cs) (k:=a.off) fun j w hj=>by
     have:=h j w hj; unfold CW.cell at this; rw [ho] at this; simp only at this
     split at this
     ·exact Option.some.inj this
     ·cases this
    rw [←this]; simp
   ·cases LR
  ·cases LR
inductive C8 (W:CW) (el:TypeId) (n:Nat):Value→List Value→Prop where
 | nil:C8 W el n (.slice none 0 0) []
 | some {b len:Nat} {cs:List Value} (h:BF W b el cs) (hl:cs.length=len*n):C8 W el n (.slice (some ⟨b,0,none⟩) len len) cs
structure ADV (v:Value) (W W':CW):Prop where
 sz:W'.sz=W.sz+1
 top:Aq W→Aq W'
 obj:∀ i,i<W.sz→(∀ b l c,v=.slice (some b) l c→i≠b.block)→W'.obj i=W.obj i
theorem hY {t u el:TypeId} {ts:List TypeId} {n bytes:Nat} {z:Value} (ut:P.underlying t=some (.slice el)) (hu:HA P u=true) (hs:Db P el=some n) (hz:Gp P el=some z) (lR:z.cells.size=n) (hn:0<n) (tM:(P.info? el).map (·.bytes)=some bytes) (hb:bytes≤1024)
  {W:CW} (ht:Aq W) {v x:Value} {cs news:List Value} {m:Nat} (hv:C8 W el n v cs) (hx:ca x=some m) (hm:0<m) (jW:G_ x m n W=some news) (h1:news.all BO=true) (KO:news.length=m*n) (eV:cs.length+m≤1000000) {K:Value→CW→Prop}
  (hk:∀ W1 len,ADV v W W1→(cs++news).length=len*n→BF W1 W.sz el (cs++news)→K (.slice (some ⟨W.sz,0,none⟩) len len) W1):CZ (app P (t::u::ts) v x W) K:=by
 have eW:Nat.ble ((P.info? el).map (·.bytes) |>.getD 2000) 1024=true:=by rw [tM]; exact Nat.ble_eq_true_of_le hb
 unfold app; simp only [hu,cond_true]
 cases hv with
 | nil =>
  have hc:GI P t (.slice none 0 0) x W=some (.slice (some ⟨W.sz,0,none⟩) (0+m) (0+m),W.new (.cells (Tr.nil.Ah 0 news) ((0+m)*n) #[] el)):=by
   unfold GI; simp only [ut,hx,C7,hs,hz,jW,h1,KO,Nat.beq_refl,lR,eW,Bool.true_and,Bool.and_true]; rw [show Nat.blt 0 n=true from Nat.ble_eq_true_of_le hn,show Nat.ble (0+m) 1000000=true from Nat.ble_eq_true_of_le (by simp only [List.length_nil] at eV; omega)]; simp only [Bool.and_self,cond_true]; rw [show Nat.ble (0+m) 0=false from by cases h:Nat.ble (0+m) 0 with | false=>rfl | true=>have:=Nat.le_of_ble_eq_true h; omega]; simp only [cond_false]
  refine JW hc (hk _ _ ⟨rfl,fun ht=>ht.new _,fun i hi _=>by rw [BK,if_neg (by omega)]⟩ (by rw [List.nil_append,KO]; congr 1; omega) ⟨_,_,_,by rw [BK,if_pos rfl],by rw [List.nil_append,KO]; congr 1; omega,fun k w hw=>?_⟩); rw [List.nil_append] at hw; rw [C_ _ _ _ (List.getElem?_eq_some_iff.1 hw).1,List.getD_eq_getElem?_getD,hw]; rfl
 | @some b len cs hB hl =>
  obtain ⟨c,k,zz,ho,LQ,BP⟩:=hB; have hlen:len≤cs.length:=by rw [hl]; exact Nat.le_mul_of_pos_right _ hn
  have Lk:BW c zz (len*n) 0=cs:=by
   rw [←hl]; exact GO fun j w hj=>by rw [Nat.zero_add]; exact BP j w hj
  have hc:GI P t (.slice (some ⟨b,0,none⟩) len len) x W=some (.slice (some ⟨W.sz,0,none⟩) (len+m) (len+m),(W.Az b .dead).new (.cells (Tr.nil.Ah 0 (cs++news)) ((len+m)*n) #[] el)):=by
   unfold GI; simp only [ut,hx,C7,hs,hz,jW,h1,KO,Nat.beq_refl,lR,eW,Bool.true_and,Bool.and_true]; rw [show Nat.blt 0 n=true from Nat.ble_eq_true_of_le hn,show Nat.ble (len+m) 1000000=true from Nat.ble_eq_true_of_le (by omega)]; simp only [Bool.and_self,cond_true]; rw [show Nat.ble (len+m) len=false from by cases h:Nat.ble (len+m) len with | false=>rfl | true=>have:=Nat.le_of_ble_eq_true h; omega]; simp only [cond_false,Option.isSome_none,ho,Nat.beq_refl,Bool.and_true,Nat.zero_add,Lk]; rw [show Nat.ble (len*n) k=true from Nat.ble_eq_true_of_le (by omega)]; simp only [cond_true]
  refine JW hc (hk _ _ ⟨rfl,fun ht=>Aq.new (ht.Az (ht _ _ ho) (Da.of _ _ _)) _,fun i hi EB=>by
    have:=EB ⟨b,0,none⟩ len len rfl
    rw [BK,if_neg (by rw [nF]; omega),Ft,if_neg this]⟩ (by rw [List.length_append,hl,KO,←Nat.add_mul]) ⟨_,_,_,by rw [BK,if_pos (by rw [nF])],by rw [List.length_append,hl,KO,←Nat.add_mul],fun k w hw=>?_⟩)
  rw [C_ _ _ _ (List.getElem?_eq_some_iff.1 hw).1,List.getD_eq_getElem?_getD,hw]; rfl
end
end Go.Ce
namespace Go.Ce
open Go Go.Proofs Go.Proofs.Tryz
def tN (v:Value) (W:CW):Ending→CW→Prop:=fun e W'=>e=.returned v∧Kp W W'∧Aq W'
theorem UX {P:Program} {L:List FuncId} {f:FuncId} {args:List Value} {W:CW} {K:Value→CW→Prop} {KP:List PanicEntry→CW→Prop} {v:Value} (h:AD P L f args W (tN v W)) (hk:∀ W1,Kp W W1→Aq W1→K v W1):AD P L f args W (AQ K KP) :=
 h.mono fun e W' ⟨he,h1,h2⟩=>by subst he; exact hk W' h1 h2
def aR (W:CW) (b o:Nat) (x:UInt8):Prop:=W.cell b o=some (.int .u8 x.toNat)
def Mc (x:UInt8):Bool:=decide ((x.toNat:Int)<33) || decide ((x.toNat:Int)>126)
def IY {α:Type} (l:List α) (p:α→Bool):Int:=match l.findIdx? p with
 | some i=>i
 | none=>-1
theorem Jw {α:Type} {l:List α} {p:α→Bool} {i:Nat} (h:i<l.length) (hp:p l[i]=true) (Bg:∀ j x,j<i→l[j]?=some x→p x=false):IY l p=i:=by
 have:l.findIdx? p=some i:=by
  rw [List.findIdx?_eq_some_iff_getElem]; exact ⟨h,hp,fun j hj=>by rw [Bg j l[j] hj (List.getElem?_eq_getElem _)]; simp⟩
 simp [IY,this]
theorem Jx {α:Type} {l:List α} {p:α→Bool} (Bg:∀ (j:Nat) x,j<l.length→l[j]?=some x→p x=false):IY l p=-1:=by
 have:l.findIdx? p=none:=by
  rw [List.findIdx?_eq_none_iff]; intro x hx; obtain ⟨j,hj,rfl⟩:=List.mem_iff_getElem.1 hx; exact Bg j l[j] hj (List.getElem?_eq_getElem _)
 simp [IY,this]
theorem aS {v:Value} {l:List UInt8} {W:CW} (hl:A3 1 (aR W) v l) (hlen:l.length<1000000):AD prog AM 140 [v,.func (.func 124) #[] #[]] W (Gk (.int .i64 (IY l Mc)) W):=by
 refine wc ?_; rw [wa]; obtain ⟨a,cap,rfl,BP⟩:=hl; rw [At eR]; simp only [AA]; refine Dh (fun k e ds W'=>W'=W∧ds=[]∧∃ i:Nat,e 0=.slice a l.length cap∧e 1=.func (.func 124) #[] #[]∧e 7=.int .i64 l.length∧e 8=.int .i64 i∧i≤l.length∧k=l.length-i∧∀ j x,j<i→l[j]?=some x→Mc x=false) l.length ⟨rfl,rfl,0,rfl,rfl,rfl,rfl,by omega,by omega,by omega⟩ ?_; rintro k e ds W' ⟨rfl,rfl,i,h0,h1,h7,h8,hi,rfl,Bg⟩; rw [rI,h0,h1,h7,h8]; simp only [AA,Ax]
 refine AN (fun h=>?_) (fun h=>?_)
 ·have A0:i<l.length:=by simpa using h
  have hx:=List.getElem?_eq_getElem A0; obtain ⟨p,rfl,hp⟩:=BP i _ hx; rw [BM eR s5 A0]; simp only [AA,AF a5 (a:=⟨p.block,p.off+i*1,none⟩) hp]; refine H8 Tryz.func124 (by kernel_rfl) (BA (YU _ _) ?_)
  refine AN (fun hq=>?_) (fun hq=>?_)
  ·simp only [On,LC,zt,PV,YN,UP,AW,↓reduceIte]; refine ⟨?_,rfl⟩; rw [Jw A0 hq Bg]
  ·simp only [On,Bi,AW,Aa,Nat.reduceEqDiff,↓reduceIte,h0,h1,h7,h8,Ae,AA,Wg]
   refine ⟨l.length-(i+1),by omega,trivial,trivial,i+1,trivial,trivial,trivial,?_,A0,rfl,fun j x hj QN=>?_⟩
   ·rw [wrap64 (by omega) (by omega)]; rfl
   ·rcases Nat.lt_succ_iff_lt_or_eq.1 hj with h2 | rfl
    ·exact Bg j x h2 QN
    ·rw [hx] at QN; cases QN; exact hq
 ·have Mx:i=l.length:=by have:¬i<l.length:=(by simpa using h); omega
  simp only [Wh,JB,YN,Bi,UP,AW,↓reduceIte]; refine ⟨?_,rfl⟩; rw [Jx fun j x hj hx=>Bg j x (by omega) hx]
theorem UY {v:Value} {l:List UInt8} {W:CW} (hl:A3 1 (aR W) v l) (hlen:l.length<1000000):AD prog AM 123 [v,.func (.func 124) #[] #[]] W (Gk (.bool (l.any Mc)) W):=by
 refine wZ ?_; rw [wY]; refine BA (aS hl hlen) ?_; simp only [DL,AA,eP,AW,↓reduceIte]; refine ⟨?_,rfl⟩; congr 2
 cases h:l.any Mc with
 | true =>
  obtain ⟨x,hx,hb⟩:=List.any_eq_true.1 h; unfold IY
  cases h2:l.findIdx? Mc with
  | none=>rw [List.findIdx?_eq_none_iff] at h2; rw [h2 x hx] at hb; cases hb
  | some i=>simp
 | false =>
  rw [Jx fun j x hj hx=>by
   have:=List.any_eq_false.1 h x (List.mem_of_getElem? hx)
   simpa using this]
  rfl
def GB (s:ByteArray):Bool:=(decide ((1:Int)≤s.size) && decide ((s.size:Int)≤60)) && !(sb s).any Mc
theorem AA5 {s:ByteArray} {W:CW} (ht:Aq W) {K:Value→CW→Prop} (hk:∀ v W1,Kp W W1→Aq W1→A3 1 (aR W1) v (sb s)→K v W1):CZ (u_ prog 9 29 (.string s) W) K:=by
 have hc:u_ prog 9 29 (.string s) W=some (.slice (some ⟨W.sz,0,none⟩) s.size s.size,W.new (.cells (Tr.nil.Ah 0 (C0 (sb s))) s.size #[] 5)):=by kernel_rfl
 have HD:(sb s).length=s.size:=by cases s; exact Array.length_toList
 refine JW hc (hk _ _ (.new _) (ht.new _) ⟨some ⟨W.sz,0,none⟩,s.size,by rw [HD],fun i x hx=>⟨_,rfl,?_⟩⟩); have A0:=(List.getElem?_eq_some_iff.1 hx).1; unfold aR CW.cell; rw [BK,if_pos rfl]; simp only [Nat.zero_add,Nat.mul_one]; rw [if_pos (by omega),C_ _ _ _ (by simp [C0]; exact A0)]; simp [C0,List.getD_eq_getElem?_getD,hx]
theorem Rs {s:ByteArray} {W:CW} (ht:Aq W) (hlen:s.size<1000000):AD prog AM 101 [.string s] W (tN (.bool (GB s)) W):=by
 have HD:(sb s).length=s.size:=by cases s; exact Array.length_toList
 refine wX ?_; rw [wU,Lz u9]; simp only [AA]; refine BA (aM _ _ _ _) ?_
 refine AN (fun h=>?_) (fun h=>?_)
 ·refine AA5 ht fun v W1 k1 t1 hv=>?_; refine BA (UY hv (by omega)) ?_; simp only [Ar,AA,MW,Bi,UO,AW,↓reduceIte]; refine ⟨?_,k1,t1⟩; simp only [GB,h,Bool.true_and]
 ·simp only [MW,Bi,UO,AW,↓reduceIte]; refine ⟨?_,.refl _,ht⟩; simp only [GB,h,Bool.false_and]
end Go.Ce
namespace Go.Ce
open Go Go.Proofs Go.Proofs.Tryz
theorem Md (s:ByteArray):(sb s).length=s.size:=by cases s; exact Array.length_toList
end Go.Ce
