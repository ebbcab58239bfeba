/- The canonical machine for closed runs: functions, loops, ranges over functions, deferred calls. -/
import Derived.Test.YtcjjhebocgbbdaaGreatCa
set_option linter.unusedSectionVars false
set_option linter.unusedVariables false
set_option linter.unusedSimpArgs false
namespace Go.Ce

abbrev Outs := Option (List (Exit × CAct × CW))
abbrev Ends := Option (List (Ending × CW))
abbrev DEnds := Option (List (Ending × FrameMode × CW))

structure CRec where
  code : Option Nat → FuncId → Code → CAct → CW → Outs
  call : FuncId → List Value → CW → Ends
  round : Nat → List Value → CW → Ends
  dcall : FuncId → List Value → FrameMode → CW → DEnds

def CRec.none : CRec := ⟨fun _ _ _ _ _ => Option.none, fun _ _ _ => Option.none, fun _ _ _ => Option.none, fun _ _ _ _ => Option.none⟩

def bindL {α β : Type} (f : α → Option (List β)) : List α → Option (List β)
  | [] => some []
  | x :: xs => match f x with
    | Option.none => Option.none
    | some l => match bindL f xs with
      | Option.none => Option.none
      | some m => some (l ++ m)

def bindO {α β : Type} (o : Option (List α)) (f : α → Option (List β)) : Option (List β) :=
  match o with
  | Option.none => Option.none
  | some l => bindL f l

def cyield (ops : Array Oper) (a : CAct) (j : Nat) : Option Bool :=
  match ops[j]? with
  | some o => match o.dst with
    | some d => match a.t.get d with
      | some (.bool b) => some b
      | _ => none
    | none => none
  | none => none

def cwanted (ops : Array Oper) (o : Oper) (a : CAct) : Bool :=
  match o.guard with
  | none => true
  | some (j, want) => match cyield ops a j with
    | some b => b == want
    | none => false

section
variable (P : Program)

/-! ### Regions that draw their order -/

def prs (ops : Array Oper) (i : Nat) : List Nat :=
  match ops[i]? with
  | some o => (o.after.toList.filter (Region.binds .any)).map (·.on)
  | none => []

def addNew (l : List Nat) : List Nat → List Nat
  | [] => l
  | x :: xs => addNew (cond (l.any (Nat.beq x)) l (l ++ [x])) xs

def clos (ops : Array Oper) : Nat → List Nat → List Nat
  | 0, l => l
  | f + 1, l => let m := addNew l (l.flatMap (prs ops)); cond (Nat.beq m.length l.length) l (clos ops f m)

/-- What must be done before an operation. -/
def ancs (ops : Array Oper) (i : Nat) : List Nat := clos ops ops.size (prs ops i)
def anc (ops : Array Oper) (i j : Nat) : Bool := (ancs ops i).any (Nat.beq j)

/-- Operations that change no memory and look at none. -/
def pureOp (o : Oper) : Bool :=
  match o.op with
  | .move _ | .assign _ | .pick .. | .build .. | .nilCheck _ | .binOp .. | .unOp .. | .makeInterface .. | .makeFunc .. | .field .. | .fieldAddr .. | .indexAddr .. | .index .. | .typeAssert .. | .extract .. => true
  | .convert s d _ => (match P.underlying s with | some (.slice _) => false | _ => true) && (match P.underlying d with | some (.slice _) => false | _ => true)
  | _ => false

/-- Operations that look at memory alone. -/
def readOp (o : Oper) : Bool :=
  match o.op with
  | .load .. | .slice .. | .lookup .. | .entry _ => true
  | .call c => match c.callee with
    | .builtin .len => true
    | _ => false
  | .convert s d _ => (match P.underlying s with | some (.slice _) => true | _ => false) && (match P.underlying d with | some .string => true | _ => false)
  | _ => false

/-- Whether an operand can be told at the region's begin. -/
def earlyOk (ops : Array Oper) : Nat → Operand → Bool
  | n + 1, .tmp t => match ops.toList.find? (fun o => match o.dst with | some d => Nat.beq d t | none => false) with
    | some o => pureOp P o && o.guard.isNone && o.op.operands.toList.all (earlyOk ops n)
    | none => true
  | 0, .tmp _ => false
  | _, _ => true

def floatKind (ops : Array Oper) (o : Oper) : Bool :=
  match o.op, o.guard with
  | .alloc _, none => true
  | .makeMap _ none, none => true
  | .makeSlice _ l c, none => earlyOk P ops 6 l && earlyOk P ops 6 c
  | _, _ => false

def wrOp (o : Oper) : Bool := !(pureOp P o || readOp P o)

/-- The allocations that are not in line with all that writes. -/
def floats (ops : Array Oper) : List Nat :=
  let n := ops.size
  let ws := (List.range n).filter fun i => match ops[i]? with | some o => wrOp P o | none => false
  ws.filter fun i => match ops[i]? with
    | some o => floatKind P ops o && ws.any fun j => !Nat.beq i j && !anc ops i j && !anc ops j i
    | none => false

def memN (l : List Nat) (i : Nat) : Bool := l.any (Nat.beq i)

/-- What a region that draws must be. -/
def drawOk (ops : Array Oper) : Bool :=
  let n := ops.size
  let fl := floats P ops
  (List.range n).all fun i => match ops[i]? with
    | some oi =>
      let an := ancs ops i
      (prs ops i).all (fun p => Nat.blt p i) && (List.range i).all fun j => memN an j || (match ops[j]? with
        | some oj => oj.apart ops oi && !(wrOp P oi && wrOp P oj && !memN fl i && !memN fl j)
        | none => true)
    | none => true

def veq : Nat → Value → Value → Bool
  | 0, _, _ => false
  | n + 1, v, w => match v, w with
    | .bool a, .bool b => a == b
    | .int j a, .int k b => decide (j = k) && a == b
    | .pointer none, .pointer none => true
    | .pointer (some ⟨a, i, none⟩), .pointer (some ⟨b, j, none⟩) => Nat.beq a b && Nat.beq i j
    | .slice none n c, .slice none m d => Nat.beq n m && Nat.beq c d
    | .slice (some ⟨a, i, none⟩) n c, .slice (some ⟨b, j, none⟩) m d => Nat.beq a b && Nat.beq i j && Nat.beq n m && Nat.beq c d
    | .map none, .map none => true
    | .map (some a), .map (some b) => Nat.beq a b
    | .nilIface, .nilIface => true
    | .nilFunc, .nilFunc => true
    | .string a, .string b => bEq (sb a) (sb b)
    | .iface t v, .iface u w => Nat.beq t u && veq n v w
    | .agg x, .agg y => Nat.beq x.size y.size && (x.toList.zip y.toList).all fun (v, w) => veq n v w
    | .tuple x, .tuple y => Nat.beq x.size y.size && (x.toList.zip y.toList).all fun (v, w) => veq n v w
    | .func (.func f) x x', .func (.func g) y y' => Nat.beq f g && Nat.beq x.size y.size && Nat.beq x'.size y'.size && (x.toList.zip y.toList).all (fun (v, w) => veq n v w) && (x'.toList.zip y'.toList).all fun (v, w) => veq n v w
    | _, _ => false

/-- A block that an allocation has made, untouched. -/
def initObj : Option CObj → Option CObj → Bool
  | some (.map [] 0), some (.map [] 0) => true
  | some (.cells .nil n z e), some (.cells .nil m y f) => Nat.beq n m && Nat.beq e f && Nat.beq z.size y.size && (z.toList.zip y.toList).all fun (v, w) => veq 6 v w
  | _, _ => false

/-! ### Outcomes merged: what they agree on -/

def veqL (xs ys : List Value) : Bool := Nat.beq xs.length ys.length && (xs.zip ys).all fun (v, w) => veq 8 v w
def oveq : Option Value → Option Value → Bool
  | none, none => true
  | some v, some w => veq 8 v w
  | _, _ => false
def teq : Nat → Tr Value → Tr Value → Bool
  | _, .nil, .nil => true
  | n + 1, .node l v r, .node l' v' r' => oveq v v' && teq n l l' && teq n r r'
  | _, _, _ => false
def meq (a b : MapEntry) : Bool := veq 8 a.key b.key && veq 8 a.val b.val && Nat.beq a.born b.born
def ceqO : CObj → CObj → Bool
  | .cells c n z e, .cells c' n' z' e' => Nat.beq n n' && Nat.beq e e' && veqL z.toList z'.toList && teq 30 c c'
  | .map es k, .map es' k' => Nat.beq k k' && Nat.beq es.length es'.length && (es.zip es').all fun (a, b) => meq a b
  | .deferred, .deferred => true
  | _, _ => false

def meetO : Option CObj → Option CObj → Option CObj
  | some o, some o' => cond (ceqO o o') (some o) none
  | _, _ => none
def meetT : Nat → Tr CObj → Tr CObj → Tr CObj
  | n + 1, .node l v r, .node l' v' r' => .node (meetT n l l') (meetO v v') (meetT n r r')
  | _, _, _ => .nil
def meet (W W' : CW) : CW := ⟨meetT 30 W.h W'.h, max W.sz W'.sz⟩

def mergeE : List (Ending × CW) → Option (Value × CW)
  | [(.returned v, W)] => some (v, W)
  | (.returned v, W) :: rest => match mergeE rest with
    | some (u, W') => cond (veq 8 v u) (some (v, meet W W')) none
    | none => none
  | _ => none

/-- The outcomes of a call: one, where they agree. -/
def merged (o : Ends) : Ends :=
  match o with
  | some (x :: y :: l) => match mergeE (x :: y :: l) with
    | some (v, W) => some [(.returned v, W)]
    | none => some (x :: y :: l)
  | o => o

def evOps (R : CRec) (ops : Array Oper) : List Oper → CAct → CW → Outs
  | [], a, W => some [(.normal, a, W)]
  | o :: rest, a, W =>
    match cwanted ops o a with
    | true => bindO (cop P o a.eval W) fun (n, W) => match n with
        | .value v => evOps R ops rest (a.put o.dst v) W
        | .skip => evOps R ops rest (a.put o.dst undef) W
        | .defer d => evOps R ops rest ({ a with defers := d :: a.defers }.put o.dst undef) W
        | .enter f args => bindO (R.call f args W) fun (e, W) => match e with
          | .returned v => evOps R ops rest (a.put o.dst v) W
          | .panicked ch => some [(.panic ch, a, W)]
          | .outgrown => none
        | .round l args => bindO (R.round l args W) fun (e, W) => match e with
          | .returned v => evOps R ops rest (a.put o.dst v) W
          | .panicked ch => some [(.panic ch, a, W)]
          | .outgrown => none
        | .recover => none
        | .panic v => some [(.panic [{ v, recovered := false }], a, W)]
    | false => evOps R ops rest (a.put o.dst undef) W

/-! ### What code must be -/

/-- A value that holds no address: it stands to itself. -/
def plainV : Nat → Value → Bool
  | 0, _ => false
  | n + 1, v => match v with
    | .bool _ | .int _ _ | .float _ _ | .complex _ _ _ | .string _ | .pointer none | .slice none _ _ | .map none | .chan none | .nilFunc | .nilIface => true
    | .agg x => x.toList.all (plainV n)
    | .tuple x => x.toList.all (plainV n)
    | .iface _ v => plainV n v
    | _ => false

/-- Operands that the machine takes: no package-level variable, no constant that holds an address. -/
def okOperand : Operand → Bool
  | .tmp _ => true
  | .const v => plainV 8 v
  | .global _ => false
  | .func _ => true

/-- Operations all of whose operands the machine takes. -/
def okOp (o : Oper) : Bool :=
  match o.op with
  | .move x | .assign x | .nilCheck x | .unOp _ _ x | .convert _ _ x | .makeInterface _ x | .field _ x _ | .fieldAddr _ x _ | .range _ x | .next x false | .entry x | .typeAssert x _ _ _ | .extract x _ | .panic x | .box _ x => okOperand x
  | .load _ x => okOperand x || (match x with | .global _ => true | _ => false)
  | .pick c a b => okOperand c && okOperand a && okOperand b
  | .alloc _ | .makeMap _ none => true
  | .build _ ps | .buildSlice _ _ ps => ps.toList.all fun p => okOperand p.2
  | .store _ a x => okOperand a && okOperand x
  | .binOp _ _ x y _ | .makeSlice _ x y | .indexAddr _ x y | .index _ x y | .lookup _ x y _ => okOperand x && okOperand y
  | .makeFunc (.func _) f c => f.toList.all okOperand && c.toList.all okOperand
  | .slice _ x l h m => okOperand x && l.all okOperand && h.all okOperand && m.all okOperand
  | .mapUpdate _ m k x | .insert _ m k x => okOperand m && okOperand k && okOperand x
  | .call c => c.args.toList.all okOperand && (match c.callee with | .value f => okOperand f | .builtin _ => true | _ => false)
  | .defer c => c.args.toList.all okOperand && (match c.callee with | .value f => okOperand f | _ => false)
  | _ => false

def dstOk (nt : Nat) (o : Oper) : Bool := match o.dst with | some d => Nat.blt d nt | none => true

def notDefer (o : Oper) : Bool := match o.op with | .defer _ => false | _ => true
def opsOk (nt : Nat) (inR : Bool) (ops : List Oper) : Bool := ops.all fun o => okOp o && dstOk nt o && (!inR || notDefer o)

def psOk (nt : Nat) (ps : Array Tmp) : Bool := ps.toList.all fun p => Nat.blt p nt
def codeOk (nt : Nat) (inR : Bool) : Code → Bool
  | .skip | .label _ | .exit _ | .ret => true
  | .region _ ops d => opsOk nt inR ops.toList && (!d || drawOk P ops)
  | .seq x y => codeOk nt inR x && codeOk nt inR y
  | .cond c x y => okOperand c && (codeOk nt inR x && codeOk nt inR y)
  | .block _ b => codeOk nt inR b
  | .scope b => codeOk nt inR b
  | .loop b => codeOk nt inR b
  | .rangeFunc f ps as bd => okOperand f && psOk nt ps && codeOk nt true as && codeOk nt true bd
  | _ => false

structure DSt where
  a : CAct
  W : CW
  /-- the memory ahead of each write, the last first -/
  ws : List (Nat × CW)
  rd : List (Nat × Oper × CAct × Value)

/-- A guess at what an operand will be (it is checked where the operation stands). -/
def early (ops : Array Oper) (a : CAct) (W : CW) : Nat → Operand → Value
  | n + 1, .tmp t => match ops.toList.find? (fun o => match o.dst with | some d => Nat.beq d t | none => false) with
    | some o => cond (pureOp P o) ((cop P o (early ops a W n) W).elim undef fun l => l.head?.elim undef fun p => match p.1 with | .value v => v | _ => undef) undef
    | none => a.eval (.tmp t)
  | _, x => a.eval x

def floatEnv (ops : Array Oper) (a : CAct) (W : CW) (o : Oper) : Operand → Value :=
  match o.op with
  | .makeSlice _ _ _ => early P ops a W 6
  | _ => a.eval

/-- An allocation made ahead is what it would be where it stands. -/
def floatCk (o : Oper) (a : CAct) (v : Value) (ob : Option CObj) : Bool :=
  match o.op with
  | .makeSlice _ _ _ => match v with
    | .slice (some b) _ _ => (cop P o a.eval ⟨.nil, b.block⟩).any fun l => l.head?.any fun p => match p.1 with
      | .value u => veq 8 u v && initObj (p.2.obj b.block) ob
      | _ => false
    | _ => false
  | _ => true

def preFloat (ops : Array Oper) (a : CAct) : List Nat → CW → Option (List (Nat × Value × Option CObj) × CW)
  | [], W => some ([], W)
  | i :: is, W => match ops[i]? with
    | some o => match cop P o (floatEnv P ops a W o) W with
      | some [(.value v, W1)] => match preFloat ops a is W1 with
        | some (l, W2) => some ((i, v, W1.obj W.sz) :: l, W2)
        | none => none
      | _ => none
    | none => none

def wantedC (ops : Array Oper) (o : Oper) (a : CAct) : Option Bool :=
  match o.guard with
  | none => some true
  | some (j, want) => match cyield ops a j with
    | some b => some (b == want)
    | none => none

def drawStep (R : CRec) (ops : Array Oper) (fl : List (Nat × Value × Option CObj)) (i : Nat) (o : Oper) (s : DSt) : Option DSt :=
  match fl.find? fun p => Nat.beq p.1 i with
  | some (_, v, ob) => cond (floatCk P o s.a v ob) (some { s with a := s.a.put o.dst v }) none
  | none => match wantedC ops o s.a with
    | none => none
    | some false => some { s with a := s.a.put o.dst undef }
    | some true =>
      cond (pureOp P o) (match cop P o s.a.eval s.W with
        | some [(.value v, _)] => some { s with a := s.a.put o.dst v }
        | _ => none)
      (cond (readOp P o) (match cop P o s.a.eval s.W with
        | some [(.value v, _)] => some { s with a := s.a.put o.dst v, rd := (i, o, s.a, v) :: s.rd }
        | _ => none)
      (match cop P o s.a.eval s.W with
      | some [(.value v, W1)] => some { s with a := s.a.put o.dst v, W := W1, ws := (i, s.W) :: s.ws }
      | some [(.skip, W1)] => some { s with a := s.a.put o.dst undef, W := W1, ws := (i, s.W) :: s.ws }
      | some [(.enter f args, W1)] => match merged (R.call f args W1) with
        | some [(.returned v, W2)] => some { s with a := s.a.put o.dst v, W := W2, ws := (i, s.W) :: s.ws }
        | _ => none
      | some [(.round l args, W1)] => match merged (R.round l args W1) with
        | some [(.returned v, W2)] => some { s with a := s.a.put o.dst v, W := W2, ws := (i, s.W) :: s.ws }
        | _ => none
      | _ => none))

def drawRun (R : CRec) (ops : Array Oper) (fl : List (Nat × Value × Option CObj)) : Nat → List Oper → DSt → Option DSt
  | _, [], s => some s
  | i, o :: rest, s => match drawStep P R ops fl i o s with
    | some s => drawRun R ops fl (i + 1) rest s
    | none => none

/-- The worlds in which an operation may come up: after the writes 'done', ahead of the writes 'left' (the next first). -/
def window (ops : Array Oper) (i : Nat) (an : List Nat) (ok : CW → Bool) : List (Nat × CW) → CW → Bool
  | [], W => ok W
  | (j, Wj) :: before, W =>
    -- W is the memory after the write j
    (anc ops j i || ok W) && cond (memN an j) true (window ops i an ok before Wj)

def evDraw (R : CRec) (ops : Array Oper) (a : CAct) (W : CW) : Outs :=
  match preFloat P ops a (floats P ops) W with
  | none => none
  | some (fl, W1) => match drawRun P R ops fl 0 ops.toList ⟨a, W1, [], []⟩ with
    | none => none
    | some s =>
      cond (s.rd.all fun (i, o, a, v) => window ops i (ancs ops i) (fun W => match cop P o a.eval W with | some [(.value u, _)] => veq 8 u v | _ => false) s.ws s.W)
        (cond (fl.all fun (i, v, ob) => window ops i (ancs ops i) (fun W => match v with | .pointer (some b) => initObj (W.obj b.block) ob | .map (some b) => initObj (W.obj b) ob | .slice (some b) _ _ => initObj (W.obj b.block) ob | _ => false) s.ws s.W)
          (some [(.normal, s.a, s.W)]) none) none

def seqO (o : Outs) (f : CAct → CW → Outs) : Outs :=
  bindO o fun (e, a, W) => match e with
    | .normal => f a W
    | e => some [(e, a, W)]

def cresult (a : CAct) (W : CW) : ResultVar → Option Value
  | .tmp t => some (match a.t.get t with | some v => v | none => undef)
  | .cell s ty => match a.t.get s with
    | some (.pointer (some p)) => cload P ty p W
    | _ => none

def cresults (fn : Func) (a : CAct) (W : CW) : Option Value :=
  match fn.results.toList.mapM (cresult P a W) with
  | some [v] => some v
  | some vs => some (.tuple vs.toArray)
  | none => none

def leaves (R : CRec) (fn : Func) (a : CAct) : List Deferred → FrameMode → CW → Ends
  | [], .returning, W => match cresults P fn a W with
    | some v => some [(.returned v, W)]
    | none => none
  | [], .panicking ch, W => some [(.panicked ch, W)]
  | [], .run, _ => none
  | d :: ds, u, W => match d.target with
    | .collected r => match W.obj r with
      | some .deferred => leaves R fn a ds u (W.upd r .dead)
      | _ => none
    | .fn (.func f) cap => bindO (R.dcall f (d.args.toList ++ cap.toList) u W) fun (e, u, W) => match e with
      | .returned _ => leaves R fn a ds (settle u) W
      | _ => none
    | _ => none

def around (ro : Option Nat) (W : CW) : Option (Nat × List Deferred × CW) :=
  match ro with
  | some l => match W.obj l with
    | some (.loop _ _ _ _ _ _ _ _ d) => some (d, [], W)
    | _ => none
  | none => some (W.sz, [{ target := .collected W.sz, args := #[] }], W.new .deferred)

def stepCode (R : CRec) (ro : Option Nat) (fn : FuncId) (c : Code) (a : CAct) (W : CW) : Outs :=
  match c with
  | .skip => some [(.normal, a, W)]
  | .label _ => some [(.normal, a, W)]
  | .exit id => some [(.exit id, a, W)]
  | .ret => some [(.ret, a, W)]
  | .region _ ops false => evOps P R ops ops.toList a W
  | .region _ ops true => evDraw P R ops a W
  | .seq x y => seqO (R.code ro fn x a W) (R.code ro fn y)
  | .cond c x y => match a.eval c with
    | .bool b => R.code ro fn (cond b x y) a W
    | _ => none
  | .block id b => bindO (R.code ro fn b a W) fun (e, a, W) => match e with
    | .exit id' => cond (Nat.beq id' id) (some [(.normal, a, W)]) (some [(.exit id', a, W)])
    | e => some [(e, a, W)]
  | .scope b => R.code ro fn b a W
  | .loop b => seqO (R.code ro fn b a W) (R.code ro fn (.loop b))
  | .rangeFunc f ps assign body =>
    match around ro W with
    | none => none
    | some (dl, mark, W1) =>
      match ccall (a.eval f) [.func (.yield W1.sz) #[] #[]] with
      | some (.enter g args) => bindO (R.call g args (W1.new (.loop .ready none fn a.t a.nt ps assign body dl))) fun (e, W3) => match e with
        | .returned _ => match W3.obj W1.sz with
          | some (.loop st pend lf lt ln lp la lb ld) =>
            match st with
            | .busy => none
            | _ => match pend with
              | none => some [(.normal, { a with defers := mark ++ a.defers }, W3.upd W1.sz (.loop .exhausted pend lf lt ln lp la lb ld))]
              | some .ret => some [(.ret, { a with defers := mark ++ a.defers }, W3.upd W1.sz (.loop .exhausted pend lf lt ln lp la lb ld))]
              | some (.exit id) => some [(.exit id, { a with defers := mark ++ a.defers }, W3.upd W1.sz (.loop .exhausted pend lf lt ln lp la lb ld))]
              | _ => none
          | _ => none
        | _ => none
      | _ => none
  | _ => none

/-- The body of a deferred function, which may recover. -/
def evOpsS (R : CRec) (ops : Array Oper) : List Oper → CAct → FrameMode → CW → Option (List (Exit × CAct × FrameMode × CW))
  | [], a, u, W => some [(.normal, a, u, W)]
  | o :: rest, a, u, W =>
    match cwanted ops o a with
    | true => bindO (cop P o a.eval W) fun (n, W) => match n with
        | .value v => evOpsS R ops rest (a.put o.dst v) u W
        | .skip => evOpsS R ops rest (a.put o.dst undef) u W
        | .recover => match u with
          | .panicking ({ v, recovered := false, goexit := false } :: older) => evOpsS R ops rest (a.put o.dst v) (.panicking ({ v, recovered := true } :: older)) W
          | _ => evOpsS R ops rest (a.put o.dst .nilIface) u W
        | .panic v => some [(.panic [{ v, recovered := false }], a, u, W)]
        | _ => none
    | false => evOpsS R ops rest (a.put o.dst undef) u W

def evS (R : CRec) (fn : FuncId) : Code → CAct → FrameMode → CW → Option (List (Exit × CAct × FrameMode × CW))
  | .region _ ops false, a, u, W => evOpsS P R ops ops.toList a u W
  | .seq x y, a, u, W => bindO (evS R fn x a u W) fun (e, a, u, W) => match e with
    | .normal => evS R fn y a u W
    | e => some [(e, a, u, W)]
  | .cond c x y, a, u, W => match a.eval c with
    | .bool true => evS R fn x a u W
    | .bool false => evS R fn y a u W
    | _ => none
  | c, a, u, W => bindO (R.code none fn c a W) fun (e, a, W) => some [(e, a, u, W)]

def endR (l : Nat) (j : Option Code) (W : CW) : Ends :=
  match W.obj l with
  | some (.loop _ _ f t nt ps assign body ld) => some [(.returned (.bool j.isNone), W.upd l (.loop (match j with | none => .ready | some _ => .done) j f t nt ps assign body ld))]
  | _ => none

def begin_ (fn : Func) (args : List Value) : CAct := ⟨Tr.nil.putFrom 0 args, fn.ntmps, []⟩

def stepRec (L : List FuncId) (R : CRec) : CRec where
  code := stepCode P R
  call f args W := cond (!memN L f) none <| (fun r => cond (memN L (f + 2000000) && args.isEmpty) (some [(.returned (.bool true), W)]) r) <| (fun r => cond (memN L (f + 1000000)) (merged r) r) <|
    match P.funcs[f]? with
    | some fn => match fn.body with
      | some c => cond (Nat.ble args.length fn.ntmps) (bindO (R.code none f c (begin_ fn args) W) fun (e, a, W) =>
        match e with
        | .normal => leaves P R fn a a.defers .returning W
        | .ret => leaves P R fn a a.defers .returning W
        | .panic ch => leaves P R fn a a.defers (.panicking ch) W
        | _ => none) none
      | _ => none
    | _ => none
  dcall f args u W := cond (!memN L f) none <|
    match P.funcs[f]? with
    | some fn => match fn.body with
      | some c => cond (Nat.ble args.length fn.ntmps) (bindO (evS P R f c (begin_ fn args) u W) fun (e, a, u, W) =>
        cond a.defers.isEmpty (match e with
        | .normal => match cresults P fn a W with
          | some v => some [(.returned v, u, W)]
          | none => none
        | .ret => match cresults P fn a W with
          | some v => some [(.returned v, u, W)]
          | none => none
        | _ => none) none) none
      | _ => none
    | _ => none
  round l args W :=
    match W.obj l with
    | some (.loop .ready _ f t nt ps assign body _) =>
      cond (Nat.beq args.length ps.size) (bindO (R.code (some l) f assign ⟨(ps.toList.zip args).foldl (fun t (p : Tmp × Value) => t.set p.1 p.2) t, nt, []⟩ W) fun (e, a, W) => match e with
        | .normal => match W.obj l with
          | some (.loop .ready pend f t nt ps assign2 body2 ld) =>
            bindO (R.code (some l) f body a (W.upd l (.loop .busy pend f t nt ps assign2 body2 ld))) fun (e, _, W) => match e with
              | .normal => endR l none W
              | .ret => endR l (some .ret) W
              | .exit id => endR l (some (.exit id)) W
              | _ => none
          | _ => none
        | _ => none) none
    | _ => none

def evN (L : List FuncId) : Nat → CRec := fun n => Nat.rec CRec.none (fun _ ih => stepRec P L ih) n
def evR (L : List FuncId) : Nat → CRec
  | 0 => CRec.none
  | n + 1 => stepRec P L (evR L n)
/-- The functions that the machine may call are code that it takes. -/
def callsOk (L : List FuncId) : Bool := L.all fun f => match P.funcs[f]? with
  | some fn => match fn.body with
    | some c => codeOk P fn.ntmps false c
    | none => true
  | none => true
end

def W0 (g : Nat) : CW := ⟨.nil, g⟩

def allTrue : Ends → Bool
  | some l => l.all fun (e, _) => match e with | .returned (.bool true) => true | _ => false
  | none => false

@[noinline] def cnt (P : Program) (f : Nat) (L : List Nat := List.range 300) (g : Nat := 0) : String := match (evR P L 6000).call f [] (W0 g) with
  | some l => s!"outcomes {l.length}: " ++ String.join ((l.take 3).map fun (e, W) => s!"blocks {W.sz} {match e with | .returned (.bool b) => toString b | .panicked _ => "pan" | _ => "?"}; ")
  | none => "none"
end Go.Ce
