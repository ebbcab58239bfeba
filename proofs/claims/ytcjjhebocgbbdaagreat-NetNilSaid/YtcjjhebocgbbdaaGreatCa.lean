/- The canonical machine for closed runs: its values are the model's, its memory a tree of blocks; one operation of it, as a function. -/
import Derived.OrdersIn
import Derived.RangeFuncIn
import Derived.DefersIn
import Derived.RecoverIn
import Derived.KernelRfl
set_option linter.unusedSectionVars false
set_option linter.unusedVariables false
set_option linter.unusedSimpArgs false
namespace Go.Ce

inductive Tr (α : Type) where
  | nil
  | node (l : Tr α) (v : Option α) (r : Tr α)

def Tr.get {α : Type} : Tr α → Nat → Option α
  | .nil, _ => none
  | .node l v r, i => cond (Nat.beq i 0) v (cond (Nat.beq (i % 2) 1) (l.get (i / 2)) (r.get (i / 2 - 1)))

def Tr.setF {α : Type} : Nat → Tr α → Nat → α → Tr α
  | 0, t, _, _ => t
  | f + 1, .nil, i, x => cond (Nat.beq i 0) (.node .nil (some x) .nil) (cond (Nat.beq (i % 2) 1) (.node (Tr.setF f .nil (i / 2) x) none .nil) (.node .nil none (Tr.setF f .nil (i / 2 - 1) x)))
  | f + 1, .node l v r, i, x => cond (Nat.beq i 0) (.node l (some x) r) (cond (Nat.beq (i % 2) 1) (.node (Tr.setF f l (i / 2) x) v r) (.node l v (Tr.setF f r (i / 2 - 1) x)))

def Tr.set {α : Type} (t : Tr α) (i : Nat) (x : α) : Tr α := Tr.setF (i + 1) t i x

def Tr.putFrom {α : Type} (t : Tr α) (k : Nat) : List α → Tr α
  | [] => t
  | x :: xs => (t.set k x).putFrom (k + 1) xs

/-- What a block holds. 'cells': those that were written; all others up to n are those of a zero value, again and again. -/
inductive CObj where
  | cells (c : Tr Value) (n : Nat) (z : Array Value) (elem : TypeId)
  | map (es : List MapEntry) (clock : Nat)
  | iter (m : Option Nat) (since : Nat) (seen : List Nat) (last : Nat)
  | loop (state : LoopState) (pending : Option Code) (fn : FuncId) (tmps : Tr Value) (nt : Nat) (params : Array Tmp) (assign body : Code) (defers : Nat)
  | deferred
  | dead
  /-- cells that came in: they are looked at alone -/
  | fixed (f : Nat → Value) (n : Nat) (elem : TypeId)

/-- Objects that the machine made. -/
def CObj.mut : CObj → Bool
  | .dead => false
  | .fixed _ _ _ => false
  | _ => true

structure CW where
  h : Tr CObj
  sz : Nat

structure CAct where
  t : Tr Value
  nt : Nat
  defers : List Deferred

inductive CNext where
  | value (v : Value)
  | skip
  | enter (f : FuncId) (args : List Value)
  | round (l : Nat) (args : List Value)
  | defer (d : Deferred)
  | recover
  | panic (v : Value)

def CAct.eval (a : CAct) : Operand → Value
  | .tmp t => match a.t.get t with | some v => v | none => undef
  | .const v => v
  | .global _ => .complex .f32 0 0
  | .func f => .func (.func f) #[] #[]

def CAct.put (a : CAct) (d : Option Tmp) (v : Value) : CAct :=
  match d with
  | some d => { a with t := a.t.set d v }
  | none => a

def CW.new (W : CW) (o : CObj) : CW := ⟨W.h.set W.sz o, W.sz + 1⟩
def CW.obj (W : CW) (i : Nat) : Option CObj := W.h.get i
def CW.upd (W : CW) (i : Nat) (o : CObj) : CW := ⟨W.h.set i o, W.sz⟩

def cellAt (c : Tr Value) (z : Array Value) (k : Nat) : Value :=
  match c.get k with
  | some v => v
  | none => z.getD (k % z.size) undef

def readCells (c : Tr Value) (z : Array Value) : Nat → Nat → List Value
  | 0, _ => []
  | m + 1, k => cellAt c z k :: readCells c z m (k + 1)

/-! ### Bytes -/

def bEq : List UInt8 → List UInt8 → Bool
  | [], [] => true
  | a :: x, b :: y => Nat.beq a.toNat b.toNat && bEq x y
  | _, _ => false
def bLt : List UInt8 → List UInt8 → Bool
  | _, [] => false
  | [], _ :: _ => true
  | a :: x, b :: y => Nat.blt a.toNat b.toNat || (Nat.beq a.toNat b.toNat && bLt x y)
def sb (s : ByteArray) : List UInt8 := s.data.toList

def cstr (op : BinOp) (a b : ByteArray) : Option Value :=
  match op with
  | .add => cond (Nat.ble (a.size + b.size) 9223372036854775807) (some (.string ⟨(sb a ++ sb b).toArray⟩)) none
  | .eql => some (.bool (bEq (sb a) (sb b)))
  | .neq => some (.bool (!bEq (sb a) (sb b)))
  | .lss => some (.bool (bLt (sb a) (sb b)))
  | .leq => some (.bool (bLt (sb a) (sb b) || bEq (sb a) (sb b)))
  | .gtr => some (.bool (!(bLt (sb a) (sb b) || bEq (sb a) (sb b))))
  | .geq => some (.bool (!bLt (sb a) (sb b)))
  | _ => none

def byteCells (l : List UInt8) : List Value := l.map fun b => .int .u8 b.toNat
def cellBytes : List Value → Option (List UInt8)
  | [] => some []
  | .int .u8 n :: l => match cellBytes l with
    | some m => some (UInt8.ofNat n.toNat :: m)
    | none => none
  | _ :: _ => none

def keyEq (d : TypeDesc) (k v : Value) : Option Bool :=
  match d, k, v with
  | .string, .string a, .string b => some (bEq (sb a) (sb b))
  | d, k, v => Instr.sameNow d k v
def cfindNow (d : TypeDesc) (k : Value) : List MapEntry → Nat → Option (Option (Nat × Value))
  | [], _ => some none
  | e :: es, i => match keyEq d k e.key with
    | some true => some (some (i, e.val))
    | some false => cfindNow d k es (i + 1)
    | none => none

def readFix (f : Nat → Value) : Nat → Nat → List Value
  | 0, _ => []
  | m + 1, k => f k :: readFix f m (k + 1)

section
variable (P : Program)

def und (t : TypeId) : Option TypeDesc := P.underlying t
def siz (t : TypeId) : Option Nat := (P.info? t).map (·.size)
def zer (t : TypeId) : Option Value := cond (Nat.blt t P.types.size) ((P.info? t).bind (·.zero)) none
def agg? (t : TypeId) : Option Bool := (P.underlying t).map fun d => match d with | .struct _ | .array _ _ => true | _ => false

def optB {α β : Type} (o : Option α) (f : α → Option β) : Option β := match o with | some a => f a | none => none

/-- A value of a type out of some cells. -/
def cload (t : TypeId) (a : Addr) (W : CW) : Option Value :=
  match W.obj a.block with
  | some (.cells c n z _) =>
    match agg? P t with
    | some true => match siz P t with
      | some m => cond (Nat.ble (a.off + m) n) (some (.agg (readCells c z m a.off).toArray)) none
      | none => none
    | some false => cond (Nat.blt a.off n) (some (cellAt c z a.off)) none
    | none => none
  | some (.fixed f n _) =>
    match agg? P t with
    | some true => match siz P t with
      | some m => cond (Nat.ble (a.off + m) n) (some (.agg (readFix f m a.off).toArray)) none
      | none => none
    | some false => cond (Nat.blt a.off n) (some (f a.off)) none
    | none => none
  | _ => none

def oneCell : Value → Bool
  | .agg _ | .tuple _ => false
  | _ => true

def cstore (t : TypeId) (a : Addr) (v : Value) (W : CW) : Option CW :=
  match W.obj a.block with
  | some (.cells c n z e) =>
    match v with
    | .agg cs => match siz P t with
      | some m => cond (Nat.beq cs.size m && Nat.ble (a.off + m) n && cs.toList.all oneCell) (some (W.upd a.block (.cells (c.putFrom a.off cs.toList) n z e))) none
      | none => none
    | .tuple _ => none
    | v => match siz P t with
      | some m => cond (Nat.beq m 1 && Nat.blt a.off n) (some (W.upd a.block (.cells (c.set a.off v) n z e))) none
      | none => none
  | _ => none

def cnewVar (t : TypeId) (v : Value) (W : CW) : Value × CW :=
  (.pointer (some ⟨W.sz, 0, none⟩), W.new (.cells (Tr.nil.putFrom 0 v.cells.toList) v.cells.size #[] t))

def cint (op : BinOp) (k : IntKind) (a b : Int) : Option Value :=
  match op with
  | .add => some (.int k (k.wrap (a + b)))
  | .sub => some (.int k (k.wrap (a - b)))
  | .mul => some (.int k (k.wrap (a * b)))
  | .quo => cond (b == 0) none (some (.int k (k.wrap (a.tdiv b))))
  | .rem => cond (b == 0) none (some (.int k (a.tmod b)))
  | .eql => some (.bool (a == b))
  | .neq => some (.bool (a != b))
  | .lss => some (.bool (a < b))
  | .leq => some (.bool (a ≤ b))
  | .gtr => some (.bool (a > b))
  | .geq => some (.bool (a ≥ b))
  | .and => some (.int k (k.wrap ((BitVec.ofInt k.bits a &&& BitVec.ofInt k.bits b).toNat)))
  | .or => some (.int k (k.wrap ((BitVec.ofInt k.bits a ||| BitVec.ofInt k.bits b).toNat)))
  | .xor => some (.int k (k.wrap ((BitVec.ofInt k.bits a ^^^ BitVec.ofInt k.bits b).toNat)))
  | .andNot => some (.int k (k.wrap ((BitVec.ofInt k.bits a &&& ~~~(BitVec.ofInt k.bits b)).toNat)))
  | _ => none

/-- Equality at a type: words, and what is held against nil. -/
def ceq (d : TypeDesc) (x y : Value) : Option Bool :=
  match d, x, y with
  | .bool, .bool a, .bool b => some (a == b)
  | .pointer _, .pointer none, .pointer b => some b.isNone
  | .pointer _, .pointer (some _), .pointer none => some false
  | .interface _, .nilIface, .iface _ _ => some false
  | .interface _, .iface _ _, .nilIface => some false
  | .slice _, .slice none _ _, .slice b _ _ => some b.isNone
  | .slice _, .slice (some _) _ _, .slice none _ _ => some false
  | .map _ _, .map none, .map b => some b.isNone
  | .map _ _, .map (some _), .map none => some false
  | .func _ _ _, .nilFunc, .nilFunc => some true
  | .func _ _ _, .nilFunc, .func _ _ _ => some false
  | .func _ _ _, .func _ _ _, .nilFunc => some false
  | _, _, _ => none

def cpart (t : TypeId) (cs : Array Value) (off : Nat) : Option Value :=
  match agg? P t, siz P t with
  | some true, some m => some (.agg (cs.extract off (off + m)))
  | some false, _ => cs[off]?
  | _, _ => none

def ceqFs (eq : TypeId → Value → Value → Option Bool) (xs ys : Array Value) : List Field → Option Bool
  | [] => some true
  | f :: fs => cond (f.name == "_") (ceqFs eq xs ys fs) (match cpart P f.type xs f.offset, cpart P f.type ys f.offset with
    | some u, some v => match eq f.type u v with
      | some true => ceqFs eq xs ys fs
      | some false => some false
      | none => none
    | _, _ => none)

def ceqAs (eq : Value → Value → Option Bool) (elem : TypeId) (n : Nat) (xs ys : Array Value) : Nat → Nat → Option Bool
  | 0, _ => some true
  | m + 1, i => match cpart P elem xs (i * n), cpart P elem ys (i * n) with
    | some u, some v => match eq u v with
      | some true => ceqAs eq elem n xs ys m (i + 1)
      | some false => some false
      | none => none
    | _, _ => none

/-- Equality at a type whose values are not of one cell. -/
def ceqD : Nat → TypeId → Value → Value → Option Bool
  | 0, _, _, _ => none
  | n + 1, t, x, y => match P.underlying t with
    | none => none
    | some d => match d, x, y with
      | .struct fs, .agg xs, .agg ys => cond (P.stoodInHeld t) none (ceqFs P (ceqD n) xs ys fs.toList)
      | .array len elem, .agg xs, .agg ys => match siz P elem with
        | some s => ceqAs P (ceqD n elem) elem s xs ys len 0
        | none => none
      | .int _, .int k a, .int k' b => cond (decide (k = k')) (some (a == b)) none
      | .string, .string a, .string b => some (bEq (sb a) (sb b))
      | d, x, y => ceq d x y

def isConst : Operand → Bool
  | .const _ => true
  | _ => false

def cbin (op : BinOp) (t : TypeId) (k : Bool) (x y : Value) : Option Value :=
  match op, x, y with
  | .shl, .int k a, .int _ b => cond (decide (b < 0)) none (some (.int k (k.wrap (a * 2 ^ (min b.toNat k.bits)))))
  | .shr, .int k a, .int _ b => cond (decide (b < 0)) none (some (.int k (a.fdiv (2 ^ (min b.toNat k.bits)))))
  | op, .int k a, .int k' b => cond (decide (k = k')) (cint op k a b) none
  | op, .string a, .string b => cstr op a b
  | .eql, .agg xs, .agg ys => cond (P.eqGuardType P.depth t) none ((ceqD P 20 t (.agg xs) (.agg ys)).map .bool)
  | .neq, .agg xs, .agg ys => cond (P.eqGuardType P.depth t) none ((ceqD P 20 t (.agg xs) (.agg ys)).map fun b => .bool (!b))
  | .eql, .nilIface, .nilIface => match P.underlying t with | some (.interface _) => cond k (some (.bool true)) none | _ => none
  | .neq, .nilIface, .nilIface => match P.underlying t with | some (.interface _) => cond k (some (.bool false)) none | _ => none
  | .eql, x, y => match P.underlying t with | some d => (ceq d x y).map .bool | none => none
  | .neq, x, y => match P.underlying t with | some d => (ceq d x y).map fun b => .bool (!b) | none => none
  | _, _, _ => none

def bound (x : Option Value) (dflt y : Nat) : Option Nat :=
  match x with
  | some (.int _ i) => cond (decide (0 ≤ i) && decide (i ≤ y)) (some i.toNat) none
  | some _ => none
  | none => some dflt

/-- The block of a slice is one of its elements (asked where a capacity is handed on). -/
def elemOk (W : CW) (a : Option Addr) (elem : TypeId) : Bool :=
  match a with
  | none => true
  | some a => a.spot.isSome || match W.obj a.block with
    | some (.cells _ _ _ e) => Nat.beq e elem
    | some (.fixed _ _ e) => Nat.beq e elem
    | _ => false

def cslice (W : CW) (t : TypeId) (x : Value) (lo hi mx : Option Value) : Option Value :=
  match P.underlying t, x with
  | some (.slice elem), .slice a len cap => optB (bound mx cap cap) fun m => optB (bound hi len m) fun h => optB (bound lo 0 h) fun l =>
      cond (mx.isSome && hi.isNone || !Nat.ble h m || !(mx.isSome || elemOk W a elem)) none (optB (siz P elem) fun s =>
      some (.slice (cond (Nat.beq m l) a (a.map fun a => ⟨a.block, a.off + l * s, none⟩)) (h - l) (m - l)))
  | some (.array n elem), .pointer (some a) => optB (bound mx n n) fun m => optB (bound hi n m) fun h => optB (bound lo 0 h) fun l =>
      cond (mx.isSome && hi.isNone || !Nat.ble h m) none (optB (siz P elem) fun s =>
      some (.slice (some (cond (Nat.beq m l) a ⟨a.block, a.off + l * s, none⟩)) (h - l) (m - l)))
  | _, _ => none

/-- The types of keys that the machine takes. -/
def simpleKey : TypeDesc → Bool
  | .int _ | .string | .bool => true
  | _ => false

def modAt (v k : Value) : Nat → List MapEntry → List MapEntry
  | _, [] => []
  | 0, e :: es => { e with key := k, val := v } :: es
  | i + 1, e :: es => e :: modAt v k i es

def dropAt : Nat → List MapEntry → List MapEntry
  | _, [] => []
  | 0, _ :: es => es
  | i + 1, e :: es => e :: dropAt i es

def simpleCell : Value → Value → Bool
  | .int j a, .int k b => decide (j = k) && decide (a = b)
  | .string a, .string b => bEq (sb a) (sb b)
  | .bool a, .bool b => a == b
  | _, _ => false
def allCells : List Value → List Value → Bool
  | [], [] => true
  | x :: xs, y :: ys => simpleCell x y && allCells xs ys
  | _, _ => false
/-- Keys of flat structs are the same, bit by bit. -/
def keyBits : Value → Value → Bool
  | .agg xs, .agg ys => allCells xs.toList ys.toList
  | _, _ => false
def flatKey (t : TypeId) (k : Value) : Bool :=
  match P.underlying t, k with
  | some (.struct fs), .agg cs => !(P.stoodInHeld t) && fs.toList.all fun f => !(f.name == "_") && (match P.underlying f.type with | some d => simpleKey d | none => false) && (cpart P f.type cs f.offset).isSome
  | _, _ => false
def sfind (t : TypeId) (k : Value) : List MapEntry → Nat → Option (Option (Nat × Value))
  | [], _ => some none
  | e :: es, i => match ceqD P 20 t k e.key with
    | some true => cond (keyBits k e.key) (some (some (i, e.val))) none
    | some false => sfind t k es (i + 1)
    | none => none

/-- The entry of a key, if the machine can tell. -/
def cfind (t : TypeId) (k : Value) (es : List MapEntry) : Option (Option (Nat × Value)) :=
  match P.underlying t with
  | some d => cond (simpleKey d) (cfindNow d k es 0) (cond (flatKey P t k) (sfind P t k es 0) none)
  | none => none

/-- The first cells of a slice. -/
def firstN (b : Option Addr) (m : Nat) (W : CW) : Option (List Value) :=
  match b with
  | none => some []
  | some b => cond (Nat.beq m 0) (some []) <| match W.obj b.block with
    | some (.cells c k z _) => cond (Nat.ble (b.off + m) k) (some (readCells c z m b.off)) none
    | some (.fixed f k _) => cond (Nat.ble (b.off + m) k) (some (readFix f m b.off)) none
    | _ => none

/-- The cells of what is appended or copied: a slice or a string; how many elements it has. -/
def srcN (x : Value) : Option Nat :=
  match x with
  | .slice _ n _ => some n
  | .string s => some s.size
  | _ => none
def srcCells (x : Value) (n size : Nat) (W : CW) : Option (List Value) :=
  match x with
  | .slice xb _ _ => firstN xb (n * size) W
  | .string s => cond (Nat.beq size 1) (some (byteCells ((sb s).take n))) none
  | _ => none

def cappend (t : TypeId) (s x : Value) (W : CW) : Option (Value × CW) :=
  match P.underlying t, s, srcN x with
  | some (.slice elem), .slice base sLen sCap, some n =>
    optB (siz P elem) fun size => optB (zer P elem) fun z => optB (srcCells x n size W) fun news =>
    cond (news.all oneCell && Nat.beq news.length (n * size) && Nat.blt 0 size && Nat.beq z.cells.size size && Nat.ble (sLen + n) 1000000 && Nat.ble ((P.info? elem).map (·.bytes) |>.getD 2000) 1024)
      (cond (Nat.ble (sLen + n) sCap)
        (cond (Nat.beq n 0) (some (.slice base (sLen + n) sCap, W)) (match base with
          | none => some (.slice none (sLen + n) sCap, W)
          | some a => match W.obj a.block with
            | some (.cells c m z e) => cond (Nat.ble (a.off + sLen * size + n * size) m)
                (some (.slice (some a) (sLen + n) sCap, W.upd a.block (.cells (c.putFrom (a.off + sLen * size) news) m z e))) none
            | _ => none))
        (match base with
          | none => cond (Nat.beq sLen 0) (some (.slice (some ⟨W.sz, 0, none⟩) (sLen + n) (sLen + n), W.new (.cells (Tr.nil.putFrom 0 news) ((sLen + n) * size) #[] elem))) none
          | some a => cond a.spot.isSome (cond (Nat.beq sLen 0 && Nat.beq sCap 0) (some (.slice (some ⟨W.sz, 0, none⟩) (sLen + n) (sLen + n), W.new (.cells (Tr.nil.putFrom 0 news) ((sLen + n) * size) #[] elem))) none) (match W.obj a.block with
            | some (.cells c m z e) => cond (Nat.ble (a.off + sLen * size) m && Nat.beq e elem)
                (some (.slice (some ⟨W.sz, 0, none⟩) (sLen + n) (sLen + n), (W.upd a.block .dead).new (.cells (Tr.nil.putFrom 0 (readCells c z (sLen * size) a.off ++ news)) ((sLen + n) * size) #[] elem))) none
            | _ => none)))
      none
  | _, _, _ => none

def ccopy (t : TypeId) (d s : Value) (W : CW) : Option (Value × CW) :=
  match P.underlying t, d, srcN s with
  | some (.slice elem), .slice base dLen _, some sLen =>
    optB (siz P elem) fun size => optB (srcCells s (Nat.min sLen dLen) size W) fun news =>
    cond (Nat.beq (Nat.min sLen dLen) 0) (some (.int .i64 (Nat.min sLen dLen), W)) (match base with
    | none => none
    | some a => match W.obj a.block with
      | some (.cells c m z e) => cond (news.all oneCell && Nat.ble (a.off + news.length) m) (some (.int .i64 (Nat.min sLen dLen), W.upd a.block (.cells (c.putFrom a.off news) m z e))) none
      | _ => none)
  | _, _, _ => none

def cclear (t : TypeId) (x : Value) (W : CW) : Option CW :=
  match P.underlying t, x with
  | some (.map _ _), .map (some r) => match W.obj r with
    | some (.map _ clk) => some (W.upd r (.map [] clk))
    | _ => none
  | some (.map _ _), .map none => some W
  | some (.slice elem), .slice (some a) n _ => optB (siz P elem) fun size => optB (zer P elem) fun z0 =>
    cond (Nat.beq n 0) (some W) (match W.obj a.block with
    | some (.cells c m z e) => cond (Nat.ble (a.off + n * z0.cells.size) m && z0.cells.toList.all oneCell)
        (some (W.upd a.block (.cells (c.putFrom a.off (readCells .nil z0.cells (n * z0.cells.size) 0)) m z e))) none
    | _ => none)
  | some (.slice _), .slice none _ _ => some W
  | _, _ => none

def clen (t : TypeId) (x : Value) (W : CW) : Option Value :=
  match P.underlying t, x with
  | some .string, .string s => some (.int .i64 s.size)
  | some (.slice _), .slice _ n _ => some (.int .i64 n)
  | some (.map _ _), .map none => some (.int .i64 0)
  | some (.map _ _), .map (some r) => match W.obj r with
    | some (.map es _) => some (.int .i64 es.length)
    | _ => none
  | _, _ => none

def cdelete (t : TypeId) (m k : Value) (W : CW) : Option CW :=
  match P.underlying t, m with
  | some (.map kt _), .map (some r) => match W.obj r with
    | some (.map es clk) => optB (cfind P kt k es) fun f => match f with
      | some (i, _) => some (W.upd r (.map (dropAt i es) clk))
      | none => some (W.upd r (.map es clk))
    | _ => none
  | _, _ => none

/-- The second argument of 'append' is no number. -/
def noInt (t : TypeId) : Bool :=
  match P.underlying t with
  | some (.int _) => false
  | some _ => true
  | none => false

/-- The capacity, where the block ends with the slice's. -/
def ccap (t : TypeId) (x : Value) (W : CW) : Option Value :=
  match P.underlying t, x with
  | some (.slice _), .slice none _ c => some (.int .i64 c)
  | some (.slice _), .slice (some a) _ c => match W.obj a.block with
    | some (.cells _ _ z _) => cond (Nat.beq z.size 0 || Nat.beq c 0) none (some (.int .i64 c))
    | _ => none
  | _, _ => none

def cbuiltin (b : Builtin) (ts : List TypeId) (args : List Value) (W : CW) : Option (CNext × CW) :=
  match b, ts, args with
  | .len, t :: _, [x] => (clen P t x W).map fun v => (.value v, W)
  | .cap, t :: _, [x] => (ccap P t x W).map fun v => (.value v, W)
  | .append, t :: u :: _, [s, x] => cond (noInt P u) ((cappend P t s x W).map fun (v, W) => (.value v, W)) none
  | .copy, t :: _, [d, s] => (ccopy P t d s W).map fun (v, W) => (.value v, W)
  | .clear, t :: _, [x] => (cclear P t x W).map fun W => (.value (.tuple #[]), W)
  | .delete, t :: _, [m, k] => (cdelete P t m k W).map fun W => (.value (.tuple #[]), W)
  | .max, _, [.int k a, .int _ b] => some (.value (.int k (cond (decide (b > a)) b a)), W)
  | .min, _, [.int k a, .int _ b] => some (.value (.int k (cond (decide (b < a)) b a)), W)
  | .recover, _, [] => some (.recover, W)
  | _, _, _ => none

def cstb (elem : TypeId) (s : ByteArray) (W : CW) : Option (Value × CW) :=
  match P.underlying elem, siz P elem with
  | some (.int .u8), some 1 => some (.slice (some ⟨W.sz, 0, none⟩) s.size s.size, W.new (.cells (Tr.nil.putFrom 0 (byteCells (sb s))) s.size #[] elem))
  | _, _ => none
def cbts (elem : TypeId) (x : Value) (W : CW) : Option Value :=
  match P.underlying elem, x with
  | some (.int .u8), .slice b n _ => optB (firstN b n W) fun l => optB (cellBytes l) fun m => some (.string ⟨m.toArray⟩)
  | _, _ => none

/-- What a call leads to. -/
def ccall (d : Value) (args : List Value) : Option CNext :=
  match d with
  | .func (.func f) first cap => some (.enter f (first.toList ++ args ++ cap.toList))
  | .func (.yield l) first _ => some (.round l (first.toList ++ args))
  | _ => none

/-- Functions without a body that the machine takes. -/
def cextern (f : FuncId) (args : List Value) (W : CW) : Option (Value × CW) :=
  match P.funcs[f]? with
  | some fn => cond fn.body.isNone (cond (fn.name == "maps.clone") (match args with
    | [.iface t (.map (some r))] => match W.obj r with
      | some (.map es clk) => some (.iface t (.map (some W.sz)), W.new (.map es clk))
      | _ => none
    | _ => none) none) none
  | none => none

/-- The choices that there are for the next entry of a map. -/
def cands (es : List MapEntry) (since : Nat) (seen : List Nat) : List (Option MapEntry) :=
  let left := es.filter fun e => !seen.contains e.born
  let old := left.filter fun e => e.born < since
  let new := left.filter fun e => !(e.born < since)
  (cond old.isEmpty [none] []) ++ (old ++ new).map some

/-- One operation: all that it can come to. -/
def cop (o : Oper) (e : Operand → Value) (W : CW) : Option (List (CNext × CW)) :=
  let v (x : Option Value) : Option (List (CNext × CW)) := match x with | some v => some [(.value v, W)] | none => none
  let vw (x : Option (Value × CW)) : Option (List (CNext × CW)) := match x with | some (v, W) => some [(.value v, W)] | none => none
  let sw (x : Option CW) : Option (List (CNext × CW)) := match x with | some W => some [(.skip, W)] | none => none
  match o.op with
  | .move x | .assign x => some [(.value (e x), W)]
  | .pick c a b => match e c with | .bool b0 => some [(.value (cond b0 (e a) (e b)), W)] | _ => none
  | .alloc t => match zer P t with
    | some z => match siz P t with
      | some _ => some [(.value (.pointer (some ⟨W.sz, 0, none⟩)), W.new (.cells .nil z.cells.size z.cells t))]
      | none => none
    | none => none
  | .box t x => match siz P t with
    | some _ => some [(.value (cnewVar t (e x) W).1, (cnewVar t (e x) W).2)]
    | none => none
  | .build t parts => v (match zer P t, P.underlying t with
    | some z, some (.struct fields) => match fields.toList.mapM fun f => (siz P f.type).map fun s => (f.offset, s) with
      | some places => (Instr.fill (places[·]?) z.cells (parts.toList.map fun (i, x) => (i, e x))).map .agg
      | none => none
    | some z, some (.array _ elem) => match siz P elem with
      | some s => (Instr.fill (fun i => some (i * s, s)) z.cells (parts.toList.map fun (i, x) => (i, e x))).map .agg
      | none => none
    | _, _ => none)
  | .buildSlice t len parts => vw (match P.underlying t with
    | some (.slice elem) => optB (siz P elem) fun s => optB (zer P elem) fun z =>
      cond (Nat.ble (len * s) 65536 && Nat.beq z.cells.size s) (match Instr.fill (fun i => some (i * s, s)) ((readCells .nil z.cells (len * s) 0).toArray) (parts.toList.map fun (i, x) => (i, e x)) with
        | some cs => some (.slice (some ⟨W.sz, 0, none⟩) len len, W.new (.cells (Tr.nil.putFrom 0 cs.toList) cs.size #[] elem))
        | none => none) none
    | _ => none)
  | .load t a => v (match e a with | .pointer (some a) => cload P t a W | _ => none)
  | .store t a x => sw (match e a with | .pointer (some a) => cstore P t a (e x) W | _ => none)
  | .nilCheck x => v (match e x with
    | .pointer (some a) => some (.pointer (some a))
    | .iface t v => some (.iface t v)
    | .func (.func f) a b => some (.func (.func f) a b)
    | .func (.yield f) a b => some (.func (.yield f) a b)
    | _ => none)
  | .binOp op t x y _ => v (cbin P op t (isConst x || isConst y) (e x) (e y))
  | .unOp .not _ x => v (match e x with | .bool b => some (.bool (!b)) | _ => none)
  | .unOp .neg _ x => v (match e x with | .int k n => some (.int k (k.wrap (0 - n))) | _ => none)
  | .convert src dst x => match P.underlying src, P.underlying dst, e x with
    | some _, some (.int k), .int _ n => some [(.value (.int k (k.wrap n)), W)]
    | some _, some .string, .string s => some [(.value (.string s), W)]
    | some .string, some (.slice el), .string s => vw (cstb P el s W)
    | some (.slice el), some .string, x => v (cbts P el x W)
    | _, _, _ => none
  | .makeInterface t x => v (match P.underlying t with | some (.interface _) | none => none | _ => some (.iface t (e x)))
  | .makeFunc fn first cap => v (some (.func fn (first.map e) (cap.map e)))
  | .makeMap _ none => some [(.value (.map (some W.sz)), W.new (.map [] 0))]
  | .makeSlice t l c => vw (match P.underlying t, e l, e c with
    | some (.slice elem), .int _ l, .int _ c => optB (siz P elem) fun s => optB (zer P elem) fun z =>
      cond (decide (0 ≤ l) && decide (l ≤ c) && decide (c ≤ 2000000) && Nat.ble ((P.info? elem).map (·.bytes) |>.getD 0) 1024 && Nat.beq z.cells.size s && Nat.blt 0 s)
        (some (.slice (some ⟨W.sz, 0, none⟩) l.toNat c.toNat, W.new (.cells .nil (c.toNat * s) z.cells elem))) none
    | _, _, _ => none)
  | .slice t x lo hi mx => v (match P.underlying t, e x with
    | some .string, .string s => optB (bound (hi.map e) s.size s.size) fun h => optB (bound (lo.map e) 0 h) fun l => cond mx.isSome none (some (.string (s.extract l h)))
    | _, x => cslice P W t x (lo.map e) (hi.map e) (mx.map e))
  | .fieldAddr s x f => v (match P.underlying s, e x with
    | some (.struct fs), .pointer (some a) => match fs[f]? with
      | some fd => match siz P fd.type with
        | some m => cond (Nat.beq m 0) none (some (.pointer (some ⟨a.block, a.off + fd.offset, none⟩)))
        | none => none
      | none => none
    | _, _ => none)
  | .field t x f => v (match P.underlying t, e x with
    | some (.struct fs), .agg cs => match fs[f]? with
      | some fd => match agg? P fd.type, siz P fd.type with
        | some true, some m => some (.agg (cs.extract fd.offset (fd.offset + m)))
        | some false, _ => cs[fd.offset]?
        | _, _ => none
      | none => none
    | _, _ => none)
  | .indexAddr t x ix => v (match e ix with
    | .int _ i => match P.underlying t, e x with
      | some (.array len elem), .pointer (some a) => optB (siz P elem) fun s => cond (decide (0 ≤ i) && decide (i < len)) (some (.pointer (some ⟨a.block, a.off + i.toNat * s, none⟩))) none
      | some (.slice elem), .slice (some a) len _ => optB (siz P elem) fun s => cond (decide (0 ≤ i) && decide (i < len)) (some (.pointer (some ⟨a.block, a.off + i.toNat * s, none⟩))) none
      | _, _ => none
    | _ => none)
  | .index t x ix => v (match e ix with
    | .int _ i => match P.underlying t, e x with
      | some (.array len elem), .agg cs => cond (decide (0 ≤ i) && decide (i < len)) (match agg? P elem, siz P elem with
        | some true, some m => some (.agg (cs.extract (i.toNat * m) (i.toNat * m + m)))
        | some false, some m => cs[i.toNat * m]?
        | _, _ => none) none
      | some .string, .string s => cond (decide (0 ≤ i)) ((s[i.toNat]?).map fun b => .int .u8 b.toNat) none
      | _, _ => none
    | _ => none)
  | .lookup t x k ok => v (match P.underlying t, e x with
    | some (.map kt elem), m => optB (zer P elem) fun z => optB (match m with
        | .map none => some []
        | .map (some r) => match W.obj r with | some (.map es _) => some es | _ => none
        | _ => none) fun es => optB (cfind P kt (e k) es) fun r => match r with
          | some (_, x) => some (cond ok (.tuple #[x, .bool true]) x)
          | none => some (cond ok (.tuple #[z, .bool false]) z)
    | _, _ => none)
  | .mapUpdate t m k x | .insert t m k x => sw (match P.underlying t, e m with
    | some (.map kt _), .map (some r) => match W.obj r with
      | some (.map es clk) => optB (cfind P kt (e k) es) fun f => match f with
        | some (i, _) => some (W.upd r (.map (modAt (e x) (e k) i es) clk))
        | none => some (W.upd r (.map (es ++ [{ key := e k, val := e x, born := clk }]) (clk + 1)))
      | _ => none
    | _, _ => none)
  | .range t x => vw (match P.underlying t, e x with
    | some (.map _ _), .map none => some (.pointer (some ⟨W.sz, 0, none⟩), W.new (.iter none 0 [] 0))
    | some (.map _ _), .map (some r) => match W.obj r with
      | some (.map _ clk) => some (.pointer (some ⟨W.sz, 0, none⟩), W.new (.iter (some r) clk [] clk))
      | _ => none
    | _, _ => none)
  | .next it false => match e it with
    | .pointer (some a) => cond (!Nat.beq a.off 0) none <| match W.obj a.block with
      | some (.iter none _ _ _) => some [(.value (.tuple #[.bool false]), W)]
      | some (.iter (some r) since seen last) => match W.obj r with
        | some (.map es clk) =>
          cond (!seen.isEmpty && !es.isEmpty && es.all fun e => !(e.born < last)) none
            (some ((cands es since seen).map fun c => match c with
              | some en => (.value (.tuple #[.bool true, en.key, en.val]), W.upd a.block (.iter (some r) since (seen ++ [en.born]) clk))
              | none => (.value (.tuple #[.bool false]), W)))
        | _ => none
      | _ => none
    | _ => none
  | .entry it => v (match e it with
    | .pointer (some a) => cond (!Nat.beq a.off 0) none <| match W.obj a.block with
      | some (.iter (some r) _ seen stepped) => match seen.getLast?, W.obj r with
        | some st, some (.map es clk) => cond (Nat.beq clk stepped) ((es.find? fun e => Nat.beq e.born st).map fun e => .tuple #[e.key, e.val]) none
        | _, _ => none
      | _ => none
    | _ => none)
  | .typeAssert x _ t ok => v (match P.underlying t, e x with
    | some (.interface _), _ => none
    | some _, .iface u y => cond (Nat.beq t u) (some (cond ok (.tuple #[y, .bool true]) y)) (cond ok ((zer P t).map fun z => .tuple #[z, .bool false]) none)
    | _, _ => none)
  | .extract x i => v (match e x with | .tuple vs => vs[i]? | _ => none)
  | .call c => match c.callee with
    | .value f => match ccall (e f) (c.args.toList.map e) with
      | some (.enter g as) => match cextern P g as W with
        | some (v, W1) => some [(.value v, W1)]
        | none => some [(.enter g as, W)]
      | some n => some [(n, W)]
      | none => none
    | .builtin b => match cbuiltin P b c.argTypes.toList (c.args.toList.map e) W with | some r => some [r] | none => none
    | _ => none
  | .defer c => match c.callee with
    | .value f => match e f with
      | .func (.func g) first cap => some [(.defer { target := .fn (.func g) cap, args := first ++ c.args.map e }, W)]
      | _ => none
    | _ => none
  | .panic x => match e x with | .iface t y => some [(.panic (.iface t y), W)] | _ => none
  | _ => none
end
end Go.Ce
