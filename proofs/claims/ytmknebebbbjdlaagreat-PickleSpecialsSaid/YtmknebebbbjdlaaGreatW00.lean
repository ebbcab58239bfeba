/- A part of the proof: Ca, Cb, Cc, Cd, Ce, Cf, Cg, Ch, Ci, Cj, Ck, Cl, Cm, Cn. -/
import Derived.OrdersIn
import Derived.RangeFuncIn
import Derived.DefersIn
import Derived.RecoverIn
import Derived.KernelRfl
import Derived.Below
import Derived.Laws.StructEq
import Derived.Laws.Concat
import Derived.MapKept
import Derived.Laws.BytesArg
import Derived.Laws.IdiomStrings
set_option linter.unusedSectionVars false
set_option linter.unusedVariables false
set_option linter.unusedSimpArgs false
set_option maxRecDepth 200000
namespace Go.Ce
inductive Tr (α:Type) where
 | nil
 | node (l:Tr α) (v:Option α) (r:Tr α)
def Tr.get {α:Type}:Tr α→Nat→Option α
 | .nil,_=>none
 | .node l v r,i=>cond (Nat.beq i 0) v (cond (Nat.beq (i % 2) 1) (l.get (i / 2)) (r.get (i / 2-1)))
def Tr.setF {α:Type}:Nat→Tr α→Nat→α→Tr α
 | 0,t,_,_=>t
 | f+1,.nil,i,x=>cond (Nat.beq i 0) (.node .nil (some x) .nil) (cond (Nat.beq (i % 2) 1) (.node (Tr.setF f .nil (i / 2) x) none .nil) (.node .nil none (Tr.setF f .nil (i / 2-1) x)))
 | f+1,.node l v r,i,x=>cond (Nat.beq i 0) (.node l (some x) r) (cond (Nat.beq (i % 2) 1) (.node (Tr.setF f l (i / 2) x) v r) (.node l v (Tr.setF f r (i / 2-1) x)))
def Tr.set {α:Type} (t:Tr α) (i:Nat) (x:α):Tr α:=Tr.setF (i+1) t i x
def Tr.putFrom {α:Type} (t:Tr α) (k:Nat):List α→Tr α
 | []=>t
 | x::xs=>(t.set k x).putFrom (k+1) xs
inductive CObj where
 | cells (c:Tr Value) (n:Nat) (z:Array Value) (elem:TypeId)
 | map (es:List MapEntry) (clock:Nat)
 | iter (m:Option Nat) (since:Nat) (seen:List Nat) (last:Nat)
 | loop (state:LoopState) (pending:Option Code) (fn:FuncId) (tmps:Tr Value) (nt:Nat) (params:Array Tmp) (assign body:Code) (defers:Nat)
 | deferred
 | dead
 | fixed (f:Nat→Value) (n:Nat) (elem:TypeId)
def CObj.mut:CObj→Bool
 | .dead=>false
 | .fixed _ _ _=>false
 | _=>true
structure CW where
 h:Tr CObj
 sz:Nat
structure CAct where
 t:Tr Value
 nt:Nat
 defers:List Deferred
inductive CNext where
 | value (v:Value)
 | skip
 | enter (f:FuncId) (args:List Value)
 | round (l:Nat) (args:List Value)
 | defer (d:Deferred)
 | recover
 | panic (v:Value)
def CAct.eval (a:CAct):Operand→Value
 | .tmp t=>match a.t.get t with | some v=>v | none=>undef
 | .const v=>v
 | .global _=>.complex .f32 0 0
 | .func f=>.func (.func f) #[] #[]
def CAct.put (a:CAct) (d:Option Tmp) (v:Value):CAct :=
 match d with
 | some d=>{ a with t:=a.t.set d v }
 | none=>a
def CW.new (W:CW) (o:CObj):CW:=⟨W.h.set W.sz o,W.sz+1⟩
def CW.obj (W:CW) (i:Nat):Option CObj:=W.h.get i
def CW.upd (W:CW) (i:Nat) (o:CObj):CW:=⟨W.h.set i o,W.sz⟩
def zBh (c:Tr Value) (z:Array Value) (k:Nat):Value :=
 match c.get k with
 | some v=>v
 | none=>z.getD (k % z.size) undef
def zAh (c:Tr Value) (z:Array Value):Nat→Nat→List Value
 | 0,_=>[]
 | m+1,k=>zBh c z k::zAh c z m (k+1)
def bEq:List UInt8→List UInt8→Bool
 | [],[]=>true
 | a::x,b::y=>Nat.beq a.toNat b.toNat && bEq x y
 | _,_=>false
def bLt:List UInt8→List UInt8→Bool
 | _,[]=>false
 | [],_::_=>true
 | a::x,b::y=>Nat.blt a.toNat b.toNat || (Nat.beq a.toNat b.toNat && bLt x y)
def sb (s:ByteArray):List UInt8:=s.data.toList
def zX8 (op:BinOp) (a b:ByteArray):Option Value :=
 match op with
 | .add=>cond (Nat.ble (a.size+b.size) 9223372036854775807) (some (.string ⟨(sb a++sb b).toArray⟩)) none
 | .eql=>some (.bool (bEq (sb a) (sb b)))
 | .neq=>some (.bool (!bEq (sb a) (sb b)))
 | .lss=>some (.bool (bLt (sb a) (sb b)))
 | .leq=>some (.bool (bLt (sb a) (sb b) || bEq (sb a) (sb b)))
 | .gtr=>some (.bool (!(bLt (sb a) (sb b) || bEq (sb a) (sb b))))
 | .geq=>some (.bool (!bLt (sb a) (sb b)))
 | _=>none
def zBM (l:List UInt8):List Value:=l.map fun b=>.int .u8 b.toNat
def zDt:List Value→Option (List UInt8)
 | []=>some []
 | .int .u8 n::l=>match zDt l with
  | some m=>some (UInt8.ofNat n.toNat::m)
  | none=>none
 | _::_=>none
def zIw (d:TypeDesc) (k v:Value):Option Bool :=
 match d,k,v with
 | .string,.string a,.string b=>some (bEq (sb a) (sb b))
 | d,k,v=>Instr.sameNow d k v
def zFK (d:TypeDesc) (k:Value):List MapEntry→Nat→Option (Option (Nat × Value))
 | [],_=>some none
 | e::es,i=>match zIw d k e.key with
  | some true=>some (some (i,e.val))
  | some false=>zFK d k es (i+1)
  | none=>none
def zCG (f:Nat→Value):Nat→Nat→List Value
 | 0,_=>[]
 | m+1,k=>f k::zCG f m (k+1)
section
variable (P:Program)
def siz (t:TypeId):Option Nat:=(P.info? t).map (·.size)
def zer (t:TypeId):Option Value:=cond (Nat.blt t P.types.size) ((P.info? t).bind (·.zero)) none
def agg? (t:TypeId):Option Bool:=(P.underlying t).map fun d=>match d with | .struct _ | .array _ _=>true | _=>false
def zCc {α β:Type} (o:Option α) (f:α→Option β):Option β:=match o with | some a=>f a | none=>none
def zHY (t:TypeId) (a:Addr) (W:CW):Option Value :=
 match W.obj a.block with
 | some (.cells c n z _) =>
  match agg? P t with
  | some true=>match siz P t with
   | some m=>cond (Nat.ble (a.off+m) n) (some (.agg (zAh c z m a.off).toArray)) none
   | none=>none
  | some false=>cond (Nat.blt a.off n) (some (zBh c z a.off)) none
  | none=>none
 | some (.fixed f n _) =>
  match agg? P t with
  | some true=>match siz P t with
   | some m=>cond (Nat.ble (a.off+m) n) (some (.agg (zCG f m a.off).toArray)) none
   | none=>none
  | some false=>cond (Nat.blt a.off n) (some (f a.off)) none
  | none=>none
 | _=>none
def zAg:Value→Bool
 | .agg _ | .tuple _=>false
 | _=>true
def zFW (t:TypeId) (a:Addr) (v:Value) (W:CW):Option CW :=
 match W.obj a.block with
 | some (.cells c n z e) =>
  match v with
  | .agg cs=>match siz P t with
   | some m=>cond (Nat.beq cs.size m && Nat.ble (a.off+m) n && cs.toList.all zAg) (some (W.upd a.block (.cells (c.putFrom a.off cs.toList) n z e))) none
   | none=>none
  | .tuple _=>none
  | v=>match siz P t with
   | some m=>cond (Nat.beq m 1 && Nat.blt a.off n) (some (W.upd a.block (.cells (c.set a.off v) n z e))) none
   | none=>none
 | _=>none
def zKg (t:TypeId) (v:Value) (W:CW):Value × CW :=
 (.pointer (some ⟨W.sz,0,none⟩),W.new (.cells (Tr.nil.putFrom 0 v.cells.toList) v.cells.size #[] t))
def zOV (op:BinOp) (k:IntKind) (a b:Int):Option Value :=
 match op with
 | .add=>some (.int k (k.wrap (a+b)))
 | .sub=>some (.int k (k.wrap (a-b)))
 | .mul=>some (.int k (k.wrap (a*b)))
 | .quo=>cond (b == 0) none (some (.int k (k.wrap (a.tdiv b))))
 | .rem=>cond (b == 0) none (some (.int k (a.tmod b)))
 | .eql=>some (.bool (a == b))
 | .neq=>some (.bool (a != b))
 | .lss=>some (.bool (a<b))
 | .leq=>some (.bool (a≤b))
 | .gtr=>some (.bool (a>b))
 | .geq=>some (.bool (a≥b))
 | .and=>some (.int k (k.wrap ((BitVec.ofInt k.bits a &&& BitVec.ofInt k.bits b).toNat)))
 | .or=>some (.int k (k.wrap ((BitVec.ofInt k.bits a ||| BitVec.ofInt k.bits b).toNat)))
 | .xor=>some (.int k (k.wrap ((BitVec.ofInt k.bits a ^^^ BitVec.ofInt k.bits b).toNat)))
 | .andNot=>some (.int k (k.wrap ((BitVec.ofInt k.bits a &&& ~~~(BitVec.ofInt k.bits b)).toNat)))
 | _=>none
def ceq (d:TypeDesc) (x y:Value):Option Bool :=
 match d,x,y with
 | .bool,.bool a,.bool b=>some (a == b)
 | .pointer _,.pointer none,.pointer b=>some b.isNone
 | .pointer _,.pointer (some _),.pointer none=>some false
 | .interface _,.nilIface,.iface _ _=>some false
 | .interface _,.iface _ _,.nilIface=>some false
 | .slice _,.slice none _ _,.slice b _ _=>some b.isNone
 | .slice _,.slice (some _) _ _,.slice none _ _=>some false
 | .map _ _,.map none,.map b=>some b.isNone
 | .map _ _,.map (some _),.map none=>some false
 | .func _ _ _,.nilFunc,.nilFunc=>some true
 | .func _ _ _,.nilFunc,.func _ _ _=>some false
 | .func _ _ _,.func _ _ _,.nilFunc=>some false
 | _,_,_=>none
def zL7 (t:TypeId) (cs:Array Value) (off:Nat):Option Value :=
 match agg? P t,siz P t with
 | some true,some m=>some (.agg (cs.extract off (off+m)))
 | some false,_=>cs[off]?
 | _,_=>none
def zRe (eq:TypeId→Value→Value→Option Bool) (xs ys:Array Value):List Field→Option Bool
 | []=>some true
 | f::fs=>cond (f.name == "_") (zRe eq xs ys fs) (match zL7 P f.type xs f.offset,zL7 P f.type ys f.offset with
  | some u,some v=>match eq f.type u v with
   | some true=>zRe eq xs ys fs
   | some false=>some false
   | none=>none
  | _,_=>none)
def zTK (eq:Value→Value→Option Bool) (elem:TypeId) (n:Nat) (xs ys:Array Value):Nat→Nat→Option Bool
 | 0,_=>some true
 | m+1,i=>match zL7 P elem xs (i*n),zL7 P elem ys (i*n) with
  | some u,some v=>match eq u v with
   | some true=>zTK eq elem n xs ys m (i+1)
   | some false=>some false
   | none=>none
  | _,_=>none
def zTq:Nat→TypeId→Value→Value→Option Bool
 | 0,_,_,_=>none
 | n+1,t,x,y=>match P.underlying t with
  | none=>none
  | some d=>match d,x,y with
   | .struct fs,.agg xs,.agg ys=>cond (P.stoodInHeld t) none (zRe P (zTq n) xs ys fs.toList)
   | .array len elem,.agg xs,.agg ys=>match siz P elem with
    | some s=>zTK P (zTq n elem) elem s xs ys len 0
    | none=>none
   | .int _,.int k a,.int k' b=>cond (decide (k=k')) (some (a == b)) none
   | .string,.string a,.string b=>some (bEq (sb a) (sb b))
   | d,x,y=>ceq d x y
def zDi:Operand→Bool
 | .const _=>true
 | _=>false
def zAL (op:BinOp) (t:TypeId) (k:Bool) (x y:Value):Option Value :=
 match op,x,y with
 | .shl,.int k a,.int _ b=>cond (decide (b<0)) none (some (.int k (k.wrap (a*2 ^ (min b.toNat k.bits)))))
 | .shr,.int k a,.int _ b=>cond (decide (b<0)) none (some (.int k (a.fdiv (2 ^ (min b.toNat k.bits)))))
 | op,.int k a,.int k' b=>cond (decide (k=k')) (zOV op k a b) none
 | op,.string a,.string b=>zX8 op a b
 | .eql,.agg xs,.agg ys=>cond (P.eqGuardType P.depth t) none ((zTq P 20 t (.agg xs) (.agg ys)).map .bool)
 | .neq,.agg xs,.agg ys=>cond (P.eqGuardType P.depth t) none ((zTq P 20 t (.agg xs) (.agg ys)).map fun b=>.bool (!b))
 | .eql,.nilIface,.nilIface=>match P.underlying t with | some (.interface _)=>cond k (some (.bool true)) none | _=>none
 | .neq,.nilIface,.nilIface=>match P.underlying t with | some (.interface _)=>cond k (some (.bool false)) none | _=>none
 | .eql,x,y=>match P.underlying t with | some d=>(ceq d x y).map .bool | none=>none
 | .neq,x,y=>match P.underlying t with | some d=>(ceq d x y).map fun b=>.bool (!b) | none=>none
 | _,_,_=>none
def zEQ (x:Option Value) (dflt y:Nat):Option Nat :=
 match x with
 | some (.int _ i)=>cond (decide (0≤i) && decide (i≤y)) (some i.toNat) none
 | some _=>none
 | none=>some dflt
def zL0 (W:CW) (a:Option Addr) (elem:TypeId):Bool :=
 match a with
 | none=>true
 | some a=>a.spot.isSome || match W.obj a.block with
  | some (.cells _ _ _ e)=>Nat.beq e elem
  | some (.fixed _ _ e)=>Nat.beq e elem
  | _=>false
def zJn (W:CW) (t:TypeId) (x:Value) (lo hi mx:Option Value):Option Value :=
 match P.underlying t,x with
 | some (.slice elem),.slice a len cap=>zCc (zEQ mx cap cap) fun m=>zCc (zEQ hi len m) fun h=>zCc (zEQ lo 0 h) fun l =>
   cond (mx.isSome && hi.isNone || !Nat.ble h m || !(mx.isSome || zL0 W a elem)) none (zCc (siz P elem) fun s =>
   some (.slice (cond (Nat.beq m l) a (a.map fun a=>⟨a.block,a.off+l*s,none⟩)) (h-l) (m-l)))
 | some (.array n elem),.pointer (some a)=>zCc (zEQ mx n n) fun m=>zCc (zEQ hi n m) fun h=>zCc (zEQ lo 0 h) fun l =>
   cond (mx.isSome && hi.isNone || !Nat.ble h m) none (zCc (siz P elem) fun s =>
   some (.slice (some (cond (Nat.beq m l) a ⟨a.block,a.off+l*s,none⟩)) (h-l) (m-l)))
 | _,_=>none
def zDn:TypeDesc→Bool
 | .int _ | .string | .bool=>true
 | _=>false
def modAt (v k:Value):Nat→List MapEntry→List MapEntry
 | _,[]=>[]
 | 0,e::es=>{ e with key:=k,val:=v }::es
 | i+1,e::es=>e::modAt v k i es
def dropAt:Nat→List MapEntry→List MapEntry
 | _,[]=>[]
 | 0,_::es=>es
 | i+1,e::es=>e::dropAt i es
def zGi:Value→Value→Bool
 | .int j a,.int k b=>decide (j=k) && decide (a=b)
 | .string a,.string b=>bEq (sb a) (sb b)
 | .bool a,.bool b=>a == b
 | _,_=>false
def zHi:List Value→List Value→Bool
 | [],[]=>true
 | x::xs,y::ys=>zGi x y && zHi xs ys
 | _,_=>false
def zM2:Value→Value→Bool
 | .agg xs,.agg ys=>zHi xs.toList ys.toList
 | _,_=>false
def zQx (t:TypeId) (k:Value):Bool :=
 match P.underlying t,k with
 | some (.struct fs),.agg cs=>!(P.stoodInHeld t) && fs.toList.all fun f=>!(f.name == "_") && (match P.underlying f.type with | some d=>zDn d | none=>false) && (zL7 P f.type cs f.offset).isSome
 | _,_=>false
def zQF (t:TypeId) (k:Value):List MapEntry→Nat→Option (Option (Nat × Value))
 | [],_=>some none
 | e::es,i=>match zTq P 20 t k e.key with
  | some true=>cond (zM2 k e.key) (some (some (i,e.val))) none
  | some false=>zQF t k es (i+1)
  | none=>none
def zI1 (t:TypeId) (k:Value) (es:List MapEntry):Option (Option (Nat × Value)) :=
 match P.underlying t with
 | some d=>cond (zDn d) (zFK d k es 0) (cond (zQx P t k) (zQF P t k es 0) none)
 | none=>none
def zC1 (b:Option Addr) (m:Nat) (W:CW):Option (List Value) :=
 match b with
 | none=>some []
 | some b=>cond (Nat.beq m 0) (some []) <| match W.obj b.block with
  | some (.cells c k z _)=>cond (Nat.ble (b.off+m) k) (some (zAh c z m b.off)) none
  | some (.fixed f k _)=>cond (Nat.ble (b.off+m) k) (some (zCG f m b.off)) none
  | _=>none
def zT9 (x:Value):Option Nat :=
 match x with
 | .slice _ n _=>some n
 | .string s=>some s.size
 | _=>none
def zDX (x:Value) (n size:Nat) (W:CW):Option (List Value) :=
 match x with
 | .slice xb _ _=>zC1 xb (n*size) W
 | .string s=>cond (Nat.beq size 1) (some (zBM ((sb s).take n))) none
 | _=>none
def zDQ (t:TypeId) (s x:Value) (W:CW):Option (Value × CW) :=
 match P.underlying t,s,zT9 x with
 | some (.slice elem),.slice base sLen sCap,some n =>
  zCc (siz P elem) fun size=>zCc (zer P elem) fun z=>zCc (zDX x n size W) fun news =>
  cond (news.all zAg && Nat.beq news.length (n*size) && Nat.blt 0 size && Nat.beq z.cells.size size && Nat.ble (sLen+n) 1000000 && Nat.ble ((P.info? elem).map (·.bytes) |>.getD 2000) 1024)
   (cond (Nat.ble (sLen+n) sCap)
    (cond (Nat.beq n 0) (some (.slice base (sLen+n) sCap,W)) (match base with
     | none=>some (.slice none (sLen+n) sCap,W)
     | some a=>match W.obj a.block with
      | some (.cells c m z e)=>cond (Nat.ble (a.off+sLen*size+n*size) m)
        (some (.slice (some a) (sLen+n) sCap,W.upd a.block (.cells (c.putFrom (a.off+sLen*size) news) m z e))) none
      | _=>none))
    (match base with
     | none=>cond (Nat.beq sLen 0) (some (.slice (some ⟨W.sz,0,none⟩) (sLen+n) (sLen+n),W.new (.cells (Tr.nil.putFrom 0 news) ((sLen+n)*size) #[] elem))) none
     | some a=>cond a.spot.isSome (cond (Nat.beq sLen 0 && Nat.beq sCap 0) (some (.slice (some ⟨W.sz,0,none⟩) (sLen+n) (sLen+n),W.new (.cells (Tr.nil.putFrom 0 news) ((sLen+n)*size) #[] elem))) none) (match W.obj a.block with
      | some (.cells c m z e)=>cond (Nat.ble (a.off+sLen*size) m && Nat.beq e elem)
        (some (.slice (some ⟨W.sz,0,none⟩) (sLen+n) (sLen+n),(W.upd a.block .dead).new (.cells (Tr.nil.putFrom 0 (zAh c z (sLen*size) a.off++news)) ((sLen+n)*size) #[] elem))) none
      | _=>none)))
   none
 | _,_,_=>none
def zRh (t:TypeId) (d s:Value) (W:CW):Option (Value × CW) :=
 match P.underlying t,d,zT9 s with
 | some (.slice elem),.slice base dLen _,some sLen =>
  zCc (siz P elem) fun size=>zCc (zDX s (Nat.min sLen dLen) size W) fun news =>
  cond (Nat.beq (Nat.min sLen dLen) 0) (some (.int .i64 (Nat.min sLen dLen),W)) (match base with
  | none=>none
  | some a=>match W.obj a.block with
   | some (.cells c m z e)=>cond (news.all zAg && Nat.ble (a.off+news.length) m) (some (.int .i64 (Nat.min sLen dLen),W.upd a.block (.cells (c.putFrom a.off news) m z e))) none
   | _=>none)
 | _,_,_=>none
def zMF (t:TypeId) (x:Value) (W:CW):Option CW :=
 match P.underlying t,x with
 | some (.map _ _),.map (some r)=>match W.obj r with
  | some (.map _ clk)=>some (W.upd r (.map [] clk))
  | _=>none
 | some (.map _ _),.map none=>some W
 | some (.slice elem),.slice (some a) n _=>zCc (siz P elem) fun size=>zCc (zer P elem) fun z0 =>
  cond (Nat.beq n 0) (some W) (match W.obj a.block with
  | some (.cells c m z e)=>cond (Nat.ble (a.off+n*z0.cells.size) m && z0.cells.toList.all zAg)
    (some (W.upd a.block (.cells (c.putFrom a.off (zAh .nil z0.cells (n*z0.cells.size) 0)) m z e))) none
  | _=>none)
 | some (.slice _),.slice none _ _=>some W
 | _,_=>none
def zAm (t:TypeId) (x:Value) (W:CW):Option Value :=
 match P.underlying t,x with
 | some .string,.string s=>some (.int .i64 s.size)
 | some (.slice _),.slice _ n _=>some (.int .i64 n)
 | some (.map _ _),.map none=>some (.int .i64 0)
 | some (.map _ _),.map (some r)=>match W.obj r with
  | some (.map es _)=>some (.int .i64 es.length)
  | _=>none
 | _,_=>none
def zIh (t:TypeId) (m k:Value) (W:CW):Option CW :=
 match P.underlying t,m with
 | some (.map kt _),.map (some r)=>match W.obj r with
  | some (.map es clk)=>zCc (zI1 P kt k es) fun f=>match f with
   | some (i,_)=>some (W.upd r (.map (dropAt i es) clk))
   | none=>some (W.upd r (.map es clk))
  | _=>none
 | _,_=>none
def zEg (t:TypeId):Bool :=
 match P.underlying t with
 | some (.int _)=>false
 | some _=>true
 | none=>false
def zYA (t:TypeId) (x:Value) (W:CW):Option Value :=
 match P.underlying t,x with
 | some (.slice _),.slice none _ c=>some (.int .i64 c)
 | some (.slice _),.slice (some a) _ c=>match W.obj a.block with
  | some (.cells _ _ z _)=>cond (Nat.beq z.size 0 || Nat.beq c 0) none (some (.int .i64 c))
  | _=>none
 | _,_=>none
def zEH (b:Builtin) (ts:List TypeId) (args:List Value) (W:CW):Option (CNext × CW) :=
 match b,ts,args with
 | .len,t::_,[x]=>(zAm P t x W).map fun v=>(.value v,W)
 | .cap,t::_,[x]=>(zYA P t x W).map fun v=>(.value v,W)
 | .append,t::u::_,[s,x]=>cond (zEg P u) ((zDQ P t s x W).map fun (v,W)=>(.value v,W)) none
 | .copy,t::_,[d,s]=>(zRh P t d s W).map fun (v,W)=>(.value v,W)
 | .clear,t::_,[x]=>(zMF P t x W).map fun W=>(.value (.tuple #[]),W)
 | .delete,t::_,[m,k]=>(zIh P t m k W).map fun W=>(.value (.tuple #[]),W)
 | .max,_,[.int k a,.int _ b]=>some (.value (.int k (cond (decide (b>a)) b a)),W)
 | .min,_,[.int k a,.int _ b]=>some (.value (.int k (cond (decide (b<a)) b a)),W)
 | .recover,_,[]=>some (.recover,W)
 | _,_,_=>none
def zWn (elem:TypeId) (s:ByteArray) (W:CW):Option (Value × CW) :=
 match P.underlying elem,siz P elem with
 | some (.int .u8),some 1=>some (.slice (some ⟨W.sz,0,none⟩) s.size s.size,W.new (.cells (Tr.nil.putFrom 0 (zBM (sb s))) s.size #[] elem))
 | _,_=>none
def zWU (elem:TypeId) (x:Value) (W:CW):Option Value :=
 match P.underlying elem,x with
 | some (.int .u8),.slice b n _=>zCc (zC1 b n W) fun l=>zCc (zDt l) fun m=>some (.string ⟨m.toArray⟩)
 | _,_=>none
def zFN (d:Value) (args:List Value):Option CNext :=
 match d with
 | .func (.func f) first cap=>some (.enter f (first.toList++args++cap.toList))
 | .func (.yield l) first _=>some (.round l (first.toList++args))
 | _=>none
def zE1 (f:FuncId) (args:List Value) (W:CW):Option (Value × CW) :=
 match P.funcs[f]? with
 | some fn=>cond fn.body.isNone (cond (fn.name == "maps.clone") (match args with
  | [.iface t (.map (some r))]=>match W.obj r with
   | some (.map es clk)=>some (.iface t (.map (some W.sz)),W.new (.map es clk))
   | _=>none
  | _=>none) none) none
 | none=>none
def zMI (es:List MapEntry) (since:Nat) (seen:List Nat):List (Option MapEntry) :=
 let left:=es.filter fun e=>!seen.contains e.born
 let old:=left.filter fun e=>e.born<since
 let new:=left.filter fun e=>!(e.born<since)
 (cond old.isEmpty [none] [])++(old++new).map some
def cop (o:Oper) (e:Operand→Value) (W:CW):Option (List (CNext × CW)) :=
 let v (x:Option Value):Option (List (CNext × CW)):=match x with | some v=>some [(.value v,W)] | none=>none
 let vw (x:Option (Value × CW)):Option (List (CNext × CW)):=match x with | some (v,W)=>some [(.value v,W)] | none=>none
 let sw (x:Option CW):Option (List (CNext × CW)):=match x with | some W=>some [(.skip,W)] | none=>none
 match o.op with
 | .move x | .assign x=>some [(.value (e x),W)]
 | .pick c a b=>match e c with | .bool b0=>some [(.value (cond b0 (e a) (e b)),W)] | _=>none
 | .alloc t=>match zer P t with
  | some z=>match siz P t with
   | some _=>some [(.value (.pointer (some ⟨W.sz,0,none⟩)),W.new (.cells .nil z.cells.size z.cells t))]
   | none=>none
  | none=>none
 | .box t x=>match siz P t with
  | some _=>some [(.value (zKg t (e x) W).1,(zKg t (e x) W).2)]
  | none=>none
 | .build t parts=>v (match zer P t,P.underlying t with
  | some z,some (.struct fields)=>match fields.toList.mapM fun f=>(siz P f.type).map fun s=>(f.offset,s) with
   | some places=>(Instr.fill (places[·]?) z.cells (parts.toList.map fun (i,x)=>(i,e x))).map .agg
   | none=>none
  | some z,some (.array _ elem)=>match siz P elem with
   | some s=>(Instr.fill (fun i=>some (i*s,s)) z.cells (parts.toList.map fun (i,x)=>(i,e x))).map .agg
   | none=>none
  | _,_=>none)
 | .buildSlice t len parts=>vw (match P.underlying t with
  | some (.slice elem)=>zCc (siz P elem) fun s=>zCc (zer P elem) fun z =>
   cond (Nat.ble (len*s) 65536 && Nat.beq z.cells.size s) (match Instr.fill (fun i=>some (i*s,s)) ((zAh .nil z.cells (len*s) 0).toArray) (parts.toList.map fun (i,x)=>(i,e x)) with
    | some cs=>some (.slice (some ⟨W.sz,0,none⟩) len len,W.new (.cells (Tr.nil.putFrom 0 cs.toList) cs.size #[] elem))
    | none=>none) none
  | _=>none)
 | .load t a=>v (match e a with | .pointer (some a)=>zHY P t a W | _=>none)
 | .store t a x=>sw (match e a with | .pointer (some a)=>zFW P t a (e x) W | _=>none)
 | .nilCheck x=>v (match e x with
  | .pointer (some a)=>some (.pointer (some a))
  | .iface t v=>some (.iface t v)
  | .func (.func f) a b=>some (.func (.func f) a b)
  | .func (.yield f) a b=>some (.func (.yield f) a b)
  | _=>none)
 | .binOp op t x y _=>v (zAL P op t (zDi x || zDi y) (e x) (e y))
 | .unOp .not _ x=>v (match e x with | .bool b=>some (.bool (!b)) | _=>none)
 | .unOp .neg _ x=>v (match e x with | .int k n=>some (.int k (k.wrap (0-n))) | _=>none)
 | .convert src dst x=>match P.underlying src,P.underlying dst,e x with
  | some _,some (.int k),.int _ n=>some [(.value (.int k (k.wrap n)),W)]
  | some _,some .string,.string s=>some [(.value (.string s),W)]
  | some .string,some (.slice el),.string s=>vw (zWn P el s W)
  | some (.slice el),some .string,x=>v (zWU P el x W)
  | _,_,_=>none
 | .makeInterface t x=>v (match P.underlying t with | some (.interface _) | none=>none | _=>some (.iface t (e x)))
 | .makeFunc fn first cap=>v (some (.func fn (first.map e) (cap.map e)))
 | .makeMap _ none=>some [(.value (.map (some W.sz)),W.new (.map [] 0))]
 | .makeSlice t l c=>vw (match P.underlying t,e l,e c with
  | some (.slice elem),.int _ l,.int _ c=>zCc (siz P elem) fun s=>zCc (zer P elem) fun z =>
   cond (decide (0≤l) && decide (l≤c) && decide (c≤2000000) && Nat.ble ((P.info? elem).map (·.bytes) |>.getD 0) 1024 && Nat.beq z.cells.size s && Nat.blt 0 s)
    (some (.slice (some ⟨W.sz,0,none⟩) l.toNat c.toNat,W.new (.cells .nil (c.toNat*s) z.cells elem))) none
  | _,_,_=>none)
 | .slice t x lo hi mx=>v (match P.underlying t,e x with
  | some .string,.string s=>zCc (zEQ (hi.map e) s.size s.size) fun h=>zCc (zEQ (lo.map e) 0 h) fun l=>cond mx.isSome none (some (.string (s.extract l h)))
  | _,x=>zJn P W t x (lo.map e) (hi.map e) (mx.map e))
 | .fieldAddr s x f=>v (match P.underlying s,e x with
  | some (.struct fs),.pointer (some a)=>match fs[f]? with
   | some fd=>match siz P fd.type with
    | some m=>cond (Nat.beq m 0) none (some (.pointer (some ⟨a.block,a.off+fd.offset,none⟩)))
    | none=>none
   | none=>none
  | _,_=>none)
 | .field t x f=>v (match P.underlying t,e x with
  | some (.struct fs),.agg cs=>match fs[f]? with
   | some fd=>match agg? P fd.type,siz P fd.type with
    | some true,some m=>some (.agg (cs.extract fd.offset (fd.offset+m)))
    | some false,_=>cs[fd.offset]?
    | _,_=>none
   | none=>none
  | _,_=>none)
 | .indexAddr t x ix=>v (match e ix with
  | .int _ i=>match P.underlying t,e x with
   | some (.array len elem),.pointer (some a)=>zCc (siz P elem) fun s=>cond (decide (0≤i) && decide (i<len)) (some (.pointer (some ⟨a.block,a.off+i.toNat*s,none⟩))) none
   | some (.slice elem),.slice (some a) len _=>zCc (siz P elem) fun s=>cond (decide (0≤i) && decide (i<len)) (some (.pointer (some ⟨a.block,a.off+i.toNat*s,none⟩))) none
   | _,_=>none
  | _=>none)
 | .index t x ix=>v (match e ix with
  | .int _ i=>match P.underlying t,e x with
   | some (.array len elem),.agg cs=>cond (decide (0≤i) && decide (i<len)) (match agg? P elem,siz P elem with
    | some true,some m=>some (.agg (cs.extract (i.toNat*m) (i.toNat*m+m)))
    | some false,some m=>cs[i.toNat*m]?
    | _,_=>none) none
   | some .string,.string s=>cond (decide (0≤i)) ((s[i.toNat]?).map fun b=>.int .u8 b.toNat) none
   | _,_=>none
  | _=>none)
 | .lookup t x k ok=>v (match P.underlying t,e x with
  | some (.map kt elem),m=>zCc (zer P elem) fun z=>zCc (match m with
    | .map none=>some []
    | .map (some r)=>match W.obj r with | some (.map es _)=>some es | _=>none
    | _=>none) fun es=>zCc (zI1 P kt (e k) es) fun r=>match r with
     | some (_,x)=>some (cond ok (.tuple #[x,.bool true]) x)
     | none=>some (cond ok (.tuple #[z,.bool false]) z)
  | _,_=>none)
 | .mapUpdate t m k x | .insert t m k x=>sw (match P.underlying t,e m with
  | some (.map kt _),.map (some r)=>match W.obj r with
   | some (.map es clk)=>zCc (zI1 P kt (e k) es) fun f=>match f with
    | some (i,_)=>some (W.upd r (.map (modAt (e x) (e k) i es) clk))
    | none=>some (W.upd r (.map (es++[{ key:=e k,val:=e x,born:=clk }]) (clk+1)))
   | _=>none
  | _,_=>none)
 | .range t x=>vw (match P.underlying t,e x with
  | some (.map _ _),.map none=>some (.pointer (some ⟨W.sz,0,none⟩),W.new (.iter none 0 [] 0))
  | some (.map _ _),.map (some r)=>match W.obj r with
   | some (.map _ clk)=>some (.pointer (some ⟨W.sz,0,none⟩),W.new (.iter (some r) clk [] clk))
   | _=>none
  | _,_=>none)
 | .next it false=>match e it with
  | .pointer (some a)=>cond (!Nat.beq a.off 0) none <| match W.obj a.block with
   | some (.iter none _ _ _)=>some [(.value (.tuple #[.bool false]),W)]
   | some (.iter (some r) since seen last)=>match W.obj r with
    | some (.map es clk) =>
     cond (!seen.isEmpty && !es.isEmpty && es.all fun e=>!(e.born<last)) none
      (some ((zMI es since seen).map fun c=>match c with
       | some en=>(.value (.tuple #[.bool true,en.key,en.val]),W.upd a.block (.iter (some r) since (seen++[en.born]) clk))
       | none=>(.value (.tuple #[.bool false]),W)))
    | _=>none
   | _=>none
  | _=>none
 | .entry it=>v (match e it with
  | .pointer (some a)=>cond (!Nat.beq a.off 0) none <| match W.obj a.block with
   | some (.iter (some r) _ seen stepped)=>match seen.getLast?,W.obj r with
    | some st,some (.map es clk)=>cond (Nat.beq clk stepped) ((es.find? fun e=>Nat.beq e.born st).map fun e=>.tuple #[e.key,e.val]) none
    | _,_=>none
   | _=>none
  | _=>none)
 | .typeAssert x _ t ok=>v (match P.underlying t,e x with
  | some (.interface _),_=>none
  | some _,.iface u y=>cond (Nat.beq t u) (some (cond ok (.tuple #[y,.bool true]) y)) (cond ok ((zer P t).map fun z=>.tuple #[z,.bool false]) none)
  | _,_=>none)
 | .extract x i=>v (match e x with | .tuple vs=>vs[i]? | _=>none)
 | .call c=>match c.callee with
  | .value f=>match zFN (e f) (c.args.toList.map e) with
   | some (.enter g as)=>match zE1 P g as W with
    | some (v,W1)=>some [(.value v,W1)]
    | none=>some [(.enter g as,W)]
   | some n=>some [(n,W)]
   | none=>none
  | .builtin b=>match zEH P b c.argTypes.toList (c.args.toList.map e) W with | some r=>some [r] | none=>none
  | _=>none
 | .defer c=>match c.callee with
  | .value f=>match e f with
   | .func (.func g) first cap=>some [(.defer { target:=.fn (.func g) cap,args:=first++c.args.map e },W)]
   | _=>none
  | _=>none
 | .panic x=>match e x with | .iface t y=>some [(.panic (.iface t y),W)] | _=>none
 | _=>none
end
end Go.Ce
namespace Go.Ce
abbrev zK0:=Option (List (Exit × CAct × CW))
abbrev zRv:=Option (List (Ending × CW))
abbrev zYM:=Option (List (Ending × FrameMode × CW))
structure CRec where
 code:Option Nat→FuncId→Code→CAct→CW→zK0
 call:FuncId→List Value→CW→zRv
 round:Nat→List Value→CW→zRv
 dcall:FuncId→List Value→FrameMode→CW→zYM
 eqv:Value→Value→Bool
def CRec.base (eqv:Value→Value→Bool):CRec:=⟨fun _ _ _ _ _=>Option.none,fun _ _ _=>Option.none,fun _ _ _=>Option.none,fun _ _ _ _=>Option.none,eqv⟩
def zC8 {α β:Type} (f:α→Option (List β)):List α→Option (List β)
 | []=>some []
 | x::xs=>match f x with
  | Option.none=>Option.none
  | some l=>match zC8 f xs with
   | Option.none=>Option.none
   | some m=>some (l++m)
def zBZ {α β:Type} (o:Option (List α)) (f:α→Option (List β)):Option (List β) :=
 match o with
 | Option.none=>Option.none
 | some l=>zC8 f l
def zFV (ops:Array Oper) (a:CAct) (j:Nat):Option Bool :=
 match ops[j]? with
 | some o=>match o.dst with
  | some d=>match a.t.get d with
   | some (.bool b)=>some b
   | _=>none
  | none=>none
 | none=>none
def zBT (ops:Array Oper) (o:Oper) (a:CAct):Bool :=
 match o.guard with
 | none=>true
 | some (j,want)=>match zFV ops a j with
  | some b=>b == want
  | none=>false
section
variable (P:Program)
def prs (ops:Array Oper) (i:Nat):List Nat :=
 match ops[i]? with
 | some o=>(o.after.toList.filter (Region.binds .any)).map (·.on)
 | none=>[]
def zOd (l:List Nat):List Nat→List Nat
 | []=>l
 | x::xs=>zOd (cond (l.any (Nat.beq x)) l (l++[x])) xs
def zWo (ops:Array Oper):Nat→List Nat→List Nat
 | 0,l=>l
 | f+1,l=>let m:=zOd l (l.flatMap (prs ops)); cond (Nat.beq m.length l.length) l (zWo ops f m)
def zFO (ops:Array Oper) (i:Nat):List Nat:=zWo ops ops.size (prs ops i)
def anc (ops:Array Oper) (i j:Nat):Bool:=(zFO ops i).any (Nat.beq j)
def zBb (o:Oper):Bool :=
 match o.op with
 | .move _ | .assign _ | .pick .. | .build .. | .nilCheck _ | .binOp .. | .unOp .. | .makeInterface .. | .makeFunc .. | .field .. | .fieldAddr .. | .indexAddr .. | .index .. | .typeAssert .. | .extract ..=>true
 | .convert s d _=>(match P.underlying s with | some (.slice _)=>false | _=>true) && (match P.underlying d with | some (.slice _)=>false | _=>true)
 | _=>false
def zBs (o:Oper):Bool :=
 match o.op with
 | .load .. | .slice .. | .lookup .. | .entry _=>true
 | .call c=>match c.callee with
  | .builtin .len=>true
  | _=>false
 | .convert s d _=>(match P.underlying s with | some (.slice _)=>true | _=>false) && (match P.underlying d with | some .string=>true | _=>false)
 | _=>false
def zNW (ops:Array Oper):Nat→Operand→Bool
 | n+1,.tmp t=>match ops.toList.find? (fun o=>match o.dst with | some d=>Nat.beq d t | none=>false) with
  | some o=>zBb P o && o.guard.isNone && o.op.operands.toList.all (zNW ops n)
  | none=>true
 | 0,.tmp _=>false
 | _,_=>true
def zGA (ops:Array Oper) (o:Oper):Bool :=
 match o.op,o.guard with
 | .alloc _,none=>true
 | .makeMap _ none,none=>true
 | .makeSlice _ l c,none=>zNW P ops 6 l && zNW P ops 6 c
 | _,_=>false
def zOk (o:Oper):Bool:=!(zBb P o || zBs P o)
def zDK (ops:Array Oper):List Nat :=
 let n:=ops.size
 let ws:=(List.range n).filter fun i=>match ops[i]? with | some o=>zOk P o | none=>false
 ws.filter fun i=>match ops[i]? with
  | some o=>zGA P ops o && ws.any fun j=>!Nat.beq i j && !anc ops i j && !anc ops j i
  | none=>false
def zB1 (l:List Nat) (i:Nat):Bool:=l.any (Nat.beq i)
def zEM (ops:Array Oper):Bool :=
 let n:=ops.size
 let fl:=zDK P ops
 (List.range n).all fun i=>match ops[i]? with
  | some oi =>
   let an:=zFO ops i
   (prs ops i).all (fun p=>Nat.blt p i) && (List.range i).all fun j=>zB1 an j || (match ops[j]? with
    | some oj=>oj.apart ops oi && !(zOk P oi && zOk P oj && !zB1 fl i && !zB1 fl j)
    | none=>true)
  | none=>true
def veq:Nat→Value→Value→Bool
 | 0,_,_=>false
 | n+1,v,w=>match v,w with
  | .bool a,.bool b=>a == b
  | .int j a,.int k b=>decide (j=k) && a == b
  | .pointer none,.pointer none=>true
  | .pointer (some ⟨a,i,none⟩),.pointer (some ⟨b,j,none⟩)=>Nat.beq a b && Nat.beq i j
  | .slice none n c,.slice none m d=>Nat.beq n m && Nat.beq c d
  | .slice (some ⟨a,i,none⟩) n c,.slice (some ⟨b,j,none⟩) m d=>Nat.beq a b && Nat.beq i j && Nat.beq n m && Nat.beq c d
  | .map none,.map none=>true
  | .map (some a),.map (some b)=>Nat.beq a b
  | .nilIface,.nilIface=>true
  | .nilFunc,.nilFunc=>true
  | .string a,.string b=>bEq (sb a) (sb b)
  | .iface t v,.iface u w=>Nat.beq t u && veq n v w
  | .agg x,.agg y=>Nat.beq x.size y.size && (x.toList.zip y.toList).all fun (v,w)=>veq n v w
  | .tuple x,.tuple y=>Nat.beq x.size y.size && (x.toList.zip y.toList).all fun (v,w)=>veq n v w
  | .func (.func f) x x',.func (.func g) y y'=>Nat.beq f g && Nat.beq x.size y.size && Nat.beq x'.size y'.size && (x.toList.zip y.toList).all (fun (v,w)=>veq n v w) && (x'.toList.zip y'.toList).all fun (v,w)=>veq n v w
  | _,_=>false
def zBJ:Option CObj→Option CObj→Bool
 | some (.map [] 0),some (.map [] 0)=>true
 | some (.cells .nil n z e),some (.cells .nil m y f)=>Nat.beq n m && Nat.beq e f && Nat.beq z.size y.size && (z.toList.zip y.toList).all fun (v,w)=>veq 6 v w
 | _,_=>false
def zWv (xs ys:List Value):Bool:=Nat.beq xs.length ys.length && (xs.zip ys).all fun (v,w)=>veq 8 v w
def zW1:Option Value→Option Value→Bool
 | none,none=>true
 | some v,some w=>veq 8 v w
 | _,_=>false
def teq:Nat→Tr Value→Tr Value→Bool
 | _,.nil,.nil=>true
 | n+1,.node l v r,.node l' v' r'=>zW1 v v' && teq n l l' && teq n r r'
 | _,_,_=>false
def meq (a b:MapEntry):Bool:=veq 8 a.key b.key && veq 8 a.val b.val && Nat.beq a.born b.born
def zX9:CObj→CObj→Bool
 | .cells c n z e,.cells c' n' z' e'=>Nat.beq n n' && Nat.beq e e' && zWv z.toList z'.toList && teq 30 c c'
 | .map es k,.map es' k'=>Nat.beq k k' && Nat.beq es.length es'.length && (es.zip es').all fun (a,b)=>meq a b
 | .deferred,.deferred=>true
 | _,_=>false
def zVF:Option CObj→Option CObj→Option CObj
 | some o,some o'=>cond (zX9 o o') (some o) none
 | _,_=>none
def zLX:Nat→Tr CObj→Tr CObj→Tr CObj
 | n+1,.node l v r,.node l' v' r'=>.node (zLX n l l') (zVF v v') (zLX n r r')
 | _,_,_=>.nil
def zW2 (W W':CW):CW:=⟨zLX 30 W.h W'.h,max W.sz W'.sz⟩
def zEj:List (Ending × CW)→Option (Value × CW)
 | [(.returned v,W)]=>some (v,W)
 | (.returned v,W)::rest=>match zEj rest with
  | some (u,W')=>cond (veq 8 v u) (some (v,zW2 W W')) none
  | none=>none
 | _=>none
def zCs (o:zRv):zRv :=
 match o with
 | some (x::y::l)=>match zEj (x::y::l) with
  | some (v,W)=>some [(.returned v,W)]
  | none=>some (x::y::l)
 | o=>o
def zC5 (R:CRec) (ops:Array Oper):List Oper→CAct→CW→zK0
 | [],a,W=>some [(.normal,a,W)]
 | o::rest,a,W =>
  match zBT ops o a with
  | true=>zBZ (cop P o a.eval W) fun (n,W)=>match n with
    | .value v=>zC5 R ops rest (a.put o.dst v) W
    | .skip=>zC5 R ops rest (a.put o.dst undef) W
    | .defer d=>zC5 R ops rest ({ a with defers:=d::a.defers }.put o.dst undef) W
    | .enter f args=>zBZ (R.call f args W) fun (e,W)=>match e with
     | .returned v=>zC5 R ops rest (a.put o.dst v) W
     | .panicked ch=>some [(.panic ch,a,W)]
     | .outgrown=>none
    | .round l args=>zBZ (R.round l args W) fun (e,W)=>match e with
     | .returned v=>zC5 R ops rest (a.put o.dst v) W
     | .panicked ch=>some [(.panic ch,a,W)]
     | .outgrown=>none
    | .recover=>none
    | .panic v=>some [(.panic [{ v,recovered:=false }],a,W)]
  | false=>zC5 R ops rest (a.put o.dst undef) W
def zCp:Nat→Value→Bool
 | 0,_=>false
 | n+1,v=>match v with
  | .bool _ | .int _ _ | .float _ _ | .complex _ _ _ | .string _ | .pointer none | .slice none _ _ | .map none | .chan none | .nilFunc | .nilIface=>true
  | .agg x=>x.toList.all (zCp n)
  | .tuple x=>x.toList.all (zCp n)
  | .iface _ v=>zCp n v
  | _=>false
def zAQ:Operand→Bool
 | .tmp _=>true
 | .const v=>zCp 8 v
 | .global _=>false
 | .func _=>true
def zQY (o:Oper):Bool :=
 match o.op with
 | .move x | .assign x | .nilCheck x | .unOp _ _ x | .convert _ _ x | .makeInterface _ x | .field _ x _ | .fieldAddr _ x _ | .range _ x | .next x false | .entry x | .typeAssert x _ _ _ | .extract x _ | .panic x | .box _ x=>zAQ x
 | .load _ x=>zAQ x || (match x with | .global _=>true | _=>false)
 | .pick c a b=>zAQ c && zAQ a && zAQ b
 | .alloc _ | .makeMap _ none=>true
 | .build _ ps | .buildSlice _ _ ps=>ps.toList.all fun p=>zAQ p.2
 | .store _ a x=>zAQ a && zAQ x
 | .binOp _ _ x y _ | .makeSlice _ x y | .indexAddr _ x y | .index _ x y | .lookup _ x y _=>zAQ x && zAQ y
 | .makeFunc (.func _) f c=>f.toList.all zAQ && c.toList.all zAQ
 | .slice _ x l h m=>zAQ x && l.all zAQ && h.all zAQ && m.all zAQ
 | .mapUpdate _ m k x | .insert _ m k x=>zAQ m && zAQ k && zAQ x
 | .call c=>c.args.toList.all zAQ && (match c.callee with | .value f=>zAQ f | .builtin _=>true | _=>false)
 | .defer c=>c.args.toList.all zAQ && (match c.callee with | .value f=>zAQ f | _=>false)
 | _=>false
def zRa (nt:Nat) (o:Oper):Bool:=match o.dst with | some d=>Nat.blt d nt | none=>true
def zHb (o:Oper):Bool:=match o.op with | .defer _=>false | _=>true
def zID (o:Oper):Bool:=match o.guard with
 | none=>true
 | some _=>match o.op with
  | .call c=>match c.callee with
   | .value (.func g)=>(P.funcs[g]?).isSome
   | .value _=>false
   | _=>true
  | _=>true
def zGp (nt:Nat) (inR:Bool) (ops:List Oper):Bool:=ops.all fun o=>(zQY o && zID P o) && zRa nt o && (!inR || zHb o)
def zYT (nt:Nat) (ps:Array Tmp):Bool:=ps.toList.all fun p=>Nat.blt p nt
def zBA (nt:Nat) (inR:Bool):Code→Bool
 | .skip | .label _ | .exit _ | .ret=>true
 | .region _ ops d=>zGp P nt inR ops.toList && (!d || zEM P ops)
 | .seq x y=>zBA nt inR x && zBA nt inR y
 | .cond c x y=>zAQ c && (zBA nt inR x && zBA nt inR y)
 | .block _ b=>zBA nt inR b
 | .scope b=>zBA nt inR b
 | .loop b=>zBA nt inR b
 | .rangeFunc f ps as bd=>zAQ f && zYT nt ps && zBA nt true as && zBA nt true bd
 | _=>false
structure DSt where
 a:CAct
 W:CW
 ws:List (Nat × CW)
 rd:List (Nat × Oper × CAct × Value)
def zRY (ops:Array Oper) (a:CAct) (W:CW):Nat→Operand→Value
 | n+1,.tmp t=>match ops.toList.find? (fun o=>match o.dst with | some d=>Nat.beq d t | none=>false) with
  | some o=>cond (zBb P o) ((cop P o (zRY ops a W n) W).elim undef fun l=>l.head?.elim undef fun p=>match p.1 with | .value v=>v | _=>undef) undef
  | none=>a.eval (.tmp t)
 | _,x=>a.eval x
def zKI (ops:Array Oper) (a:CAct) (W:CW) (o:Oper):Operand→Value :=
 match o.op with
 | .makeSlice _ _ _=>zRY P ops a W 6
 | _=>a.eval
def zIG (o:Oper) (a:CAct) (v:Value) (ob:Option CObj):Bool :=
 match o.op with
 | .makeSlice _ _ _=>match v with
  | .slice (some b) _ _=>(cop P o a.eval ⟨.nil,b.block⟩).any fun l=>l.head?.any fun p=>match p.1 with
   | .value u=>veq 8 u v && zBJ (p.2.obj b.block) ob
   | _=>false
  | _=>false
 | _=>true
def zDZ (ops:Array Oper) (a:CAct):List Nat→CW→Option (List (Nat × Value × Option CObj) × CW)
 | [],W=>some ([],W)
 | i::is,W=>match ops[i]? with
  | some o=>match cop P o (zKI P ops a W o) W with
   | some [(.value v,W1)]=>match zDZ ops a is W1 with
    | some (l,W2)=>some ((i,v,W1.obj W.sz)::l,W2)
    | none=>none
   | _=>none
  | none=>none
def zBo (ops:Array Oper) (o:Oper) (a:CAct):Option Bool :=
 match o.guard with
 | none=>some true
 | some (j,want)=>match zFV ops a j with
  | some b=>some (b == want)
  | none=>some false
def zAl (R:CRec) (ops:Array Oper) (fl:List (Nat × Value × Option CObj)) (i:Nat) (o:Oper) (s:DSt):Option DSt :=
 match fl.find? fun p=>Nat.beq p.1 i with
 | some (_,v,ob)=>cond (zIG P o s.a v ob) (some { s with a:=s.a.put o.dst v }) none
 | none=>match zBo ops o s.a with
  | none=>none
  | some false=>some { s with a:=s.a.put o.dst undef }
  | some true =>
   cond (zBb P o) (match cop P o s.a.eval s.W with
    | some [(.value v,_)]=>some { s with a:=s.a.put o.dst v }
    | _=>none)
   (cond (zBs P o) (match cop P o s.a.eval s.W with
    | some [(.value v,_)]=>some { s with a:=s.a.put o.dst v,rd:=(i,o,s.a,v)::s.rd }
    | _=>none)
   (match cop P o s.a.eval s.W with
   | some [(.value v,W1)]=>some { s with a:=s.a.put o.dst v,W:=W1,ws:=(i,s.W)::s.ws }
   | some [(.skip,W1)]=>some { s with a:=s.a.put o.dst undef,W:=W1,ws:=(i,s.W)::s.ws }
   | some [(.enter f args,W1)]=>match zCs (R.call f args W1) with
    | some [(.returned v,W2)]=>some { s with a:=s.a.put o.dst v,W:=W2,ws:=(i,s.W)::s.ws }
    | _=>none
   | some [(.round l args,W1)]=>match zCs (R.round l args W1) with
    | some [(.returned v,W2)]=>some { s with a:=s.a.put o.dst v,W:=W2,ws:=(i,s.W)::s.ws }
    | _=>none
   | _=>none))
def zBw (R:CRec) (ops:Array Oper) (fl:List (Nat × Value × Option CObj)):Nat→List Oper→DSt→Option DSt
 | _,[],s=>some s
 | i,o::rest,s=>match zAl P R ops fl i o s with
  | some s=>zBw R ops fl (i+1) rest s
  | none=>none
def zBN (F:Nat→Oper→DSt→Option DSt):Nat→List Oper→DSt→Option DSt
 | _,[],s=>some s
 | i,o::rest,s=>match F i o s with
  | some s=>zBN F (i+1) rest s
  | none=>none
def zB4 (R:CRec) (ops:Array Oper) (fl:List (Nat × Value × Option CObj)) (i:Nat) (o:Oper) (s:DSt):Option (List PanicEntry × CW) :=
 match fl.find? fun p=>Nat.beq p.1 i with
 | some _=>none
 | none=>match zBo ops o s.a with
  | some true=>cond (zBb P o) none (cond (zBs P o) none (match cop P o s.a.eval s.W with
   | some [(.enter f args,W1)]=>match R.call f args W1 with
    | some [(.panicked ch,W2)]=>some (ch,W2)
    | _=>none
   | some [(.round l args,W1)]=>match R.round l args W1 with
    | some [(.panicked ch,W2)]=>some (ch,W2)
    | _=>none
   | _=>none))
  | _=>none
def zBl (R:CRec) (ops:Array Oper) (fl:List (Nat × Value × Option CObj)):Nat→List Oper→DSt→Option (Nat × List PanicEntry × CW)
 | _,[],_=>none
 | i,o::rest,s=>match zB4 P R ops fl i o s with
  | some (ch,W)=>some (i,ch,W)
  | none=>match zAl P R ops fl i o s with
   | some s=>zBl R ops fl (i+1) rest s
   | none=>none
def zK3 (ops:Array Oper) (i0 i:Nat):Bool:=Nat.beq i i0 || (Nat.blt i0 i && zB1 (zFO ops i) i0)
theorem zQZ {ops:Array Oper} {i0 i:Nat} (h:i<i0):zK3 ops i0 i=false:=by
 unfold zK3
 have h1:Nat.beq i i0=false:=by
  cases hq:Nat.beq i i0 with
  | false=>rfl
  | true=>have:=Nat.eq_of_beq_eq_true hq; omega
 have h2:Nat.blt i0 i=false:=by
  cases hq:Nat.blt i0 i with
  | false=>rfl
  | true=>have:=Nat.le_of_ble_eq_true hq; omega
 rw [h1,h2]; rfl
def zEP (R:CRec) (ops:Array Oper) (fl:List (Nat × Value × Option CObj)) (i0:Nat) (i:Nat) (o:Oper) (s:DSt):Option DSt :=
 cond (zK3 ops i0 i) (some { s with a:=s.a.put o.dst undef }) (zAl P R ops fl i o s)
def CAct.bad (a:CAct):CAct:={ a with t:=Tr.nil.set 0 (.complex .f64 0 0) }
def CAct.isBad (a:CAct):Bool:=match a.t.get 0 with
 | some (.complex .f64 _ _)=>true
 | _=>false
def zBa (ops:Array Oper) (i:Nat) (an:List Nat) (ok:CW→Bool):List (Nat × CW)→CW→Bool
 | [],W=>ok W
 | (j,Wj)::before,W =>
  (anc ops j i || ok W) && cond (zB1 an j) true (zBa ops i an ok before Wj)
def zEL (R:CRec) (ops:Array Oper) (a:CAct) (W:CW):zK0 :=
 match zDZ P ops a (zDK P ops) W with
 | none=>none
 | some (fl,W1)=>match zBw P R ops fl 0 ops.toList ⟨a,W1,[],[]⟩ with
  | none=>match zBl P R ops fl 0 ops.toList ⟨a,W1,[],[]⟩ with
   | none=>none
   | some (i0,ch,W2)=>match zBN (zEP P R ops fl i0) 0 ops.toList ⟨a,W1,[],[]⟩ with
    | none=>none
    | some s=>cond (fl.isEmpty && s.ws.all fun x=>zB1 (zFO ops i0) x.1)
     (cond (s.rd.all fun (i,o,a,v)=>zBa ops i (zFO ops i) (fun W=>match cop P o a.eval W with | some [(.value u,_)]=>R.eqv u v | _=>false) s.ws s.W)
      (some [(.panic ch,a.bad,W2)]) none) none
  | some s =>
   cond (s.rd.all fun (i,o,a,v)=>zBa ops i (zFO ops i) (fun W=>match cop P o a.eval W with | some [(.value u,_)]=>R.eqv u v | _=>false) s.ws s.W)
    (cond (fl.all fun (i,v,ob)=>zBa ops i (zFO ops i) (fun W=>match v with | .pointer (some b)=>zBJ (W.obj b.block) ob | .map (some b)=>zBJ (W.obj b) ob | .slice (some b) _ _=>zBJ (W.obj b.block) ob | _=>false) s.ws s.W)
     (some [(.normal,s.a,s.W)]) none) none
def zHC (o:zK0) (f:CAct→CW→zK0):zK0 :=
 zBZ o fun (e,a,W)=>match e with
  | .normal=>f a W
  | e=>some [(e,a,W)]
def zDk (a:CAct) (W:CW):ResultVar→Option Value
 | .tmp t=>some (match a.t.get t with | some v=>v | none=>undef)
 | .cell s ty=>match a.t.get s with
  | some (.pointer (some p))=>zHY P ty p W
  | _=>none
def zCj (fn:Func) (a:CAct) (W:CW):Option Value :=
 match fn.results.toList.mapM (zDk P a W) with
 | some [v]=>some v
 | some vs=>some (.tuple vs.toArray)
 | none=>none
def zA0 (R:CRec) (fn:Func) (a:CAct):List Deferred→FrameMode→CW→zRv
 | [],.returning,W=>match zCj P fn a W with
  | some v=>some [(.returned v,W)]
  | none=>none
 | [],.panicking ch,W=>some [(.panicked ch,W)]
 | [],.run,_=>none
 | d::ds,u,W=>match d.target with
  | .collected r=>match W.obj r with
   | some .deferred=>zA0 R fn a ds u (W.upd r .dead)
   | _=>none
  | .fn (.func f) cap=>zBZ (R.dcall f (d.args.toList++cap.toList) u W) fun (e,u,W)=>match e with
   | .returned _=>zA0 R fn a ds (settle u) W
   | _=>none
  | _=>none
def zCw:List Deferred→List PanicEntry→CW→zRv
 | [],ch,W=>some [(.panicked ch,W)]
 | d::ds,ch,W=>match d.target with
  | .collected r=>match W.obj r with
   | some .deferred=>zCw ds ch (W.upd r .dead)
   | _=>none
  | _=>none
def zMP (ro:Option Nat) (W:CW):Option (Nat × List Deferred × CW) :=
 match ro with
 | some l=>match W.obj l with
  | some (.loop _ _ _ _ _ _ _ _ d)=>some (d,[],W)
  | _=>none
 | none=>some (W.sz,[{ target:=.collected W.sz,args:=#[] }],W.new .deferred)
def zAv (R:CRec) (ro:Option Nat) (fn:FuncId) (c:Code) (a:CAct) (W:CW):zK0 :=
 match c with
 | .skip=>some [(.normal,a,W)]
 | .label _=>some [(.normal,a,W)]
 | .exit id=>some [(.exit id,a,W)]
 | .ret=>some [(.ret,a,W)]
 | .region _ ops false=>zC5 P R ops ops.toList a W
 | .region _ ops true=>zEL P R ops a W
 | .seq x y=>zHC (R.code ro fn x a W) (R.code ro fn y)
 | .cond c x y=>match a.eval c with
  | .bool b=>R.code ro fn (cond b x y) a W
  | _=>none
 | .block id b=>zBZ (R.code ro fn b a W) fun (e,a,W)=>match e with
  | .exit id'=>cond (Nat.beq id' id) (some [(.normal,a,W)]) (some [(.exit id',a,W)])
  | e=>some [(e,a,W)]
 | .scope b=>R.code ro fn b a W
 | .loop b=>zHC (R.code ro fn b a W) (R.code ro fn (.loop b))
 | .rangeFunc f ps assign body =>
  match zMP ro W with
  | none=>none
  | some (dl,zFA,W1) =>
   match zFN (a.eval f) [.func (.yield W1.sz) #[] #[]] with
   | some (.enter g args)=>zBZ (R.call g args (W1.new (.loop .ready none fn a.t a.nt ps assign body dl))) fun (e,W3)=>match e with
    | .returned _=>match W3.obj W1.sz with
     | some (.loop st pend lf lt ln lp la lb ld) =>
      match st with
      | .busy=>none
      | _=>match pend with
       | none=>some [(.normal,{ a with defers:=zFA++a.defers },W3.upd W1.sz (.loop .exhausted pend lf lt ln lp la lb ld))]
       | some .ret=>some [(.ret,{ a with defers:=zFA++a.defers },W3.upd W1.sz (.loop .exhausted pend lf lt ln lp la lb ld))]
       | some (.exit id)=>some [(.exit id,{ a with defers:=zFA++a.defers },W3.upd W1.sz (.loop .exhausted pend lf lt ln lp la lb ld))]
       | _=>none
     | _=>none
    | .panicked ch=>some [(.panic ch,{ a with defers:=zFA++a.defers },W3)]
    | _=>none
   | _=>none
 | _=>none
def zBS (R:CRec) (ops:Array Oper):List Oper→CAct→FrameMode→CW→Option (List (Exit × CAct × FrameMode × CW))
 | [],a,u,W=>some [(.normal,a,u,W)]
 | o::rest,a,u,W =>
  match zBT ops o a with
  | true=>zBZ (cop P o a.eval W) fun (n,W)=>match n with
    | .value v=>zBS R ops rest (a.put o.dst v) u W
    | .skip=>zBS R ops rest (a.put o.dst undef) u W
    | .recover=>match u with
     | .panicking ({ v,recovered:=false,goexit:=false }::older)=>zBS R ops rest (a.put o.dst v) (.panicking ({ v,recovered:=true }::older)) W
     | _=>zBS R ops rest (a.put o.dst .nilIface) u W
    | .panic v=>some [(.panic [{ v,recovered:=false }],a,u,W)]
    | _=>none
  | false=>zBS R ops rest (a.put o.dst undef) u W
def evS (R:CRec) (fn:FuncId):Code→CAct→FrameMode→CW→Option (List (Exit × CAct × FrameMode × CW))
 | .region _ ops false,a,u,W=>zBS P R ops ops.toList a u W
 | .seq x y,a,u,W=>zBZ (evS R fn x a u W) fun (e,a,u,W)=>match e with
  | .normal=>evS R fn y a u W
  | e=>some [(e,a,u,W)]
 | .cond c x y,a,u,W=>match a.eval c with
  | .bool true=>evS R fn x a u W
  | .bool false=>evS R fn y a u W
  | _=>none
 | c,a,u,W=>zBZ (R.code none fn c a W) fun (e,a,W)=>some [(e,a,u,W)]
def zRX (l:Nat) (j:Option Code) (W:CW):zRv :=
 match W.obj l with
 | some (.loop _ _ f t nt ps assign body ld)=>some [(.returned (.bool j.isNone),W.upd l (.loop (match j with | none=>.ready | some _=>.done) j f t nt ps assign body ld))]
 | _=>none
def zDc (fn:Func) (args:List Value):CAct:=⟨Tr.nil.putFrom 0 args,fn.ntmps,[]⟩
def zBD (L:List FuncId) (R:CRec):CRec where
 eqv:=R.eqv
 code:=zAv P R
 call f args W:=cond (!zB1 L f) none <| (fun r=>cond (zB1 L (f+2000000) && args.isEmpty) (some [(.returned (.bool true),W)]) r) <| (fun r=>cond (zB1 L (f+1000000)) (zCs r) r) <|
  match P.funcs[f]? with
  | some fn=>match fn.body with
   | some c=>cond (Nat.ble args.length fn.ntmps) (zBZ (R.code none f c (zDc fn args) W) fun (e,a,W) =>
    match e with
    | .normal=>zA0 P R fn a a.defers .returning W
    | .ret=>zA0 P R fn a a.defers .returning W
    | .panic ch=>cond a.isBad (zCw a.defers ch W) (zA0 P R fn a a.defers (.panicking ch) W)
    | _=>none) none
   | _=>none
  | _=>none
 dcall f args u W:=cond (!zB1 L f) none <|
  match P.funcs[f]? with
  | some fn=>match fn.body with
   | some c=>cond (Nat.ble args.length fn.ntmps) (zBZ (evS P R f c (zDc fn args) u W) fun (e,a,u,W) =>
    cond a.defers.isEmpty (match e with
    | .normal=>match zCj P fn a W with
     | some v=>some [(.returned v,u,W)]
     | none=>none
    | .ret=>match zCj P fn a W with
     | some v=>some [(.returned v,u,W)]
     | none=>none
    | _=>none) none) none
   | _=>none
  | _=>none
 round l args W :=
  match W.obj l with
  | some (.loop .ready _ f t nt ps assign body _) =>
   cond (Nat.beq args.length ps.size) (zBZ (R.code (some l) f assign ⟨(ps.toList.zip args).foldl (fun t (p:Tmp × Value)=>t.set p.1 p.2) t,nt,[]⟩ W) fun (e,a,W)=>match e with
    | .normal=>match W.obj l with
     | some (.loop .ready pend f t nt ps assign2 body2 ld) =>
      zBZ (R.code (some l) f body a (W.upd l (.loop .busy pend f t nt ps assign2 body2 ld))) fun (e,a,W)=>match e with
       | .normal=>zRX l none W
       | .ret=>zRX l (some .ret) W
       | .exit id=>zRX l (some (.exit id)) W
       | .panic ch=>cond a.defers.isEmpty (some [(.panicked ch,W)]) none
       | _=>none
     | _=>none
    | _=>none) none
  | _=>none
def evB (eqv:Value→Value→Bool) (L:List FuncId):Nat→CRec:=fun n=>Nat.rec (CRec.base eqv) (fun _ ih=>zBD P L ih) n
def evN (L:List FuncId):Nat→CRec:=evB P (veq 8) L
def evR (L:List FuncId):Nat→CRec
 | 0=>CRec.base (veq 8)
 | n+1=>zBD P L (evR L n)
def zNb (L:List FuncId):Bool:=L.all fun f=>match P.funcs[f]? with
 | some fn=>match fn.body with
  | some c=>zBA P fn.ntmps false c
  | none=>true
 | none=>true
end
def W0 (g:Nat):CW:=⟨.nil,g⟩
def zG8:zRv→Bool
 | some l=>l.all fun (e,_)=>match e with | .returned (.bool true)=>true | _=>false
 | none=>false
@[noinline] def cnt (P:Program) (f:Nat) (L:List Nat:=List.range 300) (g:Nat:=0):String:=match (evR P L 6000).call f [] (W0 g) with
 | some l=>s!"outcomes {l.length}: "++String.join ((l.take 3).map fun (e,W)=>s!"blocks {W.sz} {match e with | .returned (.bool b) => toString b | .panicked _ => "pan" | _ => "?"}; ")
 | none=>"none"
end Go.Ce
namespace Go.Ce
open Go.RowKit (Below)
theorem Tr.get_nil {α:Type} (i:Nat):(Tr.nil:Tr α).get i=none:=rfl
theorem Tr.get_node {α:Type} (l:Tr α) (v:Option α) (r:Tr α) (i:Nat) :
  (Tr.node l v r).get i=if i=0 then v else if i % 2=1 then l.get (i / 2) else r.get (i / 2-1):=by
 simp only [Tr.get,cond_eq_ite,Nat.beq_eq]
theorem Tr.get_setF {α:Type} (f:Nat):∀ (t:Tr α) (i:Nat) (x:α) (j:Nat),i<f→(Tr.setF f t i x).get j=if j=i then some x else t.get j:=by
 induction f with
 | zero=>intro t i x j h; omega
 | succ f ih =>
  intro t i x j h; have h1:i≠0→i / 2<f:=by omega
  have h2:i≠0→i / 2-1<f:=by omega
  cases t with
  | nil =>
   simp only [Tr.setF,cond_eq_ite,Nat.beq_eq]
   by_cases hi:i=0
   ·subst hi; simp only [if_true,Tr.get_node,Tr.get_nil]
    by_cases hj:j=0
    ·simp [hj]
    ·simp [hj]
   ·rw [if_neg hi]
    by_cases hm:i % 2=1
    ·rw [if_pos hm,Tr.get_node,ih _ _ _ _ (h1 hi)]
     by_cases hj:j=0
     ·simp [hj,Tr.get_nil]; omega
     ·rw [if_neg hj]
      by_cases hjm:j % 2=1
      ·rw [if_pos hjm]
       by_cases e:j=i
       ·simp [e]
       ·rw [if_neg (by omega),if_neg e]; rfl
      ·rw [if_neg hjm,if_neg (by omega)]; rfl
    ·rw [if_neg hm,Tr.get_node,ih _ _ _ _ (h2 hi)]
     by_cases hj:j=0
     ·simp [hj,Tr.get_nil]; omega
     ·rw [if_neg hj]
      by_cases hjm:j % 2=1
      ·rw [if_pos hjm,if_neg (by omega)]; rfl
      ·rw [if_neg hjm]
       by_cases e:j=i
       ·simp [e]
       ·rw [if_neg (by omega),if_neg e]; rfl
  | node l v r =>
   simp only [Tr.setF,cond_eq_ite,Nat.beq_eq]
   by_cases hi:i=0
   ·subst hi; simp only [if_true,Tr.get_node]
    by_cases hj:j=0
    ·simp [hj]
    ·simp [hj]
   ·rw [if_neg hi]
    by_cases hm:i % 2=1
    ·rw [if_pos hm,Tr.get_node,ih _ _ _ _ (h1 hi),Tr.get_node]
     by_cases hj:j=0
     ·simp [hj]; omega
     ·rw [if_neg hj,if_neg hj]
      by_cases hjm:j % 2=1
      ·rw [if_pos hjm,if_pos hjm]
       by_cases e:j=i
       ·simp [e]
       ·rw [if_neg (by omega),if_neg e]
      ·rw [if_neg hjm,if_neg hjm,if_neg (by omega)]
    ·rw [if_neg hm,Tr.get_node,ih _ _ _ _ (h2 hi),Tr.get_node]
     by_cases hj:j=0
     ·simp [hj]; omega
     ·rw [if_neg hj,if_neg hj]
      by_cases hjm:j % 2=1
      ·rw [if_pos hjm,if_pos hjm,if_neg (by omega)]
      ·rw [if_neg hjm,if_neg hjm]
       by_cases e:j=i
       ·simp [e]
       ·rw [if_neg (by omega),if_neg e]
theorem Tr.get_set {α:Type} (t:Tr α) (i:Nat) (x:α) (j:Nat):(t.set i x).get j=if j=i then some x else t.get j :=
 Tr.get_setF _ _ _ _ _ (by omega)
theorem Tr.get_putFrom {α:Type} (xs:List α):∀ (t:Tr α) (k j:Nat),(t.putFrom k xs).get j=if k≤j∧j<k+xs.length then xs[j-k]? else t.get j:=by
 induction xs with
 | nil=>intro t k j; simp only [Tr.putFrom,List.length_nil,Nat.add_zero]; rw [if_neg (by omega)]
 | cons x xs ih =>
  intro t k j; simp only [Tr.putFrom,ih,Tr.get_set,List.length_cons]
  by_cases h:k+1≤j∧j<k+1+xs.length
  ·rw [if_pos h,if_pos (by omega)]; obtain ⟨m,rfl⟩:∃ m,j=k+(m+1):=⟨j-k-1,by omega⟩
   have e1:k+(m+1)-(k+1)=m:=by omega
   have e2:k+(m+1)-k=m+1:=by omega
   rw [e1,e2]; rfl
  ·rw [if_neg h]
   by_cases e:j=k
   ·subst e; simp
   ·rw [if_neg e,if_neg (by omega)]
structure Info where
 b:Nat
 o:Nat
 sz:Nat
 n:Nat
 n':Nat
abbrev Ren:=Nat→Option Info
def Ext (ρ ρ':Ren):Prop:=∀ i x,ρ i=some x→ρ' i=some x
theorem Ext.refl (ρ:Ren):Ext ρ ρ:=fun _ _ h=>h
theorem Ext.trans {ρ ρ' ρ'':Ren} (h:Ext ρ ρ') (k:Ext ρ' ρ''):Ext ρ ρ'':=fun i x e=>k i x (h i x e)
def ARel (ρ:Ren) (a a':Addr):Prop:=a.spot=none∧∃ x,ρ a.block=some x∧a'=⟨x.b,a.off+x.o,none⟩
def BRel (ρ:Ren) (r r':Nat):Prop:=∃ x,ρ r=some x∧r'=x.b
def CapRel (ρ:Ren) (a:Addr) (c c':Nat):Prop:=c'=c∨∃ x,ρ a.block=some x∧0<x.sz∧a.off+c*x.sz=x.n∧a.off+x.o+c'*x.sz=x.n'∧c≤c'
inductive FnRel (ρ:Ren):Fn→Fn→Prop
 | func (f:FuncId):FnRel ρ (.func f) (.func f)
 | yield {l l':Nat}:BRel ρ l l'→FnRel ρ (.yield l) (.yield l')
 | method (s:String):FnRel ρ (.method s) (.method s)
 | methodOf (t:TypeId) (s:String):FnRel ρ (.methodOf t s) (.methodOf t s)
 | via (t:TypeId) (p:Array FieldStep) (f:FuncId) (b:Bool):FnRel ρ (.via t p f b) (.via t p f b)
inductive VRel (ρ:Ren):Value→Value→Prop
 | bool (b:Bool):VRel ρ (.bool b) (.bool b)
 | int (k:IntKind) (n:Int):VRel ρ (.int k n) (.int k n)
 | float (k:FloatKind) (n:Nat):VRel ρ (.float k n) (.float k n)
 | complex (k:FloatKind) (n m:Nat):VRel ρ (.complex k n m) (.complex k n m)
 | string (s:ByteArray):VRel ρ (.string s) (.string s)
 | pnil:VRel ρ (.pointer none) (.pointer none)
 | ptr {a a':Addr}:ARel ρ a a'→VRel ρ (.pointer (some a)) (.pointer (some a'))
 | snil (n c:Nat):VRel ρ (.slice none n c) (.slice none n c)
 | slice {a a':Addr} (n:Nat) {c c':Nat}:ARel ρ a a'→CapRel ρ a c c'→VRel ρ (.slice (some a) n c) (.slice (some a') n c')
 | slice00 {a a':Addr}:a.spot=some 0→VRel ρ (.slice (some a) 0 0) (.slice (some a') 0 0)
 | slice0 {a a':Addr} {c':Nat} {x:Info}:a.spot=none→ρ a.block=some x→a'.block=x.b→a'.spot=none→(c'=0∨(0<x.sz∧a'.off+c'*x.sz=x.n'))→VRel ρ (.slice (some a) 0 0) (.slice (some a') 0 c')
 | mnil:VRel ρ (.map none) (.map none)
 | map {r r':Nat}:BRel ρ r r'→VRel ρ (.map (some r)) (.map (some r'))
 | cnil:VRel ρ (.chan none) (.chan none)
 | func {f f':Fn} {x x' y y':Array Value}:FnRel ρ f f'→x.size=x'.size→(∀ i,i<x.size→VRel ρ (x.getD i undef) (x'.getD i undef)) →
   y.size=y'.size→(∀ i,i<y.size→VRel ρ (y.getD i undef) (y'.getD i undef))→VRel ρ (.func f x y) (.func f' x' y')
 | nilFunc:VRel ρ .nilFunc .nilFunc
 | iface (t:TypeId) {v v':Value}:VRel ρ v v'→VRel ρ (.iface t v) (.iface t v')
 | nilIface:VRel ρ .nilIface .nilIface
 | agg {x x':Array Value}:x.size=x'.size→(∀ i,i<x.size→VRel ρ (x.getD i undef) (x'.getD i undef))→VRel ρ (.agg x) (.agg x')
 | tuple {x x':Array Value}:x.size=x'.size→(∀ i,i<x.size→VRel ρ (x.getD i undef) (x'.getD i undef))→VRel ρ (.tuple x) (.tuple x')
theorem ARel.mono {ρ ρ':Ren} {a a':Addr} (h:ARel ρ a a') (e:Ext ρ ρ'):ARel ρ' a a' :=
 ⟨h.1,let ⟨x,hx,h'⟩:=h.2; ⟨x,e _ _ hx,h'⟩⟩
theorem BRel.mono {ρ ρ':Ren} {a a':Nat} (h:BRel ρ a a') (e:Ext ρ ρ'):BRel ρ' a a':=let ⟨x,hx,h'⟩:=h; ⟨x,e _ _ hx,h'⟩
theorem CapRel.mono {ρ ρ':Ren} {a:Addr} {c c':Nat} (h:CapRel ρ a c c') (e:Ext ρ ρ'):CapRel ρ' a c c' :=
 h.imp id fun ⟨x,hx,h'⟩=>⟨x,e _ _ hx,h'⟩
theorem FnRel.mono {ρ ρ':Ren} {f f':Fn} (h:FnRel ρ f f') (e:Ext ρ ρ'):FnRel ρ' f f':=by
 cases h with
 | yield h=>exact .yield (h.mono e)
 | func f=>exact .func f
 | method s=>exact .method s
 | methodOf t s=>exact .methodOf t s
 | via t p f b=>exact .via t p f b
theorem VRel.mono {ρ ρ':Ren} {v v':Value} (h:VRel ρ v v') (e:Ext ρ ρ'):VRel ρ' v v':=by
 induction h with
 | bool b=>exact .bool b
 | int k n=>exact .int k n
 | float k n=>exact .float k n
 | complex k n m=>exact .complex k n m
 | string s=>exact .string s
 | pnil=>exact .pnil
 | ptr h=>exact .ptr (h.mono e)
 | snil n c=>exact .snil n c
 | slice n h h'=>exact .slice n (h.mono e) (h'.mono e)
 | slice00 a=>exact .slice00 a
 | slice0 q a b c d=>exact .slice0 q (e _ _ a) b c d
 | mnil=>exact .mnil
 | map h=>exact .map (h.mono e)
 | cnil=>exact .cnil
 | func hf hx _ hy _ ihx ihy=>exact .func (hf.mono e) hx ihx hy ihy
 | nilFunc=>exact .nilFunc
 | iface t _ ih=>exact .iface t ih
 | nilIface=>exact .nilIface
 | agg hx _ ih=>exact .agg hx ih
 | tuple hx _ ih=>exact .tuple hx ih
theorem VRel.undef (ρ:Ren):VRel ρ undef undef:=.tuple rfl fun i h=>by simp at h
theorem VRel.of_plain (ρ:Ren):∀ (n:Nat) (v:Value),zCp n v=true→VRel ρ v v:=by
 intro n
 induction n with
 | zero=>intro v h; simp [zCp] at h
 | succ n ih =>
  intro v h
  have all:∀ x:Array Value,x.toList.all (zCp n)=true→∀ i,i<x.size→VRel ρ (x.getD i Go.undef) (x.getD i Go.undef):=by
   intro x hx i hi; rw [List.all_eq_true] at hx; have e:x.getD i Go.undef=x[i]:=by simp [Array.getD,hi]
   rw [e]; exact ih _ (hx _ (by simp))
  cases v with
  | bool b=>exact .bool b
  | int k m=>exact .int k m
  | float k m=>exact .float k m
  | complex k m l=>exact .complex k m l
  | string s=>exact .string s
  | pointer a=>cases a with
   | none=>exact .pnil
   | some a=>simp [zCp] at h
  | slice a l c=>cases a with
   | none=>exact .snil l c
   | some a=>simp [zCp] at h
  | map r=>cases r with
   | none=>exact .mnil
   | some a=>simp [zCp] at h
  | chan r=>cases r with
   | none=>exact .cnil
   | some a=>simp [zCp] at h
  | func f x y=>simp [zCp] at h
  | nilFunc=>exact .nilFunc
  | iface t v=>exact .iface t (ih v (by simpa only [zCp] using h))
  | nilIface=>exact .nilIface
  | agg x=>exact .agg rfl (all x (by simpa only [zCp] using h))
  | tuple x=>exact .tuple rfl (all x (by simpa only [zCp] using h))
theorem VRel.one {ρ:Ren} {v v':Value} (h:VRel ρ v v'):zAg v'=zAg v:=by cases h <;> rfl
def LRel (ρ:Ren) (xs ys:List Value):Prop:=xs.length=ys.length∧∀ i,i<xs.length→VRel ρ (xs.getD i undef) (ys.getD i undef)
theorem LRel.nil (ρ:Ren):LRel ρ [] []:=⟨rfl,fun i h=>by simp at h⟩
theorem LRel.cons {ρ:Ren} {x y:Value} {xs ys:List Value} (h:VRel ρ x y) (k:LRel ρ xs ys):LRel ρ (x::xs) (y::ys) :=
 ⟨by simp [k.1],fun i hi=>by
  cases i with
  | zero=>exact h
  | succ i=>exact k.2 i (by simpa using hi)⟩
theorem LRel.head {ρ:Ren} {x y:Value} {xs ys:List Value} (h:LRel ρ (x::xs) (y::ys)):VRel ρ x y:=h.2 0 (by simp)
theorem LRel.tail {ρ:Ren} {x y:Value} {xs ys:List Value} (h:LRel ρ (x::xs) (y::ys)):LRel ρ xs ys :=
 ⟨by simpa using h.1,fun i hi=>h.2 (i+1) (by simpa using hi)⟩
theorem LRel.mono {ρ ρ':Ren} {xs ys:List Value} (h:LRel ρ xs ys) (e:Ext ρ ρ'):LRel ρ' xs ys:=⟨h.1,fun i hi=>(h.2 i hi).mono e⟩
theorem LRel.append {ρ:Ren} {xs ys xs' ys':List Value} (h:LRel ρ xs ys) (k:LRel ρ xs' ys'):LRel ρ (xs++xs') (ys++ys'):=by
 induction xs generalizing ys with
 | nil=>cases ys with
  | nil=>exact k
  | cons y ys=>simpa using h.1
 | cons x xs ih=>cases ys with
  | nil=>simpa using h.1
  | cons y ys=>exact .cons h.head (ih h.tail)
theorem LRel.map {ρ:Ren} {α:Type} (xs:List α) (f g:α→Value) (h:∀ x,x ∈ xs→VRel ρ (f x) (g x)):LRel ρ (xs.map f) (xs.map g):=by
 induction xs with
 | nil=>exact .nil ρ
 | cons x xs ih=>exact .cons (h x (by simp)) (ih fun y hy=>h y (by simp [hy]))
theorem LRel.get {ρ:Ren} {xs ys:List Value} (h:LRel ρ xs ys) {i:Nat} {x:Value} (hx:xs[i]?=some x):∃ y,ys[i]?=some y∧VRel ρ x y:=by
 obtain ⟨hi,e⟩:=List.getElem?_eq_some_iff.1 hx; have hi':i<ys.length:=h.1 ▸ hi; refine ⟨ys[i],by simp [hi'],?_⟩; have:=h.2 i hi; simp only [List.getD_eq_getElem?_getD,hx,List.getElem?_eq_getElem hi',Option.getD_some] at this; exact this
theorem LRel.arr {ρ:Ren} {x x':Array Value}:LRel ρ x.toList x'.toList↔(x.size=x'.size∧∀ i,i<x.size→VRel ρ (x.getD i undef) (x'.getD i undef)):=by
 unfold LRel; simp only [Array.length_toList,Array.getD_eq_getD_getElem?,List.getD_eq_getElem?_getD,Array.getElem?_toList]
theorem VRel.agg' {ρ:Ren} {x x':Array Value} (h:LRel ρ x.toList x'.toList):VRel ρ (.agg x) (.agg x'):=.agg (LRel.arr.1 h).1 (LRel.arr.1 h).2
theorem VRel.tuple' {ρ:Ren} {x x':Array Value} (h:LRel ρ x.toList x'.toList):VRel ρ (.tuple x) (.tuple x'):=.tuple (LRel.arr.1 h).1 (LRel.arr.1 h).2
theorem VRel.agg_inv {ρ:Ren} {x:Array Value} {v:Value} (h:VRel ρ (.agg x) v):∃ x',v=.agg x'∧LRel ρ x.toList x'.toList:=by
 cases h with | agg e k=>exact ⟨_,rfl,LRel.arr.2 ⟨e,k⟩⟩
theorem VRel.tuple_inv {ρ:Ren} {x:Array Value} {v:Value} (h:VRel ρ (.tuple x) v):∃ x',v=.tuple x'∧LRel ρ x.toList x'.toList:=by
 cases h with | tuple e k=>exact ⟨_,rfl,LRel.arr.2 ⟨e,k⟩⟩
theorem VRel.cells {ρ:Ren} {v v':Value} (h:VRel ρ v v'):LRel ρ v.cells.toList v'.cells.toList:=by
 cases h <;> first
  | exact .cons (by first | (constructor <;> assumption) | (apply VRel.slice0 <;> assumption) | (apply VRel.slice00 <;> assumption)) (.nil ρ)
  | (rename_i e k; exact LRel.arr.2 ⟨e,k⟩)
end Go.Ce
namespace Go.Ce
open Go.RowKit (Below)
inductive ERel (ρ:Ren):MapEntry→MapEntry→Prop
 | mk {k v k' v':Value} (b:Nat):VRel ρ k k'→VRel ρ v v'→ERel ρ ⟨k,v,b⟩ ⟨k',v',b⟩
def ELRel (ρ:Ren):List MapEntry→List MapEntry→Prop
 | [],[]=>True
 | e::es,e'::es'=>ERel ρ e e'∧ELRel ρ es es'
 | _,_=>False
theorem ERel.mono {ρ ρ':Ren} {e e':MapEntry} (h:ERel ρ e e') (x:Ext ρ ρ'):ERel ρ' e e':=by
 cases h with | mk b hk hv=>exact .mk b (hk.mono x) (hv.mono x)
theorem ELRel.mono {ρ ρ':Ren} (x:Ext ρ ρ'):∀ {es es':List MapEntry},ELRel ρ es es'→ELRel ρ' es es'
 | [],[],_=>trivial
 | _::_,_::_,h=>⟨h.1.mono x,ELRel.mono x h.2⟩
 | [],_::_,h=>h.elim
 | _::_,[],h=>h.elim
def NF (fr:Nat × Nat) (n:Nat):Prop:=∀ k,k<n→(decide (fr.1≤k) && decide (k<fr.2))=false
theorem NF.zero (n:Nat):NF (0,0) n:=fun k _=>by simp
inductive ORel (P:Program) (ρ:Ren) (x:Info):CObj→Obj→Prop
 | cells {c:Tr Value} {z:Array Value} {e:TypeId} {c':Array Value} {fr:Nat × Nat}:(P.info? e).map (·.size)=some x.sz→c'.size=x.n'→x.o+x.n≤x.n' →
   (∀ k,k<x.n→VRel ρ (zBh c z k) (c'.getD (k+x.o) undef))→(NF fr c'.size∧(z.size≠0→x.o=0∧x.n=x.n'))→ORel P ρ x (.cells c x.n z e) (.cells c' e fr)
 | fixed {f:Nat→Value} {e e':TypeId} {c':Array Value} {fr:Nat × Nat}:(P.info? e).map (·.size)=some x.sz→c'.size=x.n'→x.o+x.n≤x.n' →
   (∀ k,k<x.n→VRel ρ (f k) (c'.getD (k+x.o) undef))→ORel P ρ x (.fixed f x.n e) (.cells c' e' fr)
 | map {es:List MapEntry} {es':Array MapEntry} {clk:Nat}:x.o=0→ELRel ρ es es'.toList→ORel P ρ x (.map es clk) (.map es' clk)
 | iterNone {s l:Nat} {seen:List Nat} {seen':Array Nat}:x.o=0→ORel P ρ x (.iter none s seen l) (.mapIter none s seen' l)
 | iter {m m' s l:Nat} {seen:List Nat}:x.o=0→BRel ρ m m'→ORel P ρ x (.iter (some m) s seen l) (.mapIter (some m') s seen.toArray l)
 | loop {st:LoopState} {pd:Option Code} {f f':FuncId} {t:Tr Value} {t':Array Value} {ps:Array Tmp} {as bd:Code} {d d':Nat} :
   (∀ i,VRel ρ ((t.get i).getD undef) (t'.getD i undef))→BRel ρ d d'→(zYT t'.size ps=true∧zBA P t'.size true as=true∧zBA P t'.size true bd=true)→(∃ fn,P.funcs[f']?=some fn) →
   ORel P ρ x (.loop st pd f t t'.size ps as bd d) (.loop { state:=st,pending:=pd,fn:=f',tmps:=t',params:=ps,assign:=as,body:=bd,defers:=d' })
 | deferred:ORel P ρ x .deferred (.deferred (some []))
theorem ORel.mono {P:Program} {ρ ρ':Ren} {x:Info} {o:CObj} {o':Obj} (h:ORel P ρ x o o') (e:Ext ρ ρ'):ORel P ρ' x o o':=by
 cases h with
 | cells a b c d q=>exact .cells a b c (fun k hk=>(d k hk).mono e) q
 | fixed a b c d=>exact .fixed a b c fun k hk=>(d k hk).mono e
 | map a b=>exact .map a (b.mono e)
 | iterNone a=>exact .iterNone a
 | iter a b=>exact .iter a (b.mono e)
 | loop a b c d=>exact .loop (fun i=>(a i).mono e) (b.mono e) c d
 | deferred=>exact .deferred
structure WRel (P:Program) (w0:World) (ρ:Ren) (W:CW) (w:World):Prop where
 dom:∀ i x,ρ i=some x→i<W.sz
 top:∀ i o,W.h.get i=some o→i<W.sz
 live:∀ i o x,W.h.get i=some o→o≠.dead→ρ i=some x→∃ o',w.heap[x.b]?=some o'∧ORel P ρ x o o'∧(o.mut=true→w0.heap.size≤x.b)∧(o.mut=false→x.b<w0.heap.size)
 inj:∀ i j o u x y,W.h.get i=some o→o.mut=true→W.h.get j=some u→u.mut=true→ρ i=some x→ρ j=some y→x.b=y.b→i=j
 below:Below w0.heap.size w0 w
section
variable {P:Program} {w0:World} {ρ:Ren} {W:CW} {w:World}
theorem WRel.drew (h:WRel P w0 ρ W w) (n:Nat):WRel P w0 ρ W { w with drawn:=n } :=
 ⟨h.dom,h.top,h.live,h.inj,⟨h.below.os,h.below.tape,h.below.output,h.below.size,h.below.block⟩⟩
theorem WRel.obj (h:WRel P w0 ρ W w) {i:Nat} {o:CObj} (ho:W.obj i=some o) (hd:o≠.dead) {a':Nat} {x:Info} (hx:ρ i=some x) (hb:a'=x.b) :
  ∃ o',w.heap[a']?=some o'∧ORel P ρ x o o':=by
 obtain ⟨o',ho',hr,_⟩:=h.live i o x ho hd hx; subst hb; exact ⟨o',ho',hr⟩
def Grow (W:CW) (ρ:Ren) (W1:CW) (ρ':Ren):Prop:=Ext ρ ρ'∧(∀ i,i<W.sz→ρ' i=ρ i)∧W.sz≤W1.sz
theorem Grow.refl {W W1:CW} (ρ:Ren) (h:W.sz≤W1.sz:=by exact Nat.le_refl _):Grow W ρ W1 ρ:=⟨Ext.refl ρ,fun _ _=>rfl,h⟩
theorem Grow.ext {W W1:CW} {ρ ρ':Ren} (h:Grow W ρ W1 ρ'):Ext ρ ρ':=h.1
theorem Grow.trans {W W1 W2:CW} {ρ ρ' ρ'':Ren} (h:Grow W ρ W1 ρ') (k:Grow W1 ρ' W2 ρ''):Grow W ρ W2 ρ'' :=
 ⟨h.1.trans k.1,fun i hi=>by rw [k.2.1 i (Nat.lt_of_lt_of_le hi h.2.2),h.2.1 i hi],Nat.le_trans h.2.2 k.2.2⟩
theorem CObj.mut_ne {o:CObj} (h:o.mut=true):o≠.dead:=by rintro rfl; cases h
theorem WRel.new (h:WRel P w0 ρ W w) {o:CObj} {o':Obj} (x:Info) (hb:x.b=w.heap.size)
  (hr:ORel P (fun i=>if i=W.sz then some x else ρ i) x o o') (hm:o.mut=true:=by rfl) :
  Grow W ρ (W.new o) (fun i=>if i=W.sz then some x else ρ i)∧WRel P w0 (fun i=>if i=W.sz then some x else ρ i) (W.new o) { w with heap:=w.heap.push o' }:=by
 have hext:Ext ρ (fun i=>if i=W.sz then some x else ρ i):=fun i y hy=>by
  have:=h.dom i y hy; show (if i=W.sz then some x else ρ i)=some y; rw [if_neg (by omega)]; exact hy
 have hw0:w0.heap.size≤w.heap.size:=h.below.size
 have hold:∀ i u y,W.h.get i=some u→u≠.dead→ρ i=some y→y.b<w.heap.size:=fun i u y hu hd hy=>by
  obtain ⟨o',ho',_,_⟩:=h.live i u y hu hd hy; exact (Array.getElem?_eq_some_iff.1 ho').1
 refine ⟨⟨hext,fun i hi=>by show (if i=W.sz then some x else ρ i)=ρ i; rw [if_neg (by omega)],Nat.le_succ _⟩,?_,?_,?_,?_,?_⟩
 ·intro i y hy; show i<W.sz+1
  by_cases e:i=W.sz
  ·omega
  ·have:ρ i=some y:=by simpa [e] using hy
   have:=h.dom i y this; omega
 ·intro i u hu; show i<W.sz+1; simp only [CW.new,Tr.get_set] at hu
  split at hu
  ·omega
  ·have:=h.top i u hu; omega
 ·intro i u y hu hd hy; simp only [CW.new,Tr.get_set] at hu
  split at hu
  ·rename_i e
   cases hu
   have hy:some x=some y:=by simpa [e] using hy
   cases hy
   refine ⟨o',?_,hr,fun _=>by omega,fun hf=>by rw [hm] at hf; cases hf⟩; show (w.heap.push o')[x.b]?=_; rw [hb]; simp
  ·rename_i e; have hy:ρ i=some y:=by simpa [e] using hy
   obtain ⟨u',hu',hru,hfr⟩:=h.live i u y hu hd hy; refine ⟨u',?_,hru.mono hext,hfr⟩; have hlt:=(Array.getElem?_eq_some_iff.1 hu').1; show (w.heap.push o')[y.b]?=_; rw [Array.getElem?_push,if_neg (by omega)]; exact hu'
 ·intro i j u v y z hu hud hv hvd hy hz hyz; simp only [CW.new,Tr.get_set] at hu hv
  by_cases ei:i=W.sz
  ·by_cases ej:j=W.sz
   ·omega
   ·simp only [if_neg ej] at hv hz; simp only [if_pos ei,Option.some.injEq] at hy; have hlt:=hold j v z hv (CObj.mut_ne hvd) hz; subst hy; omega
  ·simp only [if_neg ei] at hu hy
   by_cases ej:j=W.sz
   ·simp only [if_pos ej,Option.some.injEq] at hz; have hlt:=hold i u y hu (CObj.mut_ne hud) hy; subst hz; omega
   ·simp only [if_neg ej] at hv hz; exact h.inj i j u v y z hu hud hv hvd hy hz hyz
 ·exact ⟨h.below.os,h.below.tape,h.below.output,by show w0.heap.size≤(w.heap.push o').size; rw [Array.size_push]; omega,fun k hk=>by
   show (w.heap.push o')[k]?=_
   rw [Array.getElem?_push,if_neg (by omega)]; exact h.below.block k hk⟩
theorem WRel.upd (h:WRel P w0 ρ W w) {i:Nat} {o u:CObj} {u':Obj} {x:Info} (ho:W.obj i=some o) (hd:o.mut=true) (hx:ρ i=some x)
  (hr:ORel P ρ x u u') (hm:u.mut=true:=by rfl):WRel P w0 ρ (W.upd i u) { w with heap:=w.heap.setIfInBounds x.b u' }:=by
 obtain ⟨o',ho',_,hfr,_⟩:=h.live i o x ho (CObj.mut_ne hd) hx; have hfr:=hfr hd; have hlt:=(Array.getElem?_eq_some_iff.1 ho').1; have hi:=h.top i o ho
 refine ⟨h.dom,?_,?_,?_,?_⟩
 ·intro j v hv; simp only [CW.upd,Tr.get_set] at hv
  split at hv
  ·show j<W.sz; omega
  ·exact h.top j v hv
 ·intro j v y hv hvd hy; simp only [CW.upd,Tr.get_set] at hv
  split at hv
  ·rename_i e
   cases hv; subst e
   rw [hx] at hy; cases hy; refine ⟨u',?_,hr,fun _=>hfr,fun hf=>by rw [hm] at hf; cases hf⟩; show (w.heap.setIfInBounds x.b u')[x.b]?=_; simp [hlt]
  ·rename_i e; obtain ⟨v',hv',hrv,hfv⟩:=h.live j v y hv hvd hy; refine ⟨v',?_,hrv,hfv⟩
   have hne:x.b≠y.b:=fun hb=>by
    cases hvm:v.mut with
    | true=>exact e (h.inj j i v o y x hv hvm ho hd hy hx hb.symm)
    | false=>have:=hfv.2 hvm; omega
   show (w.heap.setIfInBounds x.b u')[y.b]?=_; rw [Array.getElem?_setIfInBounds_ne hne]; exact hv'
 ·intro j k v v' y z hv hvd hv' hvd' hy hz hyz
  have get:∀ j v,(W.upd i u).h.get j=some v→v.mut=true→∃ v0,W.h.get j=some v0∧v0.mut=true:=fun j v hv hvd=>by
   simp only [CW.upd,Tr.get_set] at hv
   split at hv
   ·rename_i e; subst e; exact ⟨o,ho,hd⟩
   ·exact ⟨v,hv,hvd⟩
  obtain ⟨a,ha,had⟩:=get j v hv hvd; obtain ⟨b,hb,hbd⟩:=get k v' hv' hvd'; exact h.inj j k a b y z ha had hb hbd hy hz hyz
 ·exact ⟨h.below.os,h.below.tape,h.below.output,by show w0.heap.size≤(w.heap.setIfInBounds x.b u').size; rw [Array.size_setIfInBounds]; exact h.below.size,fun k hk=>by
   show (w.heap.setIfInBounds x.b u')[k]?=_
   rw [Array.getElem?_setIfInBounds_ne (by omega)]; exact h.below.block k hk⟩
end
end Go.Ce
namespace Go.Ce
open Go.RowKit (Below)
section
variable {P:Program} {w:World} {b:Nat} {c:Array Value} {e:TypeId} {fr:Nat × Nat}
theorem zKj (hb:w.heap[b]?=some (.cells c e fr)) (off:Nat):w.cell? ⟨b,off,none⟩=c[off]?:=by
 simp [World.cell?,hb]
theorem zQu (hb:w.heap[b]?=some (.cells c e fr)) (hf:NF fr c.size) (off:Nat) (h:off<c.size):w.frozen? ⟨b,off,none⟩=false:=by
 simp only [World.frozen?,hb]; exact hf off h
theorem zOx (hb:w.heap[b]?=some (.cells c e fr)) (off:Nat) (v:Value) :
  w.setCell ⟨b,off,none⟩ v={ w with heap:=w.heap.setIfInBounds b (.cells (c.setIfInBounds off v) e fr) }:=by
 have hlt:=(Array.getElem?_eq_some_iff.1 hb).1; have hv:=(Array.getElem?_eq_some_iff.1 hb).2; simp only [World.setCell,World.mk.injEq,and_self,and_true]; apply Array.ext_getElem?; intro i; rw [Array.getElem?_modify,Array.getElem?_setIfInBounds]
 by_cases h:b=i
 ·subst h; simp [hlt,hv]
 ·rw [if_neg h,if_neg h]
theorem zHQ (b off i:Nat):(⟨b,off,none⟩:Addr).add i=⟨b,off+i,none⟩:=by
 unfold Addr.add
 split
 ·rename_i h; simp [h]
 ·rfl
def zBV (c:Array Value):Nat→Nat→List Value
 | 0,_=>[]
 | m+1,k=>c.getD k undef::zBV c m (k+1)
theorem zDJ (c:Array Value):∀ m k,(zBV c m k).length=m
 | 0,_=>rfl
 | m+1,k=>by simp [zBV,zDJ c m]
theorem zGj (hb:w.heap[b]?=some (.cells c e fr)) (off:Nat):∀ (n i:Nat) (acc:Array Value),off+i+n≤c.size →
  (loadCellsFrom ⟨b,off,none⟩ i n acc).run P w=.ok (acc++(zBV c n (off+i)).toArray) w:=by
 intro n
 induction n with
 | zero=>intro i acc _; simp [loadCellsFrom,zBV]
 | succ n ih =>
  intro i acc h
  have hc:c[off+i]?=some (c.getD (off+i) undef):=by
   have:off+i<c.size:=by omega
   simp [Array.getD,this]
  simp only [loadCellsFrom,Sem.run_bind,run_load,zHQ,zKj hb,hc,Result.andThen_ok]; rw [ih (i+1) _ (by omega)]; simp only [zBV]; congr 1; apply Array.ext'; simp [Nat.add_assoc]
theorem zC4 (hb:w.heap[b]?=some (.cells c e fr)) (off n:Nat) (h:off+n≤c.size) :
  (loadCells ⟨b,off,none⟩ n).run P w=.ok (zBV c n off).toArray w:=by
 have:=zGj (P:=P) hb off n 0 #[] (by omega)
 simpa [loadCells] using this
def zCu (c:Array Value):Nat→List Value→Array Value
 | _,[]=>c
 | k,v::vs=>zCu (c.setIfInBounds k v) (k+1) vs
theorem zCk:∀ (vs:List Value) (c:Array Value) (k:Nat),(zCu c k vs).size=c.size
 | [],_,_=>rfl
 | v::vs,c,k=>by simp [zCu,zCk vs]
theorem zHm:∀ (vs:List Value) (c:Array Value) (k j:Nat),k+vs.length≤c.size →
  (zCu c k vs).getD j undef=if k≤j∧j<k+vs.length then vs.getD (j-k) undef else c.getD j undef:=by
 intro vs
 induction vs with
 | nil=>intro c k j _; simp only [zCu,List.length_nil,Nat.add_zero]; rw [if_neg (by omega)]
 | cons v vs ih =>
  intro c k j h; simp only [List.length_cons] at h; rw [zCu,ih _ _ _ (by simp; omega)]; simp only [List.length_cons]
  by_cases h1:k+1≤j∧j<k+1+vs.length
  ·rw [if_pos h1,if_pos (by omega)]; obtain ⟨m,rfl⟩:∃ m,j=k+(m+1):=⟨j-k-1,by omega⟩
   have e1:k+(m+1)-(k+1)=m:=by omega
   have e2:k+(m+1)-k=m+1:=by omega
   rw [e1,e2]; simp
  ·rw [if_neg h1]
   by_cases ej:j=k
   ·subst ej; have:j<c.size:=by omega
    simp [Array.getD_eq_getD_getElem?,this]
   ·rw [if_neg (by omega)]; simp only [Array.getD_eq_getD_getElem?]; rw [Array.getElem?_setIfInBounds_ne (by omega)]
theorem zPA {v:Value} (h:zAg v=true):v.oneCell'=true:=by cases v <;> simp_all [zAg,Value.oneCell']
theorem zB7 (off:Nat):∀ (vs:List Value) (i:Nat) (w:World) (c:Array Value),w.heap[b]?=some (.cells c e fr)→NF fr c.size→off+i+vs.length≤c.size→vs.all zAg=true →
  (storeCells ⟨b,off,none⟩ vs i).run P w=.ok () { w with heap:=w.heap.setIfInBounds b (.cells (zCu c (off+i) vs) e fr) }:=by
 intro vs
 induction vs with
 | nil =>
  intro i w c hb _ _ _; have hlt:=(Array.getElem?_eq_some_iff.1 hb).1; have hv:=(Array.getElem?_eq_some_iff.1 hb).2; simp only [storeCells,Sem.run_pure,zCu]; congr 1
  have:w.heap.setIfInBounds b (.cells c e fr)=w.heap:=by
   apply Array.ext_getElem?; intro j; rw [Array.getElem?_setIfInBounds]
   by_cases h:b=j
   ·subst h; simp [hlt,hv]
   ·rw [if_neg h]
  rw [this]
 | cons v vs ih =>
  intro i w c hb hnf h hall; simp only [List.length_cons] at h; simp only [List.all_cons,Bool.and_eq_true] at hall
  have hc:c[off+i]?=some (c.getD (off+i) undef):=by
   have:off+i<c.size:=by omega
   simp [Array.getD,this]
  have hlt:=(Array.getElem?_eq_some_iff.1 hb).1; simp only [storeCells,Sem.run_bind,zHQ]; rw [run_store P w _ v _ (zPA hall.1)]; simp only [zKj hb,hc,zQu hb hnf (off+i) (by omega),Bool.false_eq_true,if_false,Result.andThen_ok,zOx hb]; rw [ih (i+1) _ (c.setIfInBounds (off+i) v) (by simp [hlt]) (by simpa using hnf) (by simp; omega) hall.2]; simp [zCu,Nat.add_assoc]
theorem zIr (t:TypeId) (w:World):(underlying t).run P w=match P.underlying t with | some d=>.ok d w | none=>.halt (.stuck "no such type") w:=by
 simp only [underlying,Sem.run_bind,run_program,Result.andThen_ok]
 cases P.underlying t <;> rfl
theorem zAC {t:TypeId} {d:TypeDesc} (h:P.underlying t=some d) (w:World):(underlying t).run P w=.ok d w:=by rw [zIr,h]
theorem zC3 {t:TypeId} {i:TypeInfo} (h:P.info? t=some i) (w:World):(typeInfo t).run P w=.ok i w:=by
 simp only [typeInfo,Sem.run_bind,run_program,Result.andThen_ok,h]; rfl
theorem zAa {t:TypeId} {n:Nat} (h:siz P t=some n) (w:World):(sizeOf t).run P w=.ok n w:=by
 unfold siz at h
 cases hi:P.info? t with
 | none=>simp [hi] at h
 | some i=>simp only [hi,Option.map_some,Option.some.injEq] at h; simp [sizeOf,zC3 hi,h]
theorem zAe {t:TypeId} {z:Value} (h:zer P t=some z) (w:World):(zeroValue t).run P w=.ok z w:=by
 unfold zer at h
 cases hi:P.info? t with
 | none=>simp [hi] at h
 | some i =>
  simp only [hi,Option.bind_some,cond_eq_ite] at h
  split at h
  ·simp [zeroValue,zC3 hi,h]
  ·cases h
theorem zCL {t:TypeId} {x:Bool} (h:agg? P t=some x) (w:World):(isAgg t).run P w=.ok x w:=by
 unfold agg? at h
 cases hd:P.underlying t with
 | none=>simp [hd] at h
 | some d =>
  simp only [hd,Option.map_some,Option.some.injEq] at h; subst h; simp only [isAgg,Sem.run_bind,zAC hd,Result.andThen_ok]
  cases d <;> rfl
end
section
variable {P:Program} {w0:World} {ρ:Ren} {W:CW} {w:World}
theorem zEd (c:Array Value):∀ (m k i:Nat),i<m→(zBV c m k).getD i undef=c.getD (k+i) undef
 | 0,_,_,h=>by omega
 | m+1,k,0,_=>by simp [zBV]
 | m+1,k,i+1,h=>by
  have:=zEd c m (k+1) i (by omega); simp only [zBV,List.getD_cons_succ,this]; congr 1; omega
theorem zCP (c:Tr Value) (z:Array Value):∀ (m k i:Nat),i<m→(zAh c z m k).getD i undef=zBh c z (k+i)
 | 0,_,_,h=>by omega
 | m+1,k,0,_=>by simp [zAh]
 | m+1,k,i+1,h=>by
  have:=zCP c z m (k+1) i (by omega); simp only [zAh,List.getD_cons_succ,this]; congr 1; omega
theorem zAV (c:Tr Value) (z:Array Value):∀ m k,(zAh c z m k).length=m
 | 0,_=>rfl
 | m+1,k=>by simp [zAh,zAV c z m]
theorem zNw {c:Tr Value} {z:Array Value} {c':Array Value} {n o:Nat} (h:∀ k,k<n→VRel ρ (zBh c z k) (c'.getD (k+o) undef)) (m k:Nat) (hm:k+m≤n) :
  LRel ρ (zAh c z m k) (zBV c' m (k+o)):=by
 refine ⟨by rw [zAV,zDJ],fun i hi=>?_⟩; rw [zAV] at hi; rw [zCP _ _ _ _ _ hi,zEd _ _ _ _ hi]; have:=h (k+i) (by omega); have e:k+i+o=k+o+i:=by omega
 rwa [e] at this
theorem zJo (c:Tr Value) (z:Array Value) (vs:List Value) (k j:Nat) :
  zBh (c.putFrom k vs) z j=if k≤j∧j<k+vs.length then vs.getD (j-k) undef else zBh c z j:=by
 unfold zBh; rw [Tr.get_putFrom]
 by_cases h:k≤j∧j<k+vs.length
 ·rw [if_pos h,if_pos h]; have:j-k<vs.length:=by omega
  simp [List.getD_eq_getElem?_getD,this]
 ·rw [if_neg h,if_neg h]
theorem ORel.write {fr:Nat × Nat} {x:Info} {c:Tr Value} {z:Array Value} {e:TypeId} {c':Array Value} {n:Nat} (h:ORel P ρ x (.cells c n z e) (.cells c' e fr)) {vs vs':List Value} (hv:LRel ρ vs vs') {k:Nat}
  (hk:k+vs.length≤n):ORel P ρ x (.cells (c.putFrom k vs) n z e) (.cells (zCu c' (k+x.o) vs') e fr):=by
 cases h with
 | cells he hs ho hc hq =>
  refine .cells he (by rw [zCk]; exact hs) ho (fun j hj=>?_) (by rw [zCk]; exact hq); rw [zJo,zHm _ _ _ _ (by rw [←hv.1]; omega),←hv.1]
  by_cases h:k≤j∧j<k+vs.length
  ·rw [if_pos h,if_pos (by omega)]; have e:j+x.o-(k+x.o)=j-k:=by omega
   rw [e]; exact hv.2 _ (by omega)
  ·rw [if_neg h,if_neg (by omega)]; exact hc j hj
theorem WRel.cells (h:WRel P w0 ρ W w) {a a':Addr} (ha:ARel ρ a a') {c:Tr Value} {n:Nat} {z:Array Value} {e:TypeId} (ho:W.obj a.block=some (.cells c n z e)) :
  ∃ x c' fr,ρ a.block=some x∧a'=⟨x.b,a.off+x.o,none⟩∧w.heap[x.b]?=some (.cells c' e fr)∧NF fr c'.size∧ORel P ρ x (.cells c n z e) (.cells c' e fr)∧x.n=n∧c'.size=x.n'∧x.o+n≤x.n' ∧
   (P.info? e).map (·.size)=some x.sz∧(∀ k,k<n→VRel ρ (zBh c z k) (c'.getD (k+x.o) undef)):=by
 obtain ⟨_,x,hx,rfl⟩:=ha; obtain ⟨o',ho',hr⟩:=h.obj ho (by simp) hx rfl
 cases hr with
 | cells he hs hoo hc hq=>exact ⟨x,_,_,hx,rfl,ho',hq.1,.cells he hs hoo hc hq,rfl,hs,hoo,he,hc⟩
theorem WRel.fixed (h:WRel P w0 ρ W w) {a a':Addr} (ha:ARel ρ a a') {f:Nat→Value} {n:Nat} {e:TypeId} (ho:W.obj a.block=some (.fixed f n e)) :
  ∃ x c' e' fr,ρ a.block=some x∧a'=⟨x.b,a.off+x.o,none⟩∧w.heap[x.b]?=some (.cells c' e' fr)∧x.n=n∧c'.size=x.n'∧x.o+n≤x.n' ∧
   (P.info? e).map (·.size)=some x.sz∧(∀ k,k<n→VRel ρ (f k) (c'.getD (k+x.o) undef)):=by
 obtain ⟨_,x,hx,rfl⟩:=ha; obtain ⟨o',ho',hr⟩:=h.obj ho (by simp) hx rfl
 cases hr with
 | fixed he hs hoo hc=>exact ⟨x,_,_,_,hx,rfl,ho',rfl,hs,hoo,he,hc⟩
theorem zBj (f:Nat→Value):∀ m k,(zCG f m k).length=m
 | 0,_=>rfl
 | m+1,k=>by simp [zCG,zBj f m]
theorem zFe (f:Nat→Value):∀ (m k i:Nat),i<m→(zCG f m k).getD i undef=f (k+i)
 | 0,_,_,h=>by omega
 | m+1,k,0,_=>rfl
 | m+1,k,i+1,h=>by
  have:=zFe f m (k+1) i (by omega); simp only [zCG,List.getD_cons_succ,this]; congr 1; omega
theorem zH1 {f:Nat→Value} {c':Array Value} {n o:Nat} (h:∀ k,k<n→VRel ρ (f k) (c'.getD (k+o) undef)) (m k:Nat) (hm:k+m≤n) :
  LRel ρ (zCG f m k) (zBV c' m (k+o)) :=
 ⟨by rw [zBj,zDJ],fun i hi=>by
  rw [zBj] at hi; rw [zFe _ _ _ _ hi,zEd _ _ _ _ hi]; have:=h (k+i) (by omega); have e:k+i+o=k+o+i:=by omega
  rwa [e] at this⟩
theorem zId (h:WRel P w0 ρ W w) {t:TypeId} {a a':Addr} {v:Value} (ha:ARel ρ a a') (hl:zHY P t a W=some v) :
  ∃ v',(loadVar t a').run P w=.ok v' w∧VRel ρ v v':=by
 unfold zHY at hl
 split at hl
 ·rename_i c n z e ho; obtain ⟨x,c',fr,hx,rfl,hb,_,_,_,hs,hoo,_,hc⟩:=h.cells ha ho
  split at hl
  ·rename_i hagg
   split at hl
   ·rename_i m hm; rw [cond_eq_ite] at hl
    split at hl
    ·rename_i hle; have hle:=Nat.le_of_ble_eq_true hle
     cases hl
     refine ⟨.agg (zBV c' m (a.off+x.o)).toArray,?_,.agg' (by simpa using zNw hc m a.off hle)⟩; simp only [loadVar,Sem.run_bind,zCL hagg,Result.andThen_ok,if_true,zAa hm]; rw [zC4 hb _ _ (by omega)]; rfl
    ·cases hl
   ·cases hl
  ·rename_i hagg; rw [cond_eq_ite] at hl
   split at hl
   ·rename_i hlt; have hlt:a.off<n:=by have:=Nat.le_of_ble_eq_true hlt; omega
    cases hl
    refine ⟨c'.getD (a.off+x.o) undef,?_,hc _ hlt⟩
    have:c'[a.off+x.o]?=some (c'.getD (a.off+x.o) undef):=by
     have:a.off+x.o<c'.size:=by omega
     simp [Array.getD,this]
    simp only [loadVar,Sem.run_bind,zCL hagg,Result.andThen_ok,Bool.false_eq_true,if_false,run_load,zKj hb,this]
   ·cases hl
  ·cases hl
 ·rename_i f n e ho; obtain ⟨x,c',e',fr,hx,rfl,hb,_,hs,hoo,_,hc⟩:=h.fixed ha ho
  split at hl
  ·rename_i hagg
   split at hl
   ·rename_i m hm; rw [cond_eq_ite] at hl
    split at hl
    ·rename_i hle; have hle:=Nat.le_of_ble_eq_true hle
     cases hl
     refine ⟨.agg (zBV c' m (a.off+x.o)).toArray,?_,.agg' (by simpa using zH1 hc m a.off hle)⟩; simp only [loadVar,Sem.run_bind,zCL hagg,Result.andThen_ok,if_true,zAa hm]; rw [zC4 hb _ _ (by omega)]; rfl
    ·cases hl
   ·cases hl
  ·rename_i hagg; rw [cond_eq_ite] at hl
   split at hl
   ·rename_i hlt; have hlt:a.off<n:=by have:=Nat.le_of_ble_eq_true hlt; omega
    cases hl
    refine ⟨c'.getD (a.off+x.o) undef,?_,hc _ hlt⟩
    have:c'[a.off+x.o]?=some (c'.getD (a.off+x.o) undef):=by
     have:a.off+x.o<c'.size:=by omega
     simp [Array.getD,this]
    simp only [loadVar,Sem.run_bind,zCL hagg,Result.andThen_ok,Bool.false_eq_true,if_false,run_load,zKj hb,this]
   ·cases hl
  ·cases hl
 ·cases hl
theorem zRg {v v':Value} (h:VRel ρ v v') (hc:v.cells.toList.all zAg=true):v'.cells.toList.all zAg=true:=by
 have hl:=h.cells; rw [List.all_eq_true] at hc ⊢; intro y hy; obtain ⟨i,hi,rfl⟩:=List.getElem_of_mem hy; have hi':i<v.cells.toList.length:=hl.1 ▸ hi; have:=hl.2 i hi'; simp only [List.getD_eq_getElem?_getD,List.getElem?_eq_getElem hi,List.getElem?_eq_getElem hi',Option.getD_some] at this; rw [this.one]; exact hc _ (List.getElem_mem hi')
theorem zHA (h:WRel P w0 ρ W w) {t:TypeId} {a a':Addr} {v v':Value} (ha:ARel ρ a a') (hv:VRel ρ v v') {c:Tr Value} {n:Nat} {z:Array Value} {e:TypeId} {m:Nat}
  (ho:W.obj a.block=some (.cells c n z e)) (hm:siz P t=some m) (hsz:v.cells.size=m) (hle:a.off+m≤n) (hone:v.cells.toList.all zAg=true) :
  ∃ w',(storeVar t a' v').run P w=.ok () w'∧WRel P w0 ρ (W.upd a.block (.cells (c.putFrom a.off v.cells.toList) n z e)) w':=by
 obtain ⟨x,c',fr,hx,rfl,hb,hnf,hr,_,hs,hoo,_,hc⟩:=h.cells ha ho; have hl:=hv.cells; have hs':v'.cells.size=m:=by have:=hl.1; simp at this; omega
 refine ⟨{ w with heap:=w.heap.setIfInBounds x.b (.cells (zCu c' (a.off+x.o) v'.cells.toList) e fr) },?_,?_⟩
 ·simp only [storeVar,Sem.run_bind,zAa hm,Result.andThen_ok,hs',ne_eq,not_true,if_false]; have:=zB7 (P:=P) (a.off+x.o) v'.cells.toList 0 w c' hb hnf (by simp; omega) (zRg hv hone)
  simpa using this
 ·exact h.upd ho rfl hx (hr.write hl (by simp; omega))
theorem zL5 (h:WRel P w0 ρ W w) {t:TypeId} {a a':Addr} {v v':Value} {W1:CW} (ha:ARel ρ a a') (hv:VRel ρ v v') (hl:zFW P t a v W=some W1) :
  ∃ w',(storeVar t a' v').run P w=.ok () w'∧WRel P w0 ρ W1 w':=by
 unfold zFW at hl
 split at hl
 ·rename_i c n z e ho
  split at hl
  ·rename_i cs
   split at hl
   ·rename_i m hm; rw [cond_eq_ite] at hl
    split at hl
    ·rename_i hcond; simp only [Bool.and_eq_true] at hcond
     cases hl
     exact zHA h ha hv ho hm (Nat.eq_of_beq_eq_true hcond.1.1) (Nat.le_of_ble_eq_true hcond.1.2) hcond.2
    ·cases hl
   ·cases hl
  ·cases hl
  ·rename_i hna hnt
   split at hl
   ·rename_i m hm; rw [cond_eq_ite] at hl
    split at hl
    ·rename_i hcond; simp only [Bool.and_eq_true] at hcond
     cases hl
     have hone:zAg v=true:=by cases v <;> first | rfl | exact (hna _ rfl).elim | exact (hnt _ rfl).elim
     have hcells:v.cells=#[v]:=by cases v <;> first | rfl | exact (hna _ rfl).elim
     have hm1:=Nat.eq_of_beq_eq_true hcond.1; have hlt:a.off<n:=by have:=Nat.le_of_ble_eq_true hcond.2; omega
     have:=zHA h ha hv ho hm (by rw [hcells]; simp [hm1]) (by omega) (by rw [hcells]; simp [hone]); rw [hcells] at this; exact this
    ·cases hl
   ·cases hl
 ·cases hl
end
end Go.Ce
namespace Go.Ce
open Go.RowKit (Below)
def EX (P:Program):Prop:=∀ f fn,P.funcs[f]?=some fn→fn.body.isNone=true→(fn.name == "maps.clone")=true→∀ args w v w',(Extern.MapsClone.clone args).run P w=.ok v w'→(callFunc f args).run P w=.ok (.value v) w'
def ZP (P:Program):Prop:=(∀ t z,zer P t=some z→∃ n,zCp n z=true)∧EX P
theorem ZP.rel {P:Program} (h:ZP P) {t:TypeId} {z:Value} (hz:zer P t=some z) (ρ:Ren):VRel ρ z z:=let ⟨n,hn⟩:=h.1 t z hz; .of_plain ρ n z hn
inductive DRel (ρ:Ren):Deferred→Deferred→Prop
 | fn {f:FuncId} {cap cap' args args':Array Value}:LRel ρ cap.toList cap'.toList→LRel ρ args.toList args'.toList→DRel ρ ⟨.fn (.func f) cap,args⟩ ⟨.fn (.func f) cap',args'⟩
 | collected {r r':Nat}:BRel ρ r r'→DRel ρ ⟨.collected r,#[]⟩ ⟨.collected r',#[]⟩
theorem DRel.mono {ρ ρ':Ren} {d d':Deferred} (h:DRel ρ d d') (e:Ext ρ ρ'):DRel ρ' d d':=by
 cases h with
 | fn a b=>exact .fn (a.mono e) (b.mono e)
 | collected a=>exact .collected (a.mono e)
inductive NRun (P:Program) (w0:World) (ρ:Ren) (W:CW) (r:Result Next):CNext→Prop
 | value {v v':Value} {w:World}:r=.ok (.value v') w→VRel ρ v v'→WRel P w0 ρ W w→NRun P w0 ρ W r (.value v)
 | skip {w:World}:r=.ok .skip w→WRel P w0 ρ W w→NRun P w0 ρ W r .skip
 | enter {f:FuncId} {args:List Value} {args':Array Value} {w:World}:r=(callFunc f args').run P w→LRel ρ args args'.toList→WRel P w0 ρ W w→NRun P w0 ρ W r (.enter f args)
 | round {l l':Nat} {args:List Value} {args':Array Value} {w:World}:r=(Instr.yield l' args').run P w→BRel ρ l l'→LRel ρ args args'.toList→WRel P w0 ρ W w→NRun P w0 ρ W r (.round l args)
 | defer {d d':Deferred} {w:World}:r=.ok (.defer d') w→DRel ρ d d'→WRel P w0 ρ W w→NRun P w0 ρ W r (.defer d)
 | recover {w:World}:r=.ok .recover w→WRel P w0 ρ W w→NRun P w0 ρ W r .recover
 | panic {v v':Value} {w:World}:r=.halt (.panic v') w→VRel ρ v v'→WRel P w0 ρ W w→NRun P w0 ρ W r (.panic v)
def OpSound (P:Program) (w0:World) (ρ:Ren) (W:CW) (r:Result Next) (outs:List (CNext × CW)):Prop :=
 ∃ n W1 ρ',(n,W1) ∈ outs∧Grow W ρ W1 ρ'∧NRun P w0 ρ' W1 r n
section
variable {P:Program} {w0:World} {ρ:Ren} {W:CW} {w:World}
theorem OpSound.value (hw:WRel P w0 ρ W w) {r:Result Next} {v v':Value} (hr:r=.ok (.value v') w) (hv:VRel ρ v v'):OpSound P w0 ρ W r [(.value v,W)] :=
 ⟨_,_,ρ,List.mem_singleton.2 rfl,.refl _,.value hr hv hw⟩
def ORelV (ρ:Ren):Option Value→Option Value→Prop
 | none,none=>True
 | some v,some v'=>VRel ρ v v'
 | _,_=>False
theorem zCI {x x':Option Value} {d y y' k:Nat} (h:zEQ x d y=some k) (hx:ORelV ρ x x') (hy:y≤y') :
  (x=none∧x'=none∧k=d)∨(∃ v',x'=some v'∧k≤y∧∀ code (w:World),(Instr.sliceBound v' y' code).run P w=.ok k w):=by
 unfold zEQ at h
 split at h
 ·rename_i kk i; rw [cond_eq_ite] at h
  split at h
  ·rename_i hc; simp only [Bool.and_eq_true,decide_eq_true_eq] at hc
   cases h
   cases x' with
   | none=>exact hx.elim
   | some v' =>
    have hx:VRel ρ (.int kk i) v':=hx
    cases hx
    right; refine ⟨_,rfl,by omega,fun code w=>?_⟩; have:0≤i∧i≤(y':Int):=⟨hc.1,by omega⟩
    simp [Instr.sliceBound,asIntOf,this]
  ·cases h
 ·cases h
 ·cases h
  cases x' with
  | none=>exact .inl ⟨rfl,rfl,rfl⟩
  | some v'=>exact hx.elim
theorem ORelV.map {f g:Operand→Value} (x:Option Operand) (h:∀ y,x=some y→VRel ρ (f y) (g y)):ORelV ρ (x.map f) (x.map g):=by
 cases x with
 | none=>trivial
 | some y=>exact h y rfl
theorem zAO {α β:Type} {o:Option α} {f:α→Option β} {b:β} (h:zCc o f=some b):∃ a,o=some a∧f a=some b:=by
 cases o with
 | none=>cases h
 | some a=>exact ⟨a,rfl,h⟩
theorem zE3 (b:Bool) {lo lo' hi hi' mx mx':Option Value} {len cap cap' m h l:Nat} (hm:zEQ mx cap cap=some m) (hh:zEQ hi len m=some h) (hl:zEQ lo 0 h=some l)
  (rl:ORelV ρ lo lo') (rh:ORelV ρ hi hi') (rm:ORelV ρ mx mx') (hc:cap≤cap') (hn:(mx.isSome && hi.isNone)=false) :
  ∃ m',(∀ w:World,(Instr.sliceBounds b len cap' lo' hi' mx').run P w=.ok (l,h,m') w)∧((mx=none∧m'=cap'∧m=cap)∨(m'=m∧m≤cap))∧l≤h:=by
 have hlh:l≤h:=by
  rcases zCI (P:=P) hl rl (Nat.le_refl _) with ⟨_,_,rfl⟩ | ⟨_,_,h,_⟩
  ·exact Nat.zero_le _
  ·exact h
 rcases zCI (P:=P) hm rm hc with ⟨rfl,rfl,rfl⟩ | ⟨v,rfl,hmle,hmr⟩
 ·refine ⟨cap',fun w=>?_,.inl ⟨rfl,rfl,rfl⟩,hlh⟩
  rcases zCI (P:=P) hh rh hc with ⟨rfl,rfl,rfl⟩ | ⟨v2,rfl,_,hhr⟩
  ·rcases zCI (P:=P) hl rl (Nat.le_refl _) with ⟨rfl,rfl,rfl⟩ | ⟨v3,rfl,_,hlr⟩
   ·simp [Instr.sliceBounds]
   ·simp [Instr.sliceBounds,hlr]
  ·rcases zCI (P:=P) hl rl (Nat.le_refl _) with ⟨rfl,rfl,rfl⟩ | ⟨v3,rfl,_,hlr⟩
   ·simp [Instr.sliceBounds,hhr]
   ·simp [Instr.sliceBounds,hhr,hlr]
 ·have hms:mx.isSome=true:=by
   cases mx with
   | none=>exact rm.elim
   | some _=>rfl
  refine ⟨m,fun w=>?_,.inr ⟨rfl,hmle⟩,hlh⟩
  rcases zCI (P:=P) hh rh (Nat.le_refl _) with ⟨rfl,rfl,rfl⟩ | ⟨v2,rfl,_,hhr⟩
  ·simp [hms] at hn
  ·rcases zCI (P:=P) hl rl (Nat.le_refl _) with ⟨rfl,rfl,rfl⟩ | ⟨v3,rfl,_,hlr⟩
   ·simp [Instr.sliceBounds,hmr,hhr]
   ·simp [Instr.sliceBounds,hmr,hhr,hlr]
end
end Go.Ce
namespace Go.Ce
open Go.RowKit (Below)
section
variable {P:Program} {w0:World} {ρ:Ren} {W:CW} {w:World}
theorem zNq {t:TypeId} {n m:Nat} (h:siz P t=some n) (k:(P.info? t).map (·.size)=some m):m=n:=by
 unfold siz at h; rw [h] at k; cases k; rfl
theorem zIn {a a':Addr} (h:ARel ρ a a') (k:Nat):ARel ρ ⟨a.block,a.off+k,none⟩ (a'.add k):=by
 obtain ⟨_,x,hx,rfl⟩:=h; refine ⟨rfl,x,hx,?_⟩; rw [zHQ]; simp only [Addr.mk.injEq,and_true,true_and]; omega
theorem zHP (a:Addr):a.add 0=a:=by simp [Addr.add]
theorem zL6 (hw:WRel P w0 ρ W w) {t:TypeId} {x x' v:Value} {lo lo' hi hi' mx mx':Option Value} (h:zJn P W t x lo hi mx=some v) (hx:VRel ρ x x')
  (rl:ORelV ρ lo lo') (rh:ORelV ρ hi hi') (rm:ORelV ρ mx mx'):∃ v',(Instr.sliceAt t x' lo' hi' mx').run P w=.ok v' w∧VRel ρ v v':=by
 unfold zJn at h
 split at h
 ·rename_i elem a len cap ht; obtain ⟨m,hm,h⟩:=zAO h; obtain ⟨hh,hhi,h⟩:=zAO h; obtain ⟨l,hl,h⟩:=zAO h; rw [cond_eq_ite] at h
  split at h
  ·cases h
  rename_i hcond; simp only [Bool.or_eq_true,Bool.not_eq_true',not_or,Bool.not_eq_true,Bool.not_eq_false] at hcond; obtain ⟨⟨hcond1,hle⟩,hel⟩:=hcond; have hle:=Nat.le_of_ble_eq_true hle; obtain ⟨s,hs,h⟩:=zAO h
  cases h
  have run:∀ (a':Option Addr) (cap':Nat),cap≤cap'→∃ m',(Instr.sliceAt t (.slice a' len cap') lo' hi' mx').run P w=.ok (.slice (if m'=l then a' else a'.map (·.add (l*s))) (hh-l) (m'-l)) w∧((mx=none∧m'=cap'∧m=cap)∨(m'=m∧m≤cap))∧l≤hh:=by
   intro a' cap' hc; obtain ⟨m',hr,hcase,hlh⟩:=zE3 (P:=P) true hm hhi hl rl rh rm hc hcond1; refine ⟨m',?_,hcase,hlh⟩; simp only [Instr.sliceAt,Sem.run_bind,zAC ht,Result.andThen_ok,Instr.slice,hr,zAa hs,Sem.run_pure]
  cases hx with
  | snil =>
   obtain ⟨m',hr,hcase,hlh⟩:=run none cap (Nat.le_refl _); refine ⟨_,hr,?_⟩; have:m'=m:=by rcases hcase with ⟨_,h1,h2⟩ | ⟨h1,_⟩ <;> omega
   subst this; simp only [Option.map_none,ite_self,cond_eq_ite]; exact .snil _ _
  | @slice a a' n c c' ha hc =>
   have hcc:cap≤c':=by
    rcases hc with rfl | ⟨_,_,_,_,_,h⟩
    ·exact Nat.le_refl _
    ·exact h
   obtain ⟨m',hr,hcase,hlh⟩:=run (some a') c' hcc; refine ⟨_,hr,?_⟩
   have hel':mx=none→c'=cap∨∃ y,ρ a.block=some y∧0<s∧y.sz=s∧a.off+cap*s=y.n∧a.off+y.o+c'*s=y.n':=by
    intro hmx
    rcases hc with rfl | ⟨y,hy,hpos,h1,h2,_⟩
    ·exact .inl rfl
    ·right; subst hmx; simp only [Option.isSome_none,zL0,ha.1,Bool.false_or] at hel
     split at hel
     ·rename_i cc nn zz ee ho; have:=Nat.eq_of_beq_eq_true (hel.resolve_left (by simp)); subst this; obtain ⟨y',c2,_,hy',_,_,_,_,_,_,_,he,_⟩:=hw.cells ha ho; rw [hy] at hy'; cases hy'; have:=zNq hs he; rw [this] at h1 h2 hpos; exact ⟨y,hy,hpos,this,h1,h2⟩
     ·rename_i ff nn ee ho; have:=Nat.eq_of_beq_eq_true (hel.resolve_left (by simp)); subst this; obtain ⟨y',_,_,_,hy',_,_,_,_,_,he,_⟩:=hw.fixed ha ho; rw [hy] at hy'; cases hy'; have:=zNq hs he; rw [this] at h1 h2 hpos; exact ⟨y,hy,hpos,this,h1,h2⟩
     ·simp at hel
   by_cases e:m=l
   ·have ehl:hh=l:=by omega
    subst ehl; simp only [cond_eq_ite,Nat.beq_eq,e,if_true,Nat.sub_self]; obtain ⟨y,hy,rfl⟩:=ha.2
    by_cases em:m'=hh
    ·subst em; simp only [if_true,Nat.sub_self]; exact .slice0 ha.1 hy rfl rfl (.inl rfl)
    ·rw [if_neg em]
     rcases hcase with ⟨hmx,e1,e2⟩ | ⟨h1,_⟩
     ·rcases hel' hmx with h1 | ⟨y',hy',hpos,hsz,h1,h2⟩
      ·omega
      ·rw [hy] at hy'; cases hy'; simp only [Option.map_some,zHQ]; refine .slice0 ha.1 hy rfl rfl (.inr ⟨by omega,?_⟩); rw [hsz]; obtain ⟨d,hd⟩:∃ d,m'=hh+d:=⟨m'-hh,by omega⟩
       have e3:m'-hh=d:=by omega
       rw [e3]; rw [←e1,hd,Nat.add_mul] at h2; show a.off+y.o+hh*s+d*s=y.n'; omega
     ·omega
   ·have hlm:l<m:=by omega
    have em:m'≠l:=by rcases hcase with ⟨_,h1,h2⟩ | ⟨h1,_⟩ <;> omega
    simp only [cond_eq_ite,Nat.beq_eq,e,if_false,em,Option.map_some]; refine .slice _ (zIn ha _) ?_
    rcases hcase with ⟨hmx,rfl,rfl⟩ | ⟨rfl,_⟩
    ·rcases hel' hmx with rfl | ⟨y,hy,hpos,hsz,h1,h2⟩
     ·exact .inl rfl
     ·right
      refine ⟨y,hy,by omega,?_,?_,by omega⟩
      ·rw [hsz]; obtain ⟨d,rfl⟩:∃ d,m=l+d:=⟨m-l,by omega⟩
       have:l+d-l=d:=by omega
       rw [this]; rw [Nat.add_mul] at h1; show a.off+l*s+d*s=y.n; omega
      ·rw [hsz]; obtain ⟨d,rfl⟩:∃ d,m'=l+d:=⟨m'-l,by omega⟩
       have:l+d-l=d:=by omega
       rw [this]; rw [Nat.add_mul] at h2; show a.off+l*s+y.o+d*s=y.n'; omega
    ·exact .inl rfl
  | @slice0 a a' c' y hq hy hb hsp hc =>
   obtain ⟨m',hr,hcase,hlh⟩:=run (some a') c' (Nat.zero_le _); refine ⟨_,hr,?_⟩; have hm0:m=0:=by rcases hcase with ⟨_,h1,h2⟩ | ⟨h1,h2⟩ <;> omega
   subst hm0; have hh0:hh=0:=by omega
   subst hh0; have hl0:l=0:=by omega
   subst hl0; simp only [cond_eq_ite,Nat.beq_eq,if_true,Nat.sub_zero,Nat.zero_mul,Option.map_some,zHP,ite_self]; refine .slice0 hq hy hb hsp ?_
   rcases hcase with ⟨_,rfl,_⟩ | ⟨rfl,_⟩
   ·exact hc
   ·exact .inl rfl
  | @slice00 a a' hq =>
   obtain ⟨m',hr,hcase,hlh⟩:=run (some a') 0 (Nat.le_refl _); refine ⟨_,hr,?_⟩; have hm0:m=0:=by rcases hcase with ⟨_,h1,h2⟩ | ⟨h1,h2⟩ <;> omega
   subst hm0; have hh0:hh=0:=by omega
   subst hh0; have hl0:l=0:=by omega
   subst hl0; simp only [cond_eq_ite,Nat.beq_eq,if_true,Nat.sub_zero,Nat.zero_mul,Option.map_some,zHP,ite_self]; have hm0':m'=0:=by rcases hcase with ⟨_,h1,_⟩ | ⟨h1,_⟩ <;> omega
   subst hm0'; exact .slice00 hq
 ·rename_i n elem a ht; obtain ⟨m,hm,h⟩:=zAO h; obtain ⟨hh,hhi,h⟩:=zAO h; obtain ⟨l,hl,h⟩:=zAO h; rw [cond_eq_ite] at h
  split at h
  ·cases h
  rename_i hcond; simp only [Bool.or_eq_true,Bool.not_eq_true',not_or,Bool.not_eq_true,Bool.not_eq_false] at hcond; obtain ⟨s,hs,h⟩:=zAO h
  cases h
  cases hx with
  | @ptr a a' ha =>
   obtain ⟨m',hr,hcase,hlh⟩:=zE3 (P:=P) false hm hhi hl rl rh rm (Nat.le_refl _) hcond.1; have:m'=m:=by rcases hcase with ⟨_,h1,h2⟩ | ⟨h1,_⟩ <;> omega
   subst this
   refine ⟨.slice (some (if m'=l then a' else a'.add (l*s))) (hh-l) (m'-l),?_,?_⟩
   ·simp only [Instr.sliceAt,Sem.run_bind,zAC ht,Result.andThen_ok,Instr.sureAddr,Sem.run_pure,hr,zAa hs]
   ·simp only [cond_eq_ite,Nat.beq_eq]
    by_cases e:m'=l
    ·rw [if_pos e,if_pos e]; exact .slice _ ha (.inl rfl)
    ·rw [if_neg e,if_neg e]; exact .slice _ (zIn ha _) (.inl rfl)
 ·cases h
end
end Go.Ce
namespace Go.Ce
open Go.RowKit (Below)
section
variable {P:Program} {w0:World} {ρ:Ren} {W:CW} {w:World} {o:Oper} {e e':Operand→Value} {outs:List (CNext × CW)}
theorem zCO {x:Option Value} (h:(match x with | some v=>some [(CNext.value v,W)] | none=>none)=some outs):∃ v,x=some v∧outs=[(.value v,W)]:=by
 cases x with
 | none=>cases h
 | some v=>cases h; exact ⟨v,rfl,rfl⟩
theorem zGc {x:Option (Value × CW)} (h:(match x with | some (v,W)=>some [(CNext.value v,W)] | none=>none)=some outs):∃ v W1,x=some (v,W1)∧outs=[(.value v,W1)]:=by
 cases x with
 | none=>cases h
 | some v=>obtain ⟨v,W1⟩:=v; cases h; exact ⟨v,W1,rfl,rfl⟩
theorem zP9 {x:Option CW} (h:(match x with | some W=>some [(CNext.skip,W)] | none=>none)=some outs):∃ W1,x=some W1∧outs=[(.skip,W1)]:=by
 cases x with
 | none=>cases h
 | some W1=>cases h; exact ⟨W1,rfl,rfl⟩
theorem zAf {s:Sem Value} {v:Value} {w w':World} (hs:s.run P w=.ok v w'):(do let x ←s; pure (Next.value x):Sem Next).run P w=.ok (.value v) w':=by simp [hs]
theorem zRU {s:Sem Unit} {w w':World} (hs:s.run P w=.ok () w'):(do s; pure Next.skip:Sem Next).run P w=.ok .skip w':=by simp [hs]
theorem zQW {x:Operand} (ho:o.op=.move x∨o.op=.assign x) (h:cop P o e W=some outs) (hw:WRel P w0 ρ W w) (he:VRel ρ (e x) (e' x)) :
  OpSound P w0 ρ W ((execOp e' o).run P w) outs:=by
 rcases ho with ho | ho <;>
 ·simp only [cop,ho] at h
  cases h
  exact .value hw (by simp only [execOp,ho,Sem.run_pure]) he
theorem zUN {c a b:Operand} (ho:o.op=.pick c a b) (h:cop P o e W=some outs) (hw:WRel P w0 ρ W w) (hc:VRel ρ (e c) (e' c)) (ha:VRel ρ (e a) (e' a)) (hb:VRel ρ (e b) (e' b)) :
  OpSound P w0 ρ W ((execOp e' o).run P w) outs:=by
 simp only [cop,ho] at h
 split at h
 ·rename_i b0 hb0
  cases h
  rw [hb0] at hc; generalize hcc:e' c=vc at hc
  cases hc
  have hr:(execOp e' o).run P w=.ok (.value (if b0=true then e' a else e' b)) w:=by
   simp [execOp,ho,hcc,asBool]
  refine .value hw hr ?_
  cases b0
  ·simpa using hb
  ·simpa using ha
 ·cases h
theorem zUP {t:TypeId} {a:Operand} (ho:o.op=.load t a) (h:cop P o e W=some outs) (hw:WRel P w0 ρ W w) (ha:VRel ρ (e a) (e' a)) :
  OpSound P w0 ρ W ((execOp e' o).run P w) outs:=by
 simp only [cop,ho] at h; obtain ⟨v,hv,rfl⟩:=zCO h
 split at hv
 ·rename_i p hp; rw [hp] at ha; generalize hcc:e' a=va at ha
  cases ha with
  | ptr ha =>
   obtain ⟨v',hr,hv'⟩:=zId hw ha hv; refine .value hw ?_ hv'; simp only [execOp,ho,hcc]; exact zAf (by simpa [Instr.loadAt,Instr.sureAddr] using hr)
 ·cases hv
theorem zRd {t:TypeId} {a:Addr} {v:Value} {W1:CW} (h:zFW P t a v W=some W1):W.sz≤W1.sz:=by
 unfold zFW at h
 repeat' (first | (cases h; done) | (cases h; exact Nat.le_refl _) | (rw [cond_eq_ite] at h) | split at h)
theorem zSY {t:TypeId} {a x:Operand} (ho:o.op=.store t a x) (h:cop P o e W=some outs) (hw:WRel P w0 ρ W w) (ha:VRel ρ (e a) (e' a)) (hx:VRel ρ (e x) (e' x)) :
  OpSound P w0 ρ W ((execOp e' o).run P w) outs:=by
 simp only [cop,ho] at h; obtain ⟨W1,hv,rfl⟩:=zP9 h
 split at hv
 ·rename_i p hp; rw [hp] at ha; generalize hcc:e' a=va at ha
  cases ha with
  | ptr ha =>
   obtain ⟨w',hr,hw'⟩:=zL5 hw ha hx hv; refine ⟨_,_,ρ,List.mem_singleton.2 rfl,.refl _ (zRd hv),.skip (w:=w') ?_ hw'⟩; simp only [execOp,ho,hcc]; exact zRU (by simpa [Instr.storeAt,Instr.sureAddr] using hr)
 ·cases hv
theorem zMt {x:Operand} (ho:o.op=.nilCheck x) (h:cop P o e W=some outs) (hw:WRel P w0 ρ W w) (hx:VRel ρ (e x) (e' x)) :
  OpSound P w0 ρ W ((execOp e' o).run P w) outs:=by
 simp only [cop,ho] at h; obtain ⟨v,hv,rfl⟩:=zCO h; generalize hc:e x=vx at *; generalize hcc:e' x=vx' at *
 split at hv <;> cases hv <;> cases hx
 ·rename_i h1; exact .value hw (by simp only [execOp,ho,hcc,Sem.run_pure]) (.ptr h1)
 ·rename_i h1; exact .value hw (by simp only [execOp,ho,hcc,Sem.run_pure]) (.iface _ h1)
 ·rename_i h1 h2 h3 h4 h5
  cases h1
  exact .value hw (by simp only [execOp,ho,hcc,Sem.run_pure]) (.func (.func _) h2 h3 h4 h5)
 ·rename_i h1 h2 h3 h4 h5
  cases h1 with
  | yield hb=>exact .value hw (by simp only [execOp,ho,hcc,Sem.run_pure]) (.func (.yield hb) h2 h3 h4 h5)
theorem zHc (hw:WRel P w0 ρ W w) {c:Tr Value} {z:Array Value} {n:Nat} {t:TypeId} {sz:Nat} {c':Array Value} (hs:siz P t=some sz) (hn:c'.size=n)
  (hc:∀ k,k<n→VRel ρ (zBh c z k) (c'.getD k undef)) :
  ∃ ρ',Grow W ρ (W.new (.cells c n z t)) ρ'∧ρ' W.sz=some ⟨w.heap.size,0,sz,n,n⟩∧WRel P w0 ρ' (W.new (.cells c n z t)) { w with heap:=w.heap.push (.cells c' t) }∧ARel ρ' ⟨W.sz,0,none⟩ ⟨w.heap.size,0,none⟩:=by
 have hext:Ext ρ (fun i=>if i=W.sz then some ⟨w.heap.size,0,sz,n,n⟩ else ρ i):=fun i y hy=>by
  have:=hw.dom i y hy; show (if i=W.sz then _ else ρ i)=some y; rw [if_neg (by omega)]; exact hy
 have:=hw.new (o:=.cells c n z t) (o':=.cells c' t) ⟨w.heap.size,0,sz,n,n⟩ rfl (by
  exact .cells hs hn (by simp) (fun k hk=>(hc k hk).mono hext) ⟨NF.zero _,fun _=>⟨rfl,rfl⟩⟩)
 exact ⟨_,this.1,by simp,this.2,⟨rfl,⟨w.heap.size,0,sz,n,n⟩,by simp,by simp⟩⟩
theorem zBL (vs:List Value) (z:Array Value) (k:Nat) (h:k<vs.length):zBh (Tr.nil.putFrom 0 vs) z k=vs.getD k undef:=by
 rw [zJo]; simp [h]
theorem zU9 {t:TypeId} {x:Operand} (ho:o.op=.box t x) (h:cop P o e W=some outs) (hw:WRel P w0 ρ W w) (hx:VRel ρ (e x) (e' x)) :
  OpSound P w0 ρ W ((execOp e' o).run P w) outs:=by
 simp only [cop,ho,zKg] at h
 split at h
 ·rename_i sz hs
  cases h
  have hl:=hx.cells
  obtain ⟨ρ',hext,_,hw',ha⟩:=zHc hw (c:=Tr.nil.putFrom 0 (e x).cells.toList) (z:=#[]) (n:=(e x).cells.size) (c':=(e' x).cells) hs (by simpa using hl.1.symm) (fun k hk=>by
   rw [zBL _ _ _ (by simpa using hk)]; have:=hl.2 k (by simpa using hk)
   simpa [Array.getD_eq_getD_getElem?,List.getD_eq_getElem?_getD] using this)
  refine ⟨_,_,ρ',List.mem_singleton.2 rfl,hext,.value (w:={ w with heap:=w.heap.push (.cells (e' x).cells t) }) ?_ (.ptr ha) hw'⟩; simp only [execOp,ho]; exact zAf (by simp [Instr.box,newVar,newRow])
 ·cases h
theorem zSi (hz:ZP P) {t:TypeId} (ho:o.op=.alloc t) (h:cop P o e W=some outs) (hw:WRel P w0 ρ W w) :
  OpSound P w0 ρ W ((execOp e' o).run P w) outs:=by
 simp only [cop,ho] at h
 split at h
 ·rename_i z hzz
  split at h
  ·rename_i sz hs
   cases h
   obtain ⟨ρ',hext,_,hw',ha⟩:=zHc hw (c:=.nil) (z:=z.cells) (n:=z.cells.size) (c':=z.cells) hs rfl (fun k hk=>by
    have hc:=(hz.rel hzz ρ).cells.2 k (by simpa using hk); have:zBh .nil z.cells k=z.cells.getD k undef:=by simp [zBh,Tr.get_nil,Nat.mod_eq_of_lt hk]
    rw [this]
    simpa [Array.getD_eq_getD_getElem?,List.getD_eq_getElem?_getD] using hc)
   refine ⟨_,_,ρ',List.mem_singleton.2 rfl,hext,.value (w:={ w with heap:=w.heap.push (.cells z.cells t) }) ?_ (.ptr ha) hw'⟩; simp only [execOp,ho]; exact zAf (by simp [Instr.alloc,zAe hzz,newVar,newRow])
  ·cases h
 ·cases h
theorem zUM {u:UnOp} {t:TypeId} {x:Operand} (ho:o.op=.unOp u t x) (h:cop P o e W=some outs) (hw:WRel P w0 ρ W w) (hx:VRel ρ (e x) (e' x)) :
  OpSound P w0 ρ W ((execOp e' o).run P w) outs:=by
 cases u <;> simp only [cop,ho] at h <;> first | (cases h; done) | skip
 all_goals
  obtain ⟨v,hv,rfl⟩:=zCO h
  split at hv
  ·rename_i hc
   cases hv
   rw [hc] at hx; generalize hcc:e' x=vx' at hx
   cases hx
   refine .value hw ?_ (by constructor); simp only [execOp,ho,hcc]; exact zAf (by simp [Op.unary,Op.intArith])
  ·cases hv
theorem zHX {t:TypeId} {x:Operand} (ho:o.op=.makeInterface t x) (h:cop P o e W=some outs) (hw:WRel P w0 ρ W w) (hx:VRel ρ (e x) (e' x)) :
  OpSound P w0 ρ W ((execOp e' o).run P w) outs:=by
 simp only [cop,ho] at h; obtain ⟨v,hv,rfl⟩:=zCO h
 split at hv
 ·cases hv
 ·cases hv
 ·rename_i hn1 hn2
  cases hv
  refine .value hw ?_ (.iface _ hx); simp only [execOp,ho]; refine zAf ?_
  cases hu:P.underlying t with
  | none=>exact (hn2 hu).elim
  | some d =>
   simp only [Instr.makeInterface,Sem.run_bind,zAC hu,Result.andThen_ok]
   cases d <;> first | rfl | exact (hn1 _ hu).elim
theorem zO7 {x:Operand} {i:Nat} (ho:o.op=.extract x i) (h:cop P o e W=some outs) (hw:WRel P w0 ρ W w) (hx:VRel ρ (e x) (e' x)) :
  OpSound P w0 ρ W ((execOp e' o).run P w) outs:=by
 simp only [cop,ho] at h; obtain ⟨v,hv,rfl⟩:=zCO h
 split at hv
 ·rename_i vs hc; rw [hc] at hx; generalize hcc:e' x=vx' at hx; obtain ⟨vs',rfl,hl⟩:=hx.tuple_inv; obtain ⟨y,hy,hr⟩:=hl.get (x:=v) (i:=i) (by simpa using hv); have hy:vs'[i]?=some y:=by simpa using hy
  refine .value hw ?_ hr; simp only [execOp,ho,hcc]; exact zAf (by simp [Instr.extract,hy])
 ·cases hv
end
end Go.Ce
namespace Go.Ce
open Go.RowKit (Below)
section
variable {P:Program} {w0:World} {ρ:Ren} {W:CW} {w:World} {o:Oper} {e e':Operand→Value} {outs:List (CNext × CW)}
theorem zPb {op:BinOp} {k:IntKind} {a b:Int} {v:Value} {t:TypeId} (h:zOV op k a b=some v) (w:World):(binOp op t (.int k a) (.int k b)).run P w=.ok v w∧VRel ρ v v:=by
 cases op <;> simp only [zOV] at h
 case quo =>
  rw [cond_eq_ite] at h
  split at h
  ·cases h
  ·rename_i hb
   cases h
   have:¬b=0:=by simpa using hb
   exact ⟨by simp [binOp,Op.intDiv,this],.int _ _⟩
 case rem =>
  rw [cond_eq_ite] at h
  split at h
  ·cases h
  ·rename_i hb
   cases h
   have:¬b=0:=by simpa using hb
   exact ⟨by simp [binOp,Op.intDiv,this],.int _ _⟩
 case and=>cases h; exact ⟨by simp only [binOp,ne_eq,not_true_eq_false,if_false,Op.intBits,Sem.run_pure],.int _ _⟩
 case or=>cases h; exact ⟨by simp only [binOp,ne_eq,not_true_eq_false,if_false,Op.intBits,Sem.run_pure],.int _ _⟩
 case xor=>cases h; exact ⟨by simp only [binOp,ne_eq,not_true_eq_false,if_false,Op.intBits,Sem.run_pure],.int _ _⟩
 case andNot=>cases h; exact ⟨by simp only [binOp,ne_eq,not_true_eq_false,if_false,Op.intBits,Sem.run_pure],.int _ _⟩
 all_goals first
  | (cases h; done)
  | (cases h; exact ⟨by simp [binOp,Op.intArith],.int _ _⟩)
  | (cases h; exact ⟨by simp [binOp,Op.intCmp],.bool _⟩)
theorem zRo:∀ (x y:List UInt8),bEq x y=(x == y)
 | [],[]=>rfl
 | [],_::_=>rfl
 | _::_,[]=>rfl
 | a::x,b::y=>by
  have h1:Nat.beq a.toNat b.toNat=(a == b):=by
   rw [Bool.eq_iff_iff]; simp only [Nat.beq_eq,beq_iff_eq]; exact ⟨fun h=>UInt8.toNat_inj.1 h,fun h=>by rw [h]⟩
  simp only [bEq,zRo x y,h1,List.cons_beq_cons]
theorem zTr:∀ (x y:List UInt8),bLt x y=Op.bytesLess x y
 | [],[]=>rfl
 | [],_::_=>rfl
 | _::_,[]=>rfl
 | a::x,b::y=>by
  have h1:Nat.beq a.toNat b.toNat=(a == b):=by
   rw [Bool.eq_iff_iff]; simp only [Nat.beq_eq,beq_iff_eq]; exact ⟨fun h=>UInt8.toNat_inj.1 h,fun h=>by rw [h]⟩
  have h2:Nat.blt a.toNat b.toNat=decide (a<b):=by
   rw [Bool.eq_iff_iff]; simp only [Nat.blt_eq,decide_eq_true_eq]; exact UInt8.lt_iff_toNat_lt.symm
  simp only [bLt,zTr x y,h1,h2,Op.bytesLess]
theorem zSP (a:ByteArray):sb a=a.toList:=(ByteArray.toList_eq a).symm
theorem zIl {a b:ByteArray}:bEq (sb a) (sb b)=(a.toList == b.toList):=by rw [zRo,zSP,zSP]
theorem zRn {a b:ByteArray}:bLt (sb a) (sb b)=Op.bytesLess a.toList b.toList:=by rw [zTr,zSP,zSP]
theorem zGV {a b:ByteArray} (h:bEq (sb a) (sb b)=true):a=b:=by
 rw [zRo] at h; have h:a.data.toList=b.data.toList:=by simpa [sb] using h
 cases a; cases b
 exact congrArg ByteArray.mk (Array.ext' h)
theorem zPX {op:BinOp} {a b:ByteArray} {v:Value} {t:TypeId} (h:zX8 op a b=some v) (w:World):(binOp op t (.string a) (.string b)).run P w=.ok v w∧VRel ρ v v:=by
 cases op <;> simp only [zX8] at h <;> first
  | (cases h; done)
  | (cases h; exact ⟨by simp only [binOp,Op.stringOp,Sem.run_pure,zIl,zRn],.bool _⟩)
  | skip
 rw [cond_eq_ite] at h
 split at h
 ·rename_i hle; have hle:=Nat.le_of_ble_eq_true hle
  cases h
  refine ⟨?_,.string _⟩; show (Op.stringOp .add a b).run P w=_; rw [run_string_add_sum (P:=P) w a b hle]; congr 2
 ·cases h
theorem zIg {d:TypeDesc} {t:TypeId} {x y x' y':Value} {b:Bool} (ht:P.underlying t=some d) (h:ceq d x y=some b) (hx:VRel ρ x x') (hy:VRel ρ y y') (w:World) (n:Nat) :
  (Op.equalIn (n+1) t x' y').run P w=.ok b w:=by
 rw [Op.equalIn]; simp only [Sem.run_bind,zAC ht,Result.andThen_ok]; unfold ceq at h; split at h <;> first | (cases h; done) | skip
 all_goals
  cases h
  cases hx <;> cases hy <;> rfl
theorem zDO (t:TypeId) (x y:Value):Op.equal t x y=Op.equalIn (9999+1) t x y:=rfl
theorem zE0 {t:TypeId} {xs xs':Array Value} {off:Nat} {v:Value} (h:zL7 P t xs off=some v) (hx:LRel ρ xs.toList xs'.toList) (w:World):∃ v',(part t xs' off).run P w=.ok v' w∧VRel ρ v v':=by
 unfold zL7 at h
 split at h
 ·rename_i m ha hm
  cases h
  refine ⟨.agg (xs'.extract off (off+m)),by simp only [part,Sem.run_bind,zCL ha,Result.andThen_ok,if_true,zAa hm,Sem.run_pure],.agg' ?_⟩; refine ⟨by simp; have:=hx.1; simp at this; rw [this],fun i hi=>?_⟩; have hs:xs.size=xs'.size:=by simpa using hx.1
  simp at hi; have:=hx.2 (off+i) (by simp; omega); simp only [List.getD_eq_getElem?_getD,Array.getElem?_toList] at this ⊢; rw [Array.getElem?_extract,Array.getElem?_extract,if_pos (by omega),if_pos (by omega)]; exact this
 ·rename_i ha; obtain ⟨y,hy,hv⟩:=hx.get (i:=off) (x:=v) (by simpa using h); have hy:xs'[off]?=some y:=by simpa using hy
  exact ⟨y,by simp only [part,Sem.run_bind,zCL ha,Result.andThen_ok,Bool.false_eq_true,if_false,hy,Sem.run_pure],hv⟩
 ·cases h
theorem zNY {eq:TypeId→Value→Value→Option Bool} {n:Nat} (hq:∀ t x y b x' y',eq t x y=some b→VRel ρ x x'→VRel ρ y y'→∀ w:World,(Op.equalIn n t x' y').run P w=.ok b w)
  {xs ys xs' ys':Array Value} (hx:LRel ρ xs.toList xs'.toList) (hy:LRel ρ ys.toList ys'.toList) (w:World):∀ (fs:List Field) (b:Bool),zRe P eq xs ys fs=some b→(Op.eqFields n xs' ys' fs).run P w=.ok b w:=by
 intro fs
 induction fs with
 | nil=>intro b h; cases h; simp [Op.eqFields]
 | cons f fs ih =>
  intro b h; simp only [zRe,cond_eq_ite] at h
  split at h
  ·rename_i hn; have hn:f.name="_":=by simpa using hn
   simp only [Op.eqFields,hn,ne_eq,not_true_eq_false,if_false]; exact ih b h
  ·rename_i hn; have hn:f.name≠"_":=by simpa using hn
   split at h
   ·rename_i u v hu hv; obtain ⟨u',hu',ru⟩:=zE0 hu hx w; obtain ⟨v',hv',rv⟩:=zE0 hv hy w; simp only [Op.eqFields,if_pos hn,Sem.run_bind,hu',hv',Result.andThen_ok]
    split at h
    ·rename_i he; rw [hq _ _ _ _ _ _ he ru rv w]; simp only [Result.andThen_ok,Bool.not_true,Bool.false_eq_true,if_false]; exact ih b h
    ·rename_i he
     cases h
     rw [hq _ _ _ _ _ _ he ru rv w]; simp
    ·cases h
   ·cases h
theorem zIa (t:TypeId) (x y:Operand) (a b:Value):∀ op,(op=BinOp.eql∨op=.neq)→(eqGuard op t x y a b)=(match a,b with
  | .nilIface,.nilIface =>
   if ((match x with | .const _=>true | _=>false) || (match y with | .const _=>true | _=>false))=true then pure () else do
   if ←Op.eqGuardIn Op.maxDepth t a b then unsupported (.noEntry "binop/eql: two nil values of an interface type with methods, neither of them the literal nil")
  | .agg _,.agg _=>do
   if !(←program).eqGuardType (←program).depth t then return
   if ←Op.eqGuardIn Op.maxDepth t a b then unsupported (.noEntry "binop/eql: two nil values of an interface type with methods, in a part of a struct or an array")
  | _,_=>pure ()):=by
 rintro op (rfl | rfl) <;> rfl
theorem zTJ (x y:Operand):(zDi x || zDi y)=true→((match x with | .const _=>true | _=>false) || (match y with | .const _=>true | _=>false))=true:=by
 cases x <;> cases y <;> intro h <;> first | rfl | cases h
theorem zBv {op:BinOp} {t:TypeId} {x y:Operand} {a b:Value} (hop:op=.eql∨op=.neq) (h1:∀ u v,¬(a=.agg u∧b=.agg v)) (h2:¬(a=.nilIface∧b=.nilIface)∨(zDi x || zDi y)=true) (w:World) :
  (eqGuard op t x y a b).run P w=.ok () w:=by
 rw [zIa t x y a b op hop]
 split
 ·rcases h2 with h2 | h2
  ·exact (h2 ⟨rfl,rfl⟩).elim
  ·rw [if_pos (zTJ x y h2)]; rfl
 ·exact (h1 _ _ ⟨rfl,rfl⟩).elim
 ·rfl
theorem zC7 {op:BinOp} {t:TypeId} {x y:Operand} {a b:Value} (h:op≠.eql) (k:op≠.neq) (w:World):(eqGuard op t x y a b).run P w=.ok () w:=by
 cases op <;> first | rfl | exact (h rfl).elim | exact (k rfl).elim
theorem zMB {d:TypeDesc} {x y x' y':Value} {b:Bool} (h:ceq d x y=some b) (hx:VRel ρ x x') (hy:VRel ρ y y') :
  (∀ u v,¬(x'=.agg u∧y'=.agg v))∧¬(x'=.nilIface∧y'=.nilIface):=by
 unfold ceq at h; split at h <;> first | (cases h; done) | skip
 all_goals
  cases hx <;> cases hy <;> exact ⟨fun u v h=>by simp at h,fun h=>by simp at h⟩
theorem zMC {d:TypeDesc} {t:TypeId} {x y x' y':Value} {b:Bool} (h:ceq d x y=some b) (hx:VRel ρ x x') (hy:VRel ρ y y') :
  binOp .eql t x' y'=(do pure (.bool (←Op.equal t x' y')))∧binOp .neq t x' y'=(do pure (.bool (!(←Op.equal t x' y')))):=by
 unfold ceq at h; split at h <;> first | (cases h; done) | skip
 all_goals
  cases hx <;> cases hy <;> exact ⟨rfl,rfl⟩
theorem zRf {eq:Value→Value→Option Bool} {elem:TypeId} {n m:Nat} (hq:∀ x y b x' y',eq x y=some b→VRel ρ x x'→VRel ρ y y'→∀ w:World,(Op.equalIn n elem x' y').run P w=.ok b w)
  {xs ys xs' ys':Array Value} (hx:LRel ρ xs.toList xs'.toList) (hy:LRel ρ ys.toList ys'.toList) (w:World):∀ (k i:Nat) (b:Bool),zTK P eq elem m xs ys k i=some b →
   (forIn (List.range' i k) ((none,()):Option Bool × Unit) (fun j _=>do
    if (!(←Op.equalIn n elem (←part elem xs' (j*m)) (←part elem ys' (j*m))))=true then pure (ForInStep.done (some false,())) else pure (ForInStep.yield (none,()))):Sem (Option Bool × Unit)).run P w=.ok (if b then (none,()) else (some false,())) w:=by
 intro k
 induction k with
 | zero=>intro i b h; cases h; simp
 | succ k ih =>
  intro i b h; simp only [zTK] at h
  split at h
  ·rename_i u v hu hv; obtain ⟨u',hu',ru⟩:=zE0 hu hx w; obtain ⟨v',hv',rv⟩:=zE0 hv hy w; simp only [List.range'_succ,List.forIn_cons,Sem.run_bind,hu',hv',Result.andThen_ok]
   split at h
   ·rename_i he; rw [hq _ _ _ _ _ he ru rv w]; simp only [Result.andThen_ok,Bool.not_true,Bool.false_eq_true,if_false,Sem.run_pure]; exact ih (i+1) b h
   ·rename_i he
    cases h
    rw [hq _ _ _ _ _ he ru rv w]; simp
   ·cases h
  ·cases h
theorem zG3:∀ (n:Nat) (t:TypeId) (x y:Value) (b:Bool) (x' y':Value),zTq P n t x y=some b→VRel ρ x x'→VRel ρ y y'→∀ (m:Nat),n≤m→∀ w:World,(Op.equalIn m t x' y').run P w=.ok b w:=by
 intro n
 induction n with
 | zero=>intro t x y b x' y' h; cases h
 | succ n ih =>
  intro t x y b x' y' h hx hy m hm w; obtain ⟨m,rfl⟩:∃ k,m=k+1:=⟨m-1,by omega⟩
  have hm:n≤m:=by omega
  simp only [zTq] at h
  split at h
  ·cases h
  rename_i d hd
  split at h
  ·rename_i fs xs ys; rw [cond_eq_ite] at h
   split at h
   ·cases h
   ·rename_i hs; have hs:P.stoodInHeld t=false:=by simpa using hs
    obtain ⟨xs',rfl,rx⟩:=hx.agg_inv; obtain ⟨ys',rfl,ry⟩:=hy.agg_inv; have hf:P.fieldsOf t=fs:=by simp [Program.fieldsOf,hd]
    rw [run_equalIn_struct (P:=P) w m t xs' ys' (by rw [hf]; exact hd) hs,hf]; exact zNY (fun t x y b x' y' h1 h2 h3 w=>ih t x y b x' y' h1 h2 h3 m hm w) rx ry w _ _ h
  ·rename_i len elem xs ys; obtain ⟨xs',rfl,rx⟩:=hx.agg_inv; obtain ⟨ys',rfl,ry⟩:=hy.agg_inv
   split at h
   ·rename_i s hs; have:=zRf (m:=s) (fun x y b x' y' h1 h2 h3 w=>ih elem x y b x' y' h1 h2 h3 m hm w) rx ry w len 0 b h; rw [Op.equalIn]; simp only [Sem.run_bind,zAC hd,Result.andThen_ok,zAa hs,Std.Legacy.Range.forIn_eq_forIn_range',Std.Legacy.Range.size,Nat.sub_zero,Nat.add_sub_cancel,Nat.div_one]; rw [this]
    cases b <;> simp
   ·cases h
  ·rename_i k1 a k2 b2; rw [cond_eq_ite] at h
   split at h
   ·rename_i hk; have hk:k1=k2:=by simpa using hk
    subst hk
    cases h; cases hx; cases hy
    rw [Op.equalIn]; simp only [Sem.run_bind,zAC hd,Result.andThen_ok,if_true,Sem.run_pure]
   ·cases h
  ·rename_i a b2
   cases h; cases hx; cases hy
   rw [Op.equalIn]; simp only [Sem.run_bind,zAC hd,Result.andThen_ok,Sem.run_pure,zIl,beq_toListBytes]
  ·exact zIg hd h hx hy w m
theorem zIb {op:BinOp} {t:TypeId} {x y:Operand} {xs ys:Array Value} (hop:op=.eql∨op=.neq) (hg:P.eqGuardType P.depth t=false) (w:World) :
  (eqGuard op t x y (.agg xs) (.agg ys)).run P w=.ok () w:=by
 rw [zIa t x y _ _ op hop]; simp only [Sem.run_bind,run_program,Result.andThen_ok,hg,Bool.not_false,if_true,Sem.run_pure]
theorem zMM (t:TypeId) (xs ys:Array Value):binOp .eql t (.agg xs) (.agg ys)=(do pure (.bool (←Op.equal t (.agg xs) (.agg ys))))∧binOp .neq t (.agg xs) (.agg ys)=(do pure (.bool (!(←Op.equal t (.agg xs) (.agg ys))))):=⟨rfl,rfl⟩
theorem zIZ {t:TypeId} {m:Array (String × TypeId)} (ht:P.underlying t=some (.interface m)) (n:Nat) (w:World):(Op.equalIn (n+1) t .nilIface .nilIface).run P w=.ok true w:=by
 rw [Op.equalIn]; simp only [Sem.run_bind,zAC ht,Result.andThen_ok,Sem.run_pure]
theorem zML (t:TypeId):binOp .eql t .nilIface .nilIface=(do pure (.bool (←Op.equal t .nilIface .nilIface)))∧binOp .neq t .nilIface .nilIface=(do pure (.bool (!(←Op.equal t .nilIface .nilIface)))):=⟨rfl,rfl⟩
theorem zPg {op:BinOp} {t:TypeId} {x y:Operand} {vx vy vx' vy' v:Value} (h:zAL P op t (zDi x || zDi y) vx vy=some v) (hx:VRel ρ vx vx') (hy:VRel ρ vy vy') (w:World) :
  ∃ v',(do eqGuard op t x y vx' vy'; binOp op t vx' vy':Sem Value).run P w=.ok v' w∧VRel ρ v v':=by
 unfold zAL at h
 split at h
 ·rw [cond_eq_ite] at h
  split at h
  ·cases h
  ·rename_i hb
   cases h
   cases hx; cases hy
   simp only [decide_eq_true_eq] at hb; exact ⟨_,by simp only [Sem.run_bind,zC7 (op:=.shl) (by simp) (by simp),Result.andThen_ok,binOp,Op.shift,hb,if_false,Sem.run_pure],.int _ _⟩
 ·rw [cond_eq_ite] at h
  split at h
  ·cases h
  ·rename_i hb
   cases h
   cases hx; cases hy
   simp only [decide_eq_true_eq] at hb; exact ⟨_,by simp only [Sem.run_bind,zC7 (op:=.shr) (by simp) (by simp),Result.andThen_ok,binOp,Op.shift,hb,if_false,Sem.run_pure],.int _ _⟩
 ·rename_i k a k' b h1 h2; rw [cond_eq_ite] at h
  split at h
  ·rename_i hk; have hk:k=k':=by simpa using hk
   subst hk
   cases hx; cases hy
   obtain ⟨hr,hv⟩:=zPb (P:=P) (ρ:=ρ) (t:=t) h w; refine ⟨v,?_,hv⟩
   have hg:(eqGuard op t x y (.int k a) (.int k b)).run P w=.ok () w:=by
    by_cases e1:op=.eql
    ·exact zBv (.inl e1) (fun u v h=>by simp at h) (.inl fun h=>by simp at h) w
    ·by_cases e2:op=.neq
     ·exact zBv (.inr e2) (fun u v h=>by simp at h) (.inl fun h=>by simp at h) w
     ·exact zC7 e1 e2 w
   simp only [Sem.run_bind,hg,Result.andThen_ok,hr]
  ·cases h
 ·rename_i a b
  cases hx; cases hy
  obtain ⟨hr,hv⟩:=zPX (P:=P) (ρ:=ρ) (t:=t) h w; refine ⟨v,?_,hv⟩
  have hg:(eqGuard op t x y (.string a) (.string b)).run P w=.ok () w:=by
   by_cases e1:op=.eql
   ·exact zBv (.inl e1) (fun u v h=>by simp at h) (.inl fun h=>by simp at h) w
   ·by_cases e2:op=.neq
    ·exact zBv (.inr e2) (fun u v h=>by simp at h) (.inl fun h=>by simp at h) w
    ·exact zC7 e1 e2 w
  simp only [Sem.run_bind,hg,Result.andThen_ok,hr]
 ·rw [cond_eq_ite] at h
  split at h
  ·cases h
  ·rename_i hg; have hg:P.eqGuardType P.depth t=false:=by simpa using hg
   rw [Option.map_eq_some_iff] at h; obtain ⟨b,hb,rfl⟩:=h; obtain ⟨xs',rfl,_⟩:=hx.agg_inv; obtain ⟨ys',rfl,_⟩:=hy.agg_inv; refine ⟨.bool b,?_,.bool _⟩; simp only [Sem.run_bind,zIb (.inl rfl) hg,Result.andThen_ok,(zMM t xs' ys').1,zDO,zG3 20 _ _ _ _ _ _ hb hx hy 10000 (by omega),Sem.run_pure]
 ·rw [cond_eq_ite] at h
  split at h
  ·cases h
  ·rename_i hg; have hg:P.eqGuardType P.depth t=false:=by simpa using hg
   rw [Option.map_eq_some_iff] at h; obtain ⟨b,hb,rfl⟩:=h; obtain ⟨xs',rfl,_⟩:=hx.agg_inv; obtain ⟨ys',rfl,_⟩:=hy.agg_inv; refine ⟨.bool (!b),?_,.bool _⟩; simp only [Sem.run_bind,zIb (.inr rfl) hg,Result.andThen_ok,(zMM t xs' ys').2,zDO,zG3 20 _ _ _ _ _ _ hb hx hy 10000 (by omega),Sem.run_pure]
 ·split at h
  ·rename_i m hm; rw [cond_eq_ite] at h
   split at h
   ·rename_i hc
    cases h
    cases hx; cases hy
    refine ⟨.bool true,?_,.bool _⟩; simp only [Sem.run_bind,zBv (a:=.nilIface) (b:=.nilIface) (.inl rfl) (fun u v h=>by simp at h) (.inr hc),Result.andThen_ok,(zML t).1,zDO,zIZ hm,Sem.run_pure]
   ·cases h
  ·cases h
 ·split at h
  ·rename_i m hm; rw [cond_eq_ite] at h
   split at h
   ·rename_i hc
    cases h
    cases hx; cases hy
    refine ⟨.bool false,?_,.bool _⟩; simp only [Sem.run_bind,zBv (a:=.nilIface) (b:=.nilIface) (.inr rfl) (fun u v h=>by simp at h) (.inr hc),Result.andThen_ok,(zML t).2,zDO,zIZ hm,Sem.run_pure]; rfl
   ·cases h
  ·cases h
 ·split at h
  ·rename_i d hd; rw [Option.map_eq_some_iff] at h; obtain ⟨b,hb,rfl⟩:=h; obtain ⟨s1,s2⟩:=zMB hb hx hy; refine ⟨.bool b,?_,.bool _⟩; simp only [Sem.run_bind,zBv (.inl rfl) s1 (.inl s2),Result.andThen_ok,(zMC (t:=t) hb hx hy).1,zDO,zIg hd hb hx hy,Sem.run_pure]
  ·cases h
 ·split at h
  ·rename_i d hd; rw [Option.map_eq_some_iff] at h; obtain ⟨b,hb,rfl⟩:=h; obtain ⟨s1,s2⟩:=zMB hb hx hy; refine ⟨.bool (!b),?_,.bool _⟩; simp only [Sem.run_bind,zBv (.inr rfl) s1 (.inl s2),Result.andThen_ok,(zMC (t:=t) hb hx hy).2,zDO,zIg hd hb hx hy,Sem.run_pure]
  ·cases h
 ·cases h
theorem zSh {op:BinOp} {t t2:TypeId} {x y:Operand} (ho:o.op=.binOp op t x y t2) (h:cop P o e W=some outs) (hw:WRel P w0 ρ W w) (hx:VRel ρ (e x) (e' x)) (hy:VRel ρ (e y) (e' y)) :
  OpSound P w0 ρ W ((execOp e' o).run P w) outs:=by
 simp only [cop,ho] at h; obtain ⟨v,hv,rfl⟩:=zCO h; obtain ⟨v',hr,hv'⟩:=zPg hv hx hy w; refine .value hw ?_ hv'; simp only [execOp,ho]; exact zAf hr
end
end Go.Ce
namespace Go.Ce
open Go.RowKit (Below)
section
variable {P:Program} {w0:World} {ρ:Ren} {W:CW} {w:World} {o:Oper} {e e':Operand→Value} {outs:List (CNext × CW)}
theorem LRel.set {c c':Array Value} (h:LRel ρ c.toList c'.toList) {v v':Value} (hv:VRel ρ v v') (i:Nat):LRel ρ (c.setIfInBounds i v).toList (c'.setIfInBounds i v').toList:=by
 rw [LRel.arr] at h ⊢; refine ⟨by simp [h.1],fun j hj=>?_⟩; rw [Array.size_setIfInBounds] at hj; have hj':j<c'.size:=h.1 ▸ hj; have h2:=h.2 j hj; simp only [Array.getD_eq_getD_getElem?] at h2 ⊢; rw [Array.getElem?_setIfInBounds,Array.getElem?_setIfInBounds]
 by_cases e:i=j
 ·rw [if_pos e,if_pos e,if_pos (by omega),if_pos (by omega)]; exact hv
 ·rw [if_neg e,if_neg e]; exact h2
theorem zKG (off:Nat):∀ (vs vs':List Value) (k:Nat) (c c':Array Value),LRel ρ vs vs'→LRel ρ c.toList c'.toList →
  LRel ρ ((vs.zipIdx k).foldl (fun cs (p:Value × Nat)=>cs.setIfInBounds (off+p.2) p.1) c).toList ((vs'.zipIdx k).foldl (fun cs (p:Value × Nat)=>cs.setIfInBounds (off+p.2) p.1) c').toList:=by
 intro vs
 induction vs with
 | nil =>
  intro vs' k c c' h hc
  cases vs' with
  | nil=>exact hc
  | cons y ys=>have:=h.1; simp at this
 | cons x xs ih =>
  intro vs' k c c' h hc
  cases vs' with
  | nil=>have:=h.1; simp at this
  | cons y ys =>
   simp only [List.zipIdx_cons,List.foldl_cons]; exact ih ys (k+1) _ _ h.tail (hc.set h.head _)
inductive PRel (ρ:Ren):List (Nat × Value)→List (Nat × Value)→Prop
 | nil:PRel ρ [] []
 | cons (i:Nat) {v v':Value} {xs ys:List (Nat × Value)}:VRel ρ v v'→PRel ρ xs ys→PRel ρ ((i,v)::xs) ((i,v')::ys)
theorem PRel.map (xs:List (Nat × Operand)) (h:∀ p,p ∈ xs→VRel ρ (e p.2) (e' p.2)):PRel ρ (xs.map fun (i,x)=>(i,e x)) (xs.map fun (i,x)=>(i,e' x)):=by
 induction xs with
 | nil=>exact .nil
 | cons p xs ih=>exact .cons _ (h p (by simp)) (ih fun q hq=>h q (by simp [hq]))
theorem zKL (zQQ:Nat→Option (Nat × Nat)):∀ {xs ys:List (Nat × Value)},PRel ρ xs ys→∀ {c c' r:Array Value},LRel ρ c.toList c'.toList→Instr.fill zQQ c xs=some r →
  ∃ r',Instr.fill zQQ c' ys=some r'∧LRel ρ r.toList r'.toList:=by
 intro xs ys h
 induction h with
 | nil =>
  intro c c' r hc hr; simp only [Instr.fill,Option.some.injEq] at hr; subst hr; exact ⟨c',rfl,hc⟩
 | @cons i v v' xs ys hv hp ih =>
  intro c c' r hc hr; rw [Instr.fill] at hr ⊢
  cases hpl:zQQ i with
  | none=>rw [hpl] at hr; cases hr
  | some q =>
   obtain ⟨off,size⟩:=q; rw [hpl] at hr; simp only at hr ⊢; have hcells:=hv.cells; have e1:v'.cells.size=v.cells.size:=by have:=hcells.1; simpa using this.symm
   have e2:c'.size=c.size:=by have:=hc.1; simpa using this.symm
   rw [e1,e2]
   split at hr
   ·cases hr
   ·rename_i hcond; rw [if_neg hcond]; refine ih ?_ hr; rw [←Array.foldl_toList,←Array.foldl_toList,Array.toList_zipIdx,Array.toList_zipIdx]; exact zKG off _ _ 0 _ _ hcells hc
theorem zMw {fs:List Field} {pl:List (Nat × Nat)} (h:(fs.mapM fun f=>(siz P f.type).map fun s=>(f.offset,s))=some pl) (w:World) :
  (fs.mapM fun f=>(do pure (f.offset,←sizeOf f.type):Sem (Nat × Nat))).run P w=.ok pl w:=by
 induction fs generalizing pl with
 | nil=>simp only [List.mapM_nil,Option.pure_def,Option.some.injEq] at h; subst h; simp
 | cons f fs ih =>
  rw [List.mapM_cons] at h
  cases hs:siz P f.type with
  | none=>simp [hs] at h
  | some s =>
   simp only [hs,Option.map_some,Option.bind_eq_bind,Option.bind_some] at h
   cases hr:(fs.mapM fun f=>(siz P f.type).map fun s=>(f.offset,s)) with
   | none=>simp [hr] at h
   | some pl2 =>
    simp only [hr,Option.bind_some,Option.pure_def,Option.some.injEq] at h; subst h; rw [List.mapM_cons]; simp only [Sem.run_bind,zAa hs,Result.andThen_ok,Sem.run_pure,ih hr]
theorem zSg (hz:ZP P) {t:TypeId} {parts:Array (Nat × Operand)} (ho:o.op=.build t parts) (h:cop P o e W=some outs) (hw:WRel P w0 ρ W w) (hp:∀ p,p ∈ parts.toList→VRel ρ (e p.2) (e' p.2)) :
  OpSound P w0 ρ W ((execOp e' o).run P w) outs:=by
 simp only [cop,ho] at h; obtain ⟨v,hv,rfl⟩:=zCO h
 split at hv
 ·rename_i z fields hzz ht
  split at hv
  ·rename_i places hpl; rw [Option.map_eq_some_iff] at hv; obtain ⟨r,hr,rfl⟩:=hv; obtain ⟨r',hr',hrel⟩:=zKL _ (PRel.map (e:=e) (e':=e') parts.toList hp) (hz.rel hzz ρ).cells hr; refine .value hw (v':=.agg r') ?_ (.agg' hrel); simp only [execOp,ho]; refine zAf ?_
   have hm:(fields.mapM fun f=>(do pure (f.offset,←sizeOf f.type):Sem (Nat × Nat))).run P w=.ok places.toArray w:=by
    have:=zMw hpl w; rw [←Array.toArray_toList (xs:=fields),List.mapM_toArray]; simp only [Sem.run_map,this,Result.andThen_ok]
   simp only [Instr.build,Sem.run_bind,zAe hzz,Result.andThen_ok,zAC ht,hm]; have:(fun i:Nat=>places.toArray[i]?)=(fun i:Nat=>places[i]?):=by funext i; simp
   rw [this,Array.toList_map,hr']; rfl
  ·cases hv
 ·rename_i z n elem hzz ht
  split at hv
  ·rename_i s hs; rw [Option.map_eq_some_iff] at hv; obtain ⟨r,hr,rfl⟩:=hv; obtain ⟨r',hr',hrel⟩:=zKL _ (PRel.map (e:=e) (e':=e') parts.toList hp) (hz.rel hzz ρ).cells hr; refine .value hw (v':=.agg r') ?_ (.agg' hrel); simp only [execOp,ho]; refine zAf ?_; simp only [Instr.build,Sem.run_bind,zAe hzz,Result.andThen_ok,zAC ht,zAa hs]; rw [Array.toList_map,hr']; rfl
  ·cases hv
 ·cases hv
theorem zFt (hz:ZP P) {t:TypeId} {z:Value} (hzz:zer P t=some z) (n:Nat) (hn:n=0∨0<z.cells.size) (k:Nat) (hk:k<n) :
  VRel ρ (zBh .nil z.cells k) (((Array.range n).map (z.cells[· % z.cells.size]!)).getD k undef):=by
 have hpos:0<z.cells.size:=by omega
 have hlt:k % z.cells.size<z.cells.size:=Nat.mod_lt _ hpos; have h1:zBh .nil z.cells k=z.cells.getD (k % z.cells.size) undef:=rfl
 have h2:((Array.range n).map (z.cells[· % z.cells.size]!)).getD k undef=z.cells.getD (k % z.cells.size) undef:=by
  simp [Array.getD_eq_getD_getElem?,hk,hlt]
 rw [h1,h2]; have hc:=(hz.rel hzz ρ).cells.2 (k % z.cells.size) (by simpa using hlt)
 simpa [Array.getD_eq_getD_getElem?,List.getD_eq_getElem?_getD] using hc
theorem zKB (hz:ZP P) {t:TypeId} {len:Nat} {parts:Array (Nat × Operand)} (ho:o.op=.buildSlice t len parts) (h:cop P o e W=some outs) (hw:WRel P w0 ρ W w) (hp:∀ p,p ∈ parts.toList→VRel ρ (e p.2) (e' p.2)) :
  OpSound P w0 ρ W ((execOp e' o).run P w) outs:=by
 simp only [cop,ho] at h; obtain ⟨v,W1,hv,rfl⟩:=zGc h
 split at hv
 ·rename_i elem ht; obtain ⟨s,hs,hv⟩:=zAO hv; obtain ⟨z,hzz,hv⟩:=zAO hv; rw [cond_eq_ite] at hv
  split at hv
  ·rename_i hcond; simp only [Bool.and_eq_true] at hcond; have hle:=Nat.le_of_ble_eq_true hcond.1; have hsz:=Nat.eq_of_beq_eq_true hcond.2
   split at hv
   ·rename_i cs hfill; simp only [Option.some.injEq,Prod.mk.injEq] at hv; obtain ⟨rfl,rfl⟩:=hv
    have hzero:len*s=0∨0<z.cells.size:=by
     rw [hsz]
     rcases Nat.eq_zero_or_pos s with h0 | h0
     ·left; rw [h0]; rfl
     ·exact .inr h0
    have hinit:LRel ρ ((zAh .nil z.cells (len*s) 0).toArray).toList ((Array.range (len*s)).map (z.cells[· % z.cells.size]!)).toList:=by
     refine ⟨by simp [zAV],fun i hi=>?_⟩; have hi:i<len*s:=by simpa [zAV] using hi
     have:=zFt (ρ:=ρ) hz hzz (len*s) hzero i hi; have e1:=zCP .nil z.cells (len*s) 0 i hi; rw [Nat.zero_add] at e1; simp only [List.toList_toArray,e1]; rw [Array.getD_eq_getD_getElem?,←Array.getElem?_toList] at this; rw [List.getD_eq_getElem?_getD]; exact this
    obtain ⟨r',hr',hrel⟩:=zKL _ (PRel.map (e:=e) (e':=e') parts.toList hp) hinit hfill
    obtain ⟨ρ',hext,_,hw',ha⟩:=zHc hw (c:=Tr.nil.putFrom 0 cs.toList) (z:=#[]) (n:=cs.size) (c':=r') hs (by simpa using hrel.1.symm) (fun k hk=>by
     rw [zBL _ _ _ (by simpa using hk)]; have:=hrel.2 k (by simpa using hk)
     simpa [Array.getD_eq_getD_getElem?,List.getD_eq_getElem?_getD] using this)
    refine ⟨_,_,ρ',List.mem_singleton.2 rfl,hext,.value (w:={ w with heap:=w.heap.push (.cells r' elem) }) ?_ (.slice _ ha (.inl rfl)) hw'⟩; simp only [execOp,ho]; refine zAf ?_; have hbig:¬len*s>2 ^ 24:=by omega
    have range0:∀ f g:Nat→Value,len*s=0→(Array.range (len*s)).map f=(Array.range (len*s)).map g:=fun f g h0=>by simp [h0]
    simp only [Instr.buildSlice,Sem.run_bind,zAC ht,Result.andThen_ok,zAa hs]; rw [if_neg hbig]
    by_cases h0:len*s=0
    ·rw [if_pos h0]; simp only [Sem.run_bind,Sem.run_pure,Result.andThen_ok]; rw [range0 _ (z.cells[· % z.cells.size]!) h0,Array.toList_map,hr']; simp [newRow]
    ·rw [if_neg h0]; simp only [Sem.run_bind,zAe hzz,Sem.run_pure,Result.andThen_ok]; rw [Array.toList_map,hr']; simp [newRow]
   ·cases hv
  ·cases hv
 ·cases hv
theorem zF4 {t elem:TypeId} {k1 k2:IntKind} {ln cp:Int} {s:Nat} {z:Value} (ht:P.underlying t=some (.slice elem)) (hs:siz P elem=some s) (hzz:zer P elem=some z) (c1:0≤ln) (c2:ln≤cp) (c3:cp≤2000000)
  (c4:(P.info? elem).map (·.bytes) |>.getD 0 |> (·≤1024)) (w:World) :
  (Instr.makeSlice t (.int k1 ln) (.int k2 cp)).run P w=.ok (.slice (some ⟨w.heap.size,0,none⟩) ln.toNat cp.toNat) { w with heap:=w.heap.push (.cells ((Array.range (cp.toNat*s)).map (z.cells[· % z.cells.size]!)) elem) }:=by
 obtain ⟨info,hinfo⟩:∃ i,P.info? elem=some i:=by
  unfold siz at hs
  cases hi:P.info? elem with
  | none=>simp [hi] at hs
  | some i=>exact ⟨i,rfl⟩
 have hb:info.bytes≤1024:=by simpa [hinfo] using c4
 have w1:IntKind.i64.wrap ln=ln:=by unfold IntKind.wrap; simp [IntKind.bits,IntKind.signed]; omega
 have w2:IntKind.i64.wrap cp=cp:=by unfold IntKind.wrap; simp [IntKind.bits,IntKind.signed]; omega
 have hbig:(info.bytes:Int)*cp≤2 ^ 48:=by
  have h1:(info.bytes:Int)*cp≤1024*cp:=Int.mul_le_mul_of_nonneg_right (by omega) (by omega); omega
 have t1:(decide (cp<0) || decide ((info.bytes:Int)*cp>2 ^ 48))=false:=by simp; omega
 simp only [Instr.makeSlice,Sem.run_bind,zAC ht,Result.andThen_ok,asInt,asIntOf,Sem.run_pure,zC3 hinfo,w1,w2,t1,Bool.false_or,Bool.or_eq_true,decide_eq_true_eq]; rw [if_neg (by omega)]; simp only [Sem.run_bind,run_askRoom,Result.andThen_ok,zAa hs]; have range0:∀ f g:Nat→Value,cp.toNat*s=0→(Array.range (cp.toNat*s)).map f=(Array.range (cp.toNat*s)).map g:=fun f g h0=>by simp [h0]
 by_cases h0:cp.toNat*s=0
 ·rw [if_pos h0]; simp only [Sem.run_bind,Sem.run_pure,Result.andThen_ok]; rw [range0 _ (z.cells[· % z.cells.size]!) h0]; simp [newRow]
 ·rw [if_neg h0]; simp only [Sem.run_bind,zAe hzz,Sem.run_pure,Result.andThen_ok,newRow,run_newObj]
theorem zLP (hz:ZP P) {t:TypeId} {l c:Operand} (ho:o.op=.makeSlice t l c) (h:cop P o e W=some outs) (hw:WRel P w0 ρ W w) (hl:VRel ρ (e l) (e' l)) (hc:VRel ρ (e c) (e' c)) :
  OpSound P w0 ρ W ((execOp e' o).run P w) outs:=by
 simp only [cop,ho] at h; obtain ⟨v,W1,hv,rfl⟩:=zGc h
 split at hv
 ·rename_i elem k1 ln k2 cp ht h1 h2; rw [h1] at hl; rw [h2] at hc; generalize e1:e' l=vl at hl; generalize e2:e' c=vc at hc
  cases hl
  cases hc
  obtain ⟨s,hs,hv⟩:=zAO hv; obtain ⟨z,hzz,hv⟩:=zAO hv; rw [cond_eq_ite] at hv
  split at hv
  ·rename_i hcond; simp only [Bool.and_eq_true,decide_eq_true_eq] at hcond; obtain ⟨⟨⟨⟨⟨c1,c2⟩,c3⟩,c4⟩,c5⟩,c6⟩:=hcond; have c4:=Nat.le_of_ble_eq_true c4; have c5:=Nat.eq_of_beq_eq_true c5; have c6:0<s:=by have:=Nat.le_of_ble_eq_true c6; omega
   simp only [Option.some.injEq,Prod.mk.injEq] at hv; obtain ⟨rfl,rfl⟩:=hv; obtain ⟨ρ',hext,_,hw',ha⟩:=zHc hw (c:=.nil) (z:=z.cells) (n:=cp.toNat*s) (c':=(Array.range (cp.toNat*s)).map (z.cells[· % z.cells.size]!)) hs (by simp) (fun k hk=>zFt hz hzz _ (.inr (by omega)) k hk); refine ⟨_,_,ρ',List.mem_singleton.2 rfl,hext,.value (w:={ w with heap:=w.heap.push (.cells ((Array.range (cp.toNat*s)).map (z.cells[· % z.cells.size]!)) elem) }) ?_ (.slice _ ha (.inl rfl)) hw'⟩; simp only [execOp,ho,e1,e2]; exact zAf (zF4 ht hs hzz c1 c2 c3 c4 w)
  ·cases hv
 ·cases hv
end
end Go.Ce
namespace Go.Ce
open Go.RowKit (Below)
section
variable {P:Program} {w0:World} {ρ:Ren} {W:CW} {w:World} {o:Oper} {e e':Operand→Value} {outs:List (CNext × CW)}
theorem zMu {f:FuncId} {first cap:Array Operand} (ho:o.op=.makeFunc (.func f) first cap) (h:cop P o e W=some outs) (hw:WRel P w0 ρ W w)
  (hf:∀ x,x ∈ first.toList→VRel ρ (e x) (e' x)) (hc:∀ x,x ∈ cap.toList→VRel ρ (e x) (e' x)):OpSound P w0 ρ W ((execOp e' o).run P w) outs:=by
 simp only [cop,ho] at h
 cases h
 have h1:=LRel.arr.1 (by simpa using LRel.map (ρ:=ρ) first.toList e e' hf:LRel ρ (first.map e).toList (first.map e').toList); have h2:=LRel.arr.1 (by simpa using LRel.map (ρ:=ρ) cap.toList e e' hc:LRel ρ (cap.map e).toList (cap.map e').toList); refine .value hw ?_ (.func (.func f) h1.1 h1.2 h2.1 h2.2); simp only [execOp,ho]; exact zAf (by simp [Instr.makeFunc])
theorem zO6 {t:TypeId} (ho:o.op=.makeMap t none) (h:cop P o e W=some outs) (hw:WRel P w0 ρ W w):OpSound P w0 ρ W ((execOp e' o).run P w) outs:=by
 simp only [cop,ho] at h
 cases h
 obtain ⟨hext,hw'⟩:=hw.new (o:=.map [] 0) (o':=.map #[] 0) ⟨w.heap.size,0,0,0,0⟩ rfl (.map rfl trivial); refine ⟨_,_,_,List.mem_singleton.2 rfl,hext,.value (v':=.map (some w.heap.size)) (w:={ w with heap:=w.heap.push (.map #[] 0) }) ?_ (.map ⟨⟨w.heap.size,0,0,0,0⟩,by simp,rfl⟩) hw'⟩; simp only [execOp,ho]; exact zAf (by simp [Instr.makeMap])
theorem zLR {t:TypeId} {x:Operand} {i:Nat} (ho:o.op=.fieldAddr t x i) (h:cop P o e W=some outs) (hw:WRel P w0 ρ W w) (hx:VRel ρ (e x) (e' x)) :
  OpSound P w0 ρ W ((execOp e' o).run P w) outs:=by
 simp only [cop,ho] at h; obtain ⟨v,hv,rfl⟩:=zCO h
 split at hv
 ·rename_i fs a ht hc; rw [hc] at hx; generalize hcc:e' x=vx' at hx
  cases hx with
  | @ptr _ a' ha =>
   split at hv
   ·rename_i fd hfd
    split at hv
    ·rename_i m hm; rw [cond_eq_ite] at hv
     split at hv
     ·cases hv
     ·rename_i hm0; have hm0:m≠0:=by simpa using hm0
      cases hv
      refine .value hw (v':=.pointer (some (a'.add fd.offset))) ?_ (.ptr (zIn ha _)); simp only [execOp,ho,hcc]; refine zAf ?_; simp only [Instr.fieldAt,Sem.run_bind,zAC ht,Result.andThen_ok,hfd,Instr.sureAddr,Sem.run_pure,fieldPlace,zAa hm,if_neg hm0]
    ·cases hv
   ·cases hv
 ·cases hv
theorem LRel.extract {c c':Array Value} (h:LRel ρ c.toList c'.toList) (i j:Nat):LRel ρ (c.extract i j).toList (c'.extract i j).toList:=by
 rw [LRel.arr] at h ⊢; refine ⟨by simp [h.1],fun k hk=>?_⟩; have hk:k<min j c.size-i:=by simpa using hk
 have h2:=h.2 (i+k) (by omega); have l1:i+k<c.size:=by omega
 have l2:i+k<c'.size:=by omega
 simp only [Array.getD_eq_getD_getElem?] at h2 ⊢; have g1:(c.extract i j)[k]?=c[i+k]?:=by rw [Array.getElem?_extract,if_pos (by omega)]
 have g2:(c'.extract i j)[k]?=c'[i+k]?:=by rw [Array.getElem?_extract,if_pos (by omega)]
 rw [g1,g2]; exact h2
theorem zNy {t:TypeId} {cs cs':Array Value} {off:Nat} {v:Value} (hl:LRel ρ cs.toList cs'.toList)
  (h:(agg? P t=some true∧∃ m,siz P t=some m∧v=.agg (cs.extract off (off+m)))∨(agg? P t=some false∧cs[off]?=some v)) :
  ∃ v',(part t cs' off).run P w=.ok v' w∧VRel ρ v v':=by
 rcases h with ⟨ha,m,hm,rfl⟩ | ⟨ha,hv⟩
 ·refine ⟨.agg (cs'.extract off (off+m)),?_,.agg' (hl.extract _ _)⟩; simp only [part,Sem.run_bind,zCL ha,Result.andThen_ok,if_true,zAa hm,Sem.run_pure]
 ·obtain ⟨y,hy,hr⟩:=hl.get (x:=v) (i:=off) (by simpa using hv); have hy:cs'[off]?=some y:=by simpa using hy
  refine ⟨y,?_,hr⟩; simp only [part,Sem.run_bind,zCL ha,Result.andThen_ok,Bool.false_eq_true,if_false,hy,Sem.run_pure]
theorem zSd {t:TypeId} {x:Operand} {i:Nat} (ho:o.op=.field t x i) (h:cop P o e W=some outs) (hw:WRel P w0 ρ W w) (hx:VRel ρ (e x) (e' x)) :
  OpSound P w0 ρ W ((execOp e' o).run P w) outs:=by
 simp only [cop,ho] at h; obtain ⟨v,hv,rfl⟩:=zCO h
 split at hv
 ·rename_i fs cs ht hc; rw [hc] at hx; generalize hcc:e' x=vx' at hx; obtain ⟨cs',rfl,hl⟩:=hx.agg_inv
  split at hv
  ·rename_i fd hfd
   obtain ⟨v',hr,hv'⟩:=zNy (P:=P) (w:=w) (t:=fd.type) (off:=fd.offset) (v:=v) hl (by
    split at hv
    ·rename_i m ha hm
     cases hv
     exact .inl ⟨ha,m,hm,rfl⟩
    ·rename_i ha; exact .inr ⟨ha,hv⟩
    ·cases hv)
   refine .value hw ?_ hv'; simp only [execOp,ho,hcc]; refine zAf ?_; simp only [Instr.field,Sem.run_bind,zAC ht,Result.andThen_ok,hfd,asAgg,Sem.run_pure,hr]
  ·cases hv
 ·cases hv
theorem zLQ {t:TypeId} {x ix:Operand} (ho:o.op=.indexAddr t x ix) (h:cop P o e W=some outs) (hw:WRel P w0 ρ W w) (hx:VRel ρ (e x) (e' x)) (hi:VRel ρ (e ix) (e' ix)) :
  OpSound P w0 ρ W ((execOp e' o).run P w) outs:=by
 simp only [cop,ho] at h; obtain ⟨v,hv,rfl⟩:=zCO h
 split at hv
 ·rename_i k i hci; rw [hci] at hi; generalize hcc:e' ix=vi' at hi
  cases hi
  split at hv
  ·rename_i len elem a ht hc; rw [hc] at hx; generalize hcx:e' x=vx' at hx
   cases hx with
   | @ptr _ a' ha =>
    obtain ⟨s,hs,hv⟩:=zAO hv; rw [cond_eq_ite] at hv
    split at hv
    ·rename_i hcond; simp only [Bool.and_eq_true,decide_eq_true_eq] at hcond
     cases hv
     refine .value hw (v':=.pointer (some (a'.add (i.toNat*s)))) ?_ (.ptr (zIn ha _)); simp only [execOp,ho,hcc,hcx]; refine zAf ?_; simp only [Instr.indexAt,Sem.run_bind,asIntOf,Sem.run_pure,Result.andThen_ok,zAC ht,Instr.sureAddr,if_pos hcond,zAa hs]
    ·cases hv
  ·rename_i elem a len cp ht hc; rw [hc] at hx; generalize hcx:e' x=vx' at hx
   have:∃ a' c',vx'=.slice (some a') len c'∧(len=0∨ARel ρ a a'):=by
    cases hx with
    | slice _ ha _=>exact ⟨_,_,rfl,.inr ha⟩
    | slice0 _ _ _ _ _=>exact ⟨_,_,rfl,.inl rfl⟩
    | slice00 _=>exact ⟨_,_,rfl,.inl rfl⟩
   obtain ⟨a',c',rfl,hor⟩:=this; obtain ⟨s,hs,hv⟩:=zAO hv; rw [cond_eq_ite] at hv
   split at hv
   ·rename_i hcond; simp only [Bool.and_eq_true,decide_eq_true_eq] at hcond
    cases hv
    have ha:ARel ρ a a':=hor.resolve_left (by omega); refine .value hw (v':=.pointer (some (a'.add (i.toNat*s)))) ?_ (.ptr (zIn ha _)); simp only [execOp,ho,hcc,hcx]; refine zAf ?_; simp only [Instr.indexAt,Sem.run_bind,asIntOf,Sem.run_pure,Result.andThen_ok,zAC ht,if_pos hcond,zAa hs]
   ·cases hv
  ·cases hv
 ·cases hv
theorem zSc {t:TypeId} {x ix:Operand} (ho:o.op=.index t x ix) (h:cop P o e W=some outs) (hw:WRel P w0 ρ W w) (hx:VRel ρ (e x) (e' x)) (hi:VRel ρ (e ix) (e' ix)) :
  OpSound P w0 ρ W ((execOp e' o).run P w) outs:=by
 simp only [cop,ho] at h; obtain ⟨v,hv,rfl⟩:=zCO h
 split at hv
 ·rename_i k i hci; rw [hci] at hi; generalize hcc:e' ix=vi' at hi
  cases hi
  split at hv
  ·rename_i len elem cs ht hc; rw [hc] at hx; generalize hcx:e' x=vx' at hx; obtain ⟨cs',rfl,hl⟩:=hx.agg_inv; rw [cond_eq_ite] at hv
   split at hv
   ·rename_i hcond; simp only [Bool.and_eq_true,decide_eq_true_eq] at hcond
    have:∃ m,siz P elem=some m∧((agg? P elem=some true∧∃ n,siz P elem=some n∧v=.agg (cs.extract (i.toNat*m) (i.toNat*m+n)))∨(agg? P elem=some false∧cs[i.toNat*m]?=some v)):=by
     split at hv
     ·rename_i m ha hm
      cases hv
      exact ⟨m,hm,.inl ⟨ha,m,hm,rfl⟩⟩
     ·rename_i m ha hm; exact ⟨m,hm,.inr ⟨ha,hv⟩⟩
     ·cases hv
    obtain ⟨m,hm,hp⟩:=this; obtain ⟨v',hr,hv'⟩:=zNy (P:=P) (w:=w) hl hp; refine .value hw ?_ hv'; simp only [execOp,ho,hcc,hcx]; refine zAf ?_; simp only [Instr.index,Sem.run_bind,asIntOf,Sem.run_pure,Result.andThen_ok,zAC ht,if_pos hcond,zAa hm,hr]
   ·cases hv
  ·rename_i s ht hc; rw [hc] at hx; generalize hcx:e' x=vx' at hx
   cases hx
   rw [cond_eq_ite] at hv
   split at hv
   ·rename_i hcond; have hcond:0≤i:=by simpa using hcond
    cases hs:s[i.toNat]? with
    | none=>rw [hs] at hv; cases hv
    | some b =>
     rw [hs] at hv
     cases hv
     refine .value hw ?_ (.int _ _); simp only [execOp,ho,hcc,hcx]; refine zAf ?_; simp only [Instr.index,Sem.run_bind,asIntOf,Sem.run_pure,Result.andThen_ok,zAC ht,if_pos hcond,hs]
   ·cases hv
  ·cases hv
 ·cases hv
theorem zSZ {t:TypeId} {x:Operand} {lo hi mx:Option Operand} (ho:o.op=.slice t x lo hi mx) (h:cop P o e W=some outs) (hw:WRel P w0 ρ W w) (hx:VRel ρ (e x) (e' x))
  (hl:∀ y,lo=some y→VRel ρ (e y) (e' y)) (hh:∀ y,hi=some y→VRel ρ (e y) (e' y)) (hm:∀ y,mx=some y→VRel ρ (e y) (e' y)):OpSound P w0 ρ W ((execOp e' o).run P w) outs:=by
 simp only [cop,ho] at h; obtain ⟨v,hv,rfl⟩:=zCO h; have rl:=ORelV.map (ρ:=ρ) (f:=e) (g:=e') lo hl; have rh:=ORelV.map (ρ:=ρ) (f:=e) (g:=e') hi hh; have rm:=ORelV.map (ρ:=ρ) (f:=e) (g:=e') mx hm
 split at hv
 ·rename_i s ht hc; rw [hc] at hx; generalize hcx:e' x=vx' at hx
  cases hx
  obtain ⟨h',hh',hv⟩:=zAO hv; obtain ⟨l',hl',hv⟩:=zAO hv; rw [cond_eq_ite] at hv
  split at hv
  ·cases hv
  ·rename_i hmx
   cases hv
   have hmx:mx=none:=by cases mx <;> simp_all
   subst hmx; have hb:=zE3 (P:=P) (ρ:=ρ) (mx:=none) (mx':=none) (cap:=s.size) (cap':=s.size) (m:=s.size) false rfl hh' hl' rl rh trivial (Nat.le_refl _) (by simp); obtain ⟨m',hr,_,_⟩:=hb; refine .value hw ?_ (.string _); simp only [execOp,ho,hcx]; refine zAf ?_; simp only [Instr.sliceAt,Sem.run_bind,zAC ht,Result.andThen_ok,Instr.slice,Option.map_none,Option.isSome_none,Bool.false_eq_true,if_false,Sem.run_pure,hr]
 ·obtain ⟨v',hr,hv'⟩:=zL6 hw hv hx rl rh rm; refine .value hw ?_ hv'; simp only [execOp,ho]; exact zAf hr
theorem zKA (hz:ZP P) {x:Operand} {xt t:TypeId} {ok:Bool} (ho:o.op=.typeAssert x xt t ok) (h:cop P o e W=some outs) (hw:WRel P w0 ρ W w) (hx:VRel ρ (e x) (e' x)) :
  OpSound P w0 ρ W ((execOp e' o).run P w) outs:=by
 simp only [cop,ho] at h; obtain ⟨v,hv,rfl⟩:=zCO h
 split at hv
 ·cases hv
 ·rename_i d u y h1 h2 hce; have hc:P.underlying t=some d:=by first | exact h1 | exact h2
  have ht:∀ m,d=.interface m→False:=by first | exact h1 | exact h2
  rw [hce] at hx; generalize hcx:e' x=vx' at hx
  cases hx with
  | @iface _ _ y' hy =>
   rw [cond_eq_ite] at hv; have hne:∀ m,d≠.interface m:=fun m hm=>ht m hm
   have run:∀ {v':Value},((t=u∧v'=(if ok=true then .tuple #[y',.bool true] else y'))∨(t≠u∧ok=true∧∃ z,zer P t=some z∧v'=.tuple #[z,.bool false])) →
     (Instr.typeAssert (.iface u y') xt t ok).run P w=.ok v' w:=by
    intro v' hr; simp only [Instr.typeAssert,Sem.run_bind,zAC hc,Result.andThen_ok]
    rcases hr with ⟨htu,rfl⟩ | ⟨htu,rfl,z,hzz,rfl⟩
    ·cases d <;> first | (exact (hne _ rfl).elim) | (simp [htu])
    ·cases d <;> first | (exact (hne _ rfl).elim) | (simp [Ne.symm htu,zAe hzz])
   split at hv
   ·rename_i htu; have htu:t=u:=by simpa using htu
    cases hv
    refine .value hw (v':=if ok=true then .tuple #[y',.bool true] else y') ?_ ?_
    ·simp only [execOp,ho,hcx]; exact zAf (run (.inl ⟨htu,rfl⟩))
    ·cases ok
     ·simpa using hy
     ·simp only [cond_true,if_true]; exact .tuple' (.cons hy (.cons (.bool _) (.nil _)))
   ·rename_i htu; have htu:¬t=u:=by simpa using htu
    cases ok
    ·cases hv
    ·simp only [cond_true] at hv; rw [Option.map_eq_some_iff] at hv; obtain ⟨z,hzz,rfl⟩:=hv; refine .value hw (v':=.tuple #[z,.bool false]) ?_ (.tuple' (.cons (hz.rel hzz ρ) (.cons (.bool _) (.nil _)))); simp only [execOp,ho,hcx]; exact zAf (run (.inr ⟨htu,rfl,z,hzz,rfl⟩))
 ·cases hv
theorem zSb {x:Operand} (ho:o.op=.panic x) (h:cop P o e W=some outs) (hw:WRel P w0 ρ W w) (hx:VRel ρ (e x) (e' x)):OpSound P w0 ρ W ((execOp e' o).run P w) outs:=by
 simp only [cop,ho] at h
 split at h
 ·rename_i t y hc
  cases h
  rw [hc] at hx; generalize hcx:e' x=vx' at hx
  cases hx with
  | @iface _ _ y' hy =>
   refine ⟨_,_,ρ,List.mem_singleton.2 rfl,.refl _,.panic (v':=.iface t y') (w:=w) ?_ (.iface _ hy) hw⟩; simp [execOp,ho,hcx,Instr.panic]
 ·cases h
theorem zSf {c:Call} {f:Operand} (ho:o.op=.defer c) (hf:c.callee=.value f) (h:cop P o e W=some outs) (hw:WRel P w0 ρ W w) (hx:VRel ρ (e f) (e' f))
  (ha:∀ x,x ∈ c.args.toList→VRel ρ (e x) (e' x)):OpSound P w0 ρ W ((execOp e' o).run P w) outs:=by
 simp only [cop,ho,hf] at h; have hargs:LRel ρ (c.args.map e).toList (c.args.map e').toList:=by simpa using LRel.map (ρ:=ρ) c.args.toList e e' ha
 split at h
 ·rename_i fn first cap hc
  cases h
  rw [hc] at hx; generalize hcx:e' f=vx' at hx
  cases hx with
  | @func _ f' _ x' _ y' hfn h1 h2 h3 h4 =>
   cases hfn
   refine ⟨_,_,ρ,List.mem_singleton.2 rfl,.refl _,.defer (w:=w) (d':={ target:=.fn (.func fn) y',args:=x'++c.args.map e' }) ?_ (.fn ?_ ?_) hw⟩
   ·simp only [execOp,ho,resolve,hf,hcx,Deferred.ofValue,Sem.run_bind,Sem.run_pure,Result.andThen_ok]
   ·exact LRel.arr.2 ⟨h3,h4⟩
   ·have e1:=LRel.arr.2 ⟨h1,h2⟩
    simpa using e1.append hargs
 ·cases h
end
end Go.Ce
namespace Go.Ce
open Go.RowKit (Below)
section
variable {P:Program} {w0:World} {ρ:Ren} {W:CW} {w:World} {o:Oper} {e e':Operand→Value} {outs:List (CNext × CW)}
theorem zAU {r:Nat} {u:Obj} (h:w.heap[r]?=some u) (hc:∀ c e z,u≠.cells c e z):(getObj r).run P w=.ok u w:=by
 cases u <;> first | exact (hc _ _ _ rfl).elim | simp [getObj,Sem.run,h]
theorem zBI {r:Nat} {u:Obj} (h:w.heap[r]?=some u) (hc:∀ c e z,u≠.cells c e z) (v:Obj):(setObj r v).run P w=.ok () { w with heap:=w.heap.setIfInBounds r v }:=by
 cases u <;> first | exact (hc _ _ _ rfl).elim | simp [setObj,Sem.run,h]
theorem zMk {d:TypeDesc} {k k' v v':Value} {b:Bool} (h:Instr.sameNow d k v=some b) (hk:VRel ρ k k') (hv:VRel ρ v v'):Instr.sameNow d k' v'=some b:=by
 unfold Instr.sameNow at h ⊢; split at h <;> first | (cases h; done) | skip
 all_goals
  cases hk
  cases hv
  exact h
theorem zM8 {d:TypeDesc} {k k':Value} (hk:VRel ρ k k'):∀ {es es':List MapEntry},ELRel ρ es es'→∀ {i:Nat} {r:Option (Nat × Value)},Instr.findNow d k es i=some r →
  ∃ r',Instr.findNow d k' es' i=some r'∧((r=none∧r'=none)∨∃ j v v' en,r=some (j,v)∧r'=some (j,v')∧VRel ρ v v'∧i≤j∧es'[j-i]?=some en∧Instr.sameNow d k' en.key=some true):=by
 intro es
 induction es with
 | nil =>
  intro es' hes i r h
  cases es' with
  | nil=>simp only [Instr.findNow,Option.some.injEq] at h; subst h; exact ⟨none,rfl,.inl ⟨rfl,rfl⟩⟩
  | cons _ _=>exact hes.elim
 | cons en es ih =>
  intro es' hes i r h
  cases es' with
  | nil=>exact hes.elim
  | cons en' es' =>
   obtain ⟨h1,h2⟩:=hes
   cases h1 with
   | @mk k1 v1 k1' v1' born hkk hvv =>
    rw [Instr.findNow] at h ⊢; simp only at h ⊢
    cases hs:Instr.sameNow d k k1 with
    | none=>rw [hs] at h; cases h
    | some b =>
     have hs':=zMk hs hk hkk; rw [hs] at h; rw [hs']
     cases b with
     | true =>
      cases h
      exact ⟨_,rfl,.inr ⟨i,v1,v1',⟨k1',v1',born⟩,rfl,rfl,hvv,Nat.le_refl _,by simp,hs'⟩⟩
     | false =>
      obtain ⟨r',hr',hcase⟩:=ih h2 h; refine ⟨r',hr',hcase.imp id ?_⟩; rintro ⟨j,v,v',en2,e1,e2,e3,e4,e5,e6⟩; refine ⟨j,v,v',en2,e1,e2,e3,by omega,?_,e6⟩; have:j-i=(j-(i+1))+1:=by omega
      rw [this]; simpa using e5
theorem zMl {d:TypeDesc} {k v:Value} (h:Instr.sameNow d k v=some true):Instr.sameBits 10000 v k=true:=by
 unfold Instr.sameNow at h
 split at h <;> first | (cases h; done) | skip
 ·rename_i k1 a k2 b
  split at h
  ·rename_i hk; subst hk; have:a=b:=by simpa using h
   subst this; simp [Instr.sameBits]
  ·cases h
 ·rename_i a b; have h:(a == b)=true:=by simpa using h
  have:a=b:=by
   cases a; cases b
   have h:(_ == _)=true:=h; exact congrArg ByteArray.mk (Array.eq_of_isEqv _ _ (show Array.isEqv _ _ (fun a b=>a == b)=true from h))
  subst this; exact h
 ·rename_i a b; have:a=b:=by simpa using h
  subst this; simp [Instr.sameBits]
theorem zMA {b:Bool} {t:TypeId} {d:TypeDesc} {k:Value} (hu:P.underlying t=some d) (hs:zDn d=true) (w:World):(Instr.checkKey b 10000 t k).run P w=.ok () w:=by
 rw [Instr.checkKey]; simp only [Sem.run_bind,zAC hu,Result.andThen_ok]
 cases d <;> first | (cases hs; done) | rfl
theorem zSu (d:TypeDesc) (k v:Value):zIw d k v=Instr.sameNow d k v:=by
 unfold zIw
 split
 ·rename_i a b; simp only [Instr.sameNow,zIl,beq_toListBytes]
 ·rfl
theorem zIf (d:TypeDesc) (k:Value):∀ (es:List MapEntry) (i:Nat),zFK d k es i=Instr.findNow d k es i
 | [],_=>rfl
 | e::es,i=>by simp only [zFK,Instr.findNow,zSu,zIf d k es]; rfl
theorem zIq {x y x' y':Value} (h:zGi x y=true) (hx:VRel ρ x x') (hy:VRel ρ y y'):x'=y'∧∀ n,Instr.sameBits n y' x'=true:=by
 unfold zGi at h
 split at h
 ·simp only [Bool.and_eq_true,decide_eq_true_eq] at h; obtain ⟨rfl,rfl⟩:=h
  cases hx; cases hy
  exact ⟨rfl,fun n=>by cases n <;> simp [Instr.sameBits]⟩
 ·have:=zGV h; subst this
  cases hx; cases hy
  exact ⟨rfl,fun n=>by cases n <;> simp [Instr.sameBits,beq_toListBytes]⟩
 ·have:=eq_of_beq h; subst this
  cases hx; cases hy
  exact ⟨rfl,fun n=>by cases n <;> simp [Instr.sameBits]⟩
 ·cases h
theorem zHN:∀ {xs ys xs' ys':List Value},zHi xs ys=true→LRel ρ xs xs'→LRel ρ ys ys'→xs'=ys'∧∀ n,((ys'.zip xs').all fun (x,y)=>Instr.sameBits n x y)=true
 | [],[],xs',ys',_,hx,hy=>by
  have h1:xs'=[]:=List.length_eq_zero_iff.1 hx.1.symm; have h2:ys'=[]:=List.length_eq_zero_iff.1 hy.1.symm; subst h1 h2; exact ⟨rfl,fun _=>rfl⟩
 | x::xs,y::ys,[],_,_,hx,_=>by have:=hx.1; simp at this
 | x::xs,y::ys,_::_,[],_,_,hy=>by have:=hy.1; simp at this
 | x::xs,y::ys,x'::xs',y'::ys',h,hx,hy=>by
  simp only [zHi,Bool.and_eq_true] at h; obtain ⟨e1,e2⟩:=zIq h.1 hx.head hy.head; obtain ⟨e3,e4⟩:=zHN h.2 hx.tail hy.tail; exact ⟨by rw [e1,e3],fun n=>by simp only [List.zip_cons_cons,List.all_cons,e2 n,e4 n,Bool.and_self]⟩
 | [],_::_,_,_,h,_,_=>by cases h
 | _::_,[],_,_,h,_,_=>by cases h
theorem zM1 {k v k' v':Value} (h:zM2 k v=true) (hk:VRel ρ k k') (hv:VRel ρ v v'):Instr.sameBits 10000 v' k'=true:=by
 unfold zM2 at h
 split at h
 ·obtain ⟨xs',rfl,hx⟩:=hk.agg_inv; obtain ⟨ys',rfl,hy⟩:=hv.agg_inv; obtain ⟨e1,e2⟩:=zHN h hx hy; have e:xs'=ys':=Array.ext' e1; rw [show (10000:Nat)=9999+1 from rfl,Instr.sameBits]; rw [e2 9999,e]; simp
 ·cases h
theorem zIe {b:Bool} {n:Nat} {cs cs':Array Value} (hc:LRel ρ cs.toList cs'.toList) (w:World):∀ (fs:List Field),
  (fs.all fun f=>!(f.name == "_") && (match P.underlying f.type with | some d=>zDn d | none=>false) && (zL7 P f.type cs f.offset).isSome)=true →
  (forIn fs PUnit.unit (fun f _=>do
   if f.name≠"_" then do Instr.checkKey b (n+1) f.type (←part f.type cs' f.offset); pure (ForInStep.yield PUnit.unit) else pure (ForInStep.yield PUnit.unit)):Sem PUnit).run P w=.ok PUnit.unit w:=by
 intro fs
 induction fs with
 | nil=>intro _; simp
 | cons f fs ih =>
  intro h; simp only [List.all_cons,Bool.and_eq_true] at h; obtain ⟨⟨⟨h1,h2⟩,h3⟩,h4⟩:=h; have hn:f.name≠"_":=by simpa using h1
  obtain ⟨v,hv⟩:=Option.isSome_iff_exists.1 h3; obtain ⟨v',hv',_⟩:=zE0 hv hc w
  have hck:(Instr.checkKey b (n+1) f.type v').run P w=.ok () w:=by
   split at h2
   ·rename_i d hd; rw [Instr.checkKey]; simp only [Sem.run_bind,zAC hd,Result.andThen_ok]
    cases d <;> first | (cases h2; done) | rfl
   ·cases h2
  simp only [List.forIn_cons,if_pos hn,Sem.run_bind,hv',Result.andThen_ok,hck,Sem.run_pure]; exact ih h4
theorem zQE {t:TypeId} {k k':Value} (hk:VRel ρ k k'):∀ {es es':List MapEntry},ELRel ρ es es'→∀ {i:Nat} {r:Option (Nat × Value)},zQF P t k es i=some r →
  ∃ r',(∀ w:World,(Instr.findAsking t k' es' i).run P w=.ok r' w)∧((r=none∧r'=none)∨∃ j v v' en,r=some (j,v)∧r'=some (j,v')∧VRel ρ v v'∧i≤j∧es'[j-i]?=some en∧Instr.sameBits 10000 en.key k'=true):=by
 intro es
 induction es with
 | nil =>
  intro es' he i r h
  cases es' with
  | cons=>exact he.elim
  | nil =>
   simp only [zQF,Option.some.injEq] at h; subst h; exact ⟨none,fun w=>by simp [Instr.findAsking],.inl ⟨rfl,rfl⟩⟩
 | cons en es ih =>
  intro es' he i r h
  cases es' with
  | nil=>exact he.elim
  | cons en' es' =>
   obtain ⟨h1,h2⟩:=he
   cases h1 with
   | @mk k1 v1 k1' v1' b hkk hvv =>
    simp only [zQF] at h
    have run:∀ (b:Bool),zTq P 20 t k k1=some b→∀ w:World,(Op.equal t k' k1').run P w=.ok b w:=fun b hb w=>by
     rw [zDO]; exact zG3 20 _ _ _ _ _ _ hb hk hkk 10000 (by omega) w
    split at h
    ·rename_i he2; rw [cond_eq_ite] at h
     split at h
     ·rename_i hbits
      cases h
      refine ⟨some (i,v1'),fun w=>by simp only [Instr.findAsking,Sem.run_bind,run true he2,Result.andThen_ok,if_true,Sem.run_pure],.inr ⟨i,v1,v1',_,rfl,rfl,hvv,Nat.le_refl _,by simp; rfl,?_⟩⟩; exact zM1 hbits hk hkk
     ·cases h
    ·rename_i he2; obtain ⟨r',hr',hcase⟩:=ih h2 h; refine ⟨r',fun w=>by simp only [Instr.findAsking,Sem.run_bind,run false he2,Result.andThen_ok,Bool.false_eq_true,if_false,hr'],hcase.imp id ?_⟩; rintro ⟨j,v,v',en,e1,e2,e3,e4,e5,e6⟩; refine ⟨j,v,v',en,e1,e2,e3,by omega,?_,e6⟩; have:j-i=(j-(i+1))+1:=by omega
     rw [this]; simpa using e5
    ·cases h
theorem zFr {t:TypeId} {k k':Value} {es es':List MapEntry} {r:Option (Nat × Value)} (h:zI1 P t k es=some r) (hk:VRel ρ k k') (he:ELRel ρ es es') :
  ∃ r',(∀ (b:Bool) (w:World),(Instr.checkKey b 10000 t k').run P w=.ok () w)∧(∀ w:World,(Instr.findKey t k' es').run P w=.ok r' w) ∧
   ((r=none∧r'=none)∨∃ j v v' en,r=some (j,v)∧r'=some (j,v')∧VRel ρ v v'∧es'[j]?=some en∧Instr.sameBits 10000 en.key k'=true):=by
 unfold zI1 at h
 cases hd:P.underlying t with
 | none=>rw [hd] at h; cases h
 | some d =>
  rw [hd] at h; simp only [cond_eq_ite] at h
  split at h
  ·rename_i hs; rw [zIf] at h; obtain ⟨r',hr',hcase⟩:=zM8 hk he h
   refine ⟨r',fun b w=>zMA hd hs w,fun w=>?_,hcase.imp id ?_⟩
   ·simp only [Instr.findKey,Sem.run_bind,zAC hd,Result.andThen_ok,hr',Sem.run_pure]
   ·rintro ⟨j,v,v',en,e1,e2,e3,_,e5,e6⟩; exact ⟨j,v,v',en,e1,e2,e3,by simpa using e5,zMl e6⟩
  ·split at h
   ·rename_i hf; unfold zQx at hf; rw [hd] at hf
    split at hf
    ·rename_i fs cs hds
     cases hds
     simp only [Bool.and_eq_true] at hf; obtain ⟨hf1,hf2⟩:=hf; obtain ⟨cs',rfl,hc⟩:=hk.agg_inv; obtain ⟨r',hr',hcase⟩:=zQE hk he h
     refine ⟨r',fun b w=>?_,fun w=>?_,hcase.imp id ?_⟩
     ·have:=zIe (P:=P) (b:=b) (n:=9998) hc w fs.toList hf2; rw [show (10000:Nat)=9999+1 from rfl,Instr.checkKey]; simp only [Sem.run_bind,zAC hd,Result.andThen_ok]; rw [←Array.forIn_toList,this]; rfl
     ·have hnow:Instr.findNow (.struct fs) (.agg cs') es' 0=(match es' with | []=>some none | _::_=>none):=by
       cases es' with
       | nil=>rfl
       | cons e es'=>simp [Instr.findNow,Instr.sameNow]
      simp only [Instr.findKey,Sem.run_bind,zAC hd,Result.andThen_ok,hnow]
      cases es' with
      | nil=>have:=hr' w; simpa [Instr.findAsking] using this
      | cons e es'=>exact hr' w
     ·rintro ⟨j,v,v',en,e1,e2,e3,_,e5,e6⟩; exact ⟨j,v,v',en,e1,e2,e3,by simpa using e5,e6⟩
    ·cases hf
   ·cases h
theorem WRel.mapAt (h:WRel P w0 ρ W w) {r r':Nat} (hr:BRel ρ r r') {es:List MapEntry} {clk:Nat} (ho:W.obj r=some (.map es clk)) :
  ∃ x es',ρ r=some x∧r'=x.b∧x.o=0∧w.heap[r']?=some (.map es' clk)∧ELRel ρ es es'.toList:=by
 obtain ⟨x,hx,rfl⟩:=hr; obtain ⟨o',ho',hr⟩:=h.obj ho (by simp) hx rfl
 cases hr with
 | map h1 h2=>exact ⟨x,_,hx,rfl,h1,ho',h2⟩
theorem zQX (hz:ZP P) {t:TypeId} {x k:Operand} {ok:Bool} (ho:o.op=.lookup t x k ok) (h:cop P o e W=some outs) (hw:WRel P w0 ρ W w) (hx:VRel ρ (e x) (e' x)) (hk:VRel ρ (e k) (e' k)) :
  OpSound P w0 ρ W ((execOp e' o).run P w) outs:=by
 simp only [cop,ho] at h; obtain ⟨v,hv,rfl⟩:=zCO h
 split at hv
 ·rename_i kt elem ht; obtain ⟨z,hzz,hv⟩:=zAO hv; obtain ⟨es,hes,hv⟩:=zAO hv; obtain ⟨r,hr,hv⟩:=zAO hv
  have:∃ es':Array MapEntry,ELRel ρ es es'.toList∧((e' x=.map none∧es'=#[])∨∃ r clk,e' x=.map (some r)∧w.heap[r]?=some (.map es' clk)):=by
   generalize e' x=vx' at *
   split at hes
   ·rename_i hc; rw [hc] at hx
    cases hx
    cases hes
    exact ⟨#[],trivial,.inl ⟨rfl,rfl⟩⟩
   ·rename_i r0 hc; rw [hc] at hx
    cases hx with
    | map hb =>
     split at hes
     ·rename_i es0 clk hobj
      cases hes
      obtain ⟨x,es',_,_,_,hh,hrel⟩:=hw.mapAt hb hobj; exact ⟨es',hrel,.inr ⟨_,_,rfl,hh⟩⟩
     ·cases hes
   ·cases hes
  obtain ⟨es',hrel,hget⟩:=this; obtain ⟨r',hck,hfind,hcase⟩:=zFr hr hk hrel
  have hrun:∀ y:Value × Bool,((r'=none∧y=(z,false))∨∃ j,r'=some (j,y.1)∧y.2=true) →
    (Instr.lookup t (e' x) (e' k) ok).run P w=.ok (if ok then .tuple #[y.1,.bool y.2] else y.1) w:=by
   intro y hy
   rcases hget with ⟨hc,rfl⟩ | ⟨r,clk,hc,hh⟩ <;> rcases hy with ⟨rfl,rfl⟩ | ⟨j,rfl,h2⟩
   ·simp only [Instr.lookup,Sem.run_bind,zAC ht,Result.andThen_ok,hc,Sem.run_pure,hck,hfind,zAe hzz]
   ·simp only [Instr.lookup,Sem.run_bind,zAC ht,Result.andThen_ok,hc,Sem.run_pure,hck,hfind,h2]
   ·simp only [Instr.lookup,Sem.run_bind,zAC ht,Result.andThen_ok,hc,zAU hh (by simp),Sem.run_pure,hck,hfind,zAe hzz]
   ·simp only [Instr.lookup,Sem.run_bind,zAC ht,Result.andThen_ok,hc,zAU hh (by simp),Sem.run_pure,hck,hfind,h2]
  rcases hcase with ⟨rfl,rfl⟩ | ⟨j,x1,x1',en,rfl,rfl,hxx,_,_⟩
  ·cases hv
   refine .value hw ?_ ?_ (v':=if ok then .tuple #[z,.bool false] else z)
   ·simp only [execOp,ho]; exact zAf (hrun (z,false) (.inl ⟨rfl,rfl⟩))
   ·cases ok
    ·exact hz.rel hzz ρ
    ·exact .tuple' (.cons (hz.rel hzz ρ) (.cons (.bool _) (.nil _)))
  ·cases hv
   refine .value hw ?_ ?_ (v':=if ok then .tuple #[x1',.bool true] else x1')
   ·simp only [execOp,ho]; exact zAf (hrun (x1',true) (.inr ⟨j,rfl,rfl⟩))
   ·cases ok
    ·exact hxx
    ·exact .tuple' (.cons hxx (.cons (.bool _) (.nil _)))
 ·cases hv
theorem ELRel.push:∀ {es es':List MapEntry},ELRel ρ es es'→∀ {a b:MapEntry},ERel ρ a b→ELRel ρ (es++[a]) (es'++[b])
 | [],[],_,_,_,h=>⟨h,trivial⟩
 | _::_,_::_,h,_,_,k=>⟨h.1,h.2.push k⟩
 | [],_::_,h,_,_,_=>h.elim
 | _::_,[],h,_,_,_=>h.elim
theorem ELRel.modAt:∀ {es es':List MapEntry},ELRel ρ es es'→∀ {v v' k k':Value},VRel ρ v v'→VRel ρ k k'→∀ i,ELRel ρ (modAt v k i es) (es'.modify i fun en=>{ en with key:=k',val:=v' })
 | [],[],_,_,_,_,_,_,_,i=>by cases i <;> simp [Ce.modAt,ELRel]
 | en::es,en'::es',h,_,_,_,_,hv,hk,0=>by
  cases h.1 with
  | mk b _ _=>simp only [Ce.modAt,List.modify_zero_cons]; exact ⟨.mk b hk hv,h.2⟩
 | en::es,en'::es',h,_,_,_,_,hv,hk,i+1=>by
  simp only [Ce.modAt,List.modify_succ_cons]; exact ⟨h.1,ELRel.modAt h.2 hv hk i⟩
 | [],_::_,h,_,_,_,_,_,_,_=>h.elim
 | _::_,[],h,_,_,_,_,_,_,_=>h.elim
theorem ELRel.dropAt:∀ {es es':List MapEntry},ELRel ρ es es'→∀ i,ELRel ρ (dropAt i es) (es'.eraseIdx i)
 | [],[],_,i=>by cases i <;> simp [Ce.dropAt,ELRel]
 | en::es,en'::es',h,0=>by simp only [Ce.dropAt,List.eraseIdx_cons_zero]; exact h.2
 | en::es,en'::es',h,i+1=>by simp only [Ce.dropAt,List.eraseIdx_cons_succ]; exact ⟨h.1,ELRel.dropAt h.2 i⟩
 | [],_::_,h,_=>h.elim
 | _::_,[],h,_=>h.elim
theorem ELRel.length:∀ {es es':List MapEntry},ELRel ρ es es'→es.length=es'.length
 | [],[],_=>rfl
 | _::_,_::_,h=>by simp [ELRel.length h.2]
 | [],_::_,h=>h.elim
 | _::_,[],h=>h.elim
theorem zHE {t:TypeId} {m k x:Operand} (ho:o.op=.mapUpdate t m k x∨o.op=.insert t m k x) (h:cop P o e W=some outs) (hw:WRel P w0 ρ W w) (hm:VRel ρ (e m) (e' m)) (hk:VRel ρ (e k) (e' k)) (hx:VRel ρ (e x) (e' x)) :
  OpSound P w0 ρ W ((execOp e' o).run P w) outs:=by
 rcases ho with ho | ho
 all_goals
  simp only [cop,ho] at h; obtain ⟨W1,hv,rfl⟩:=zP9 h
  split at hv
  ·rename_i kt elem r ht hc; rw [hc] at hm; generalize hcc:e' m=vm' at hm
   cases hm with
   | @map _ r' hb =>
    split at hv
    ·rename_i es clk hobj; obtain ⟨y,es',hy,rfl,hy0,hh,hrel⟩:=hw.mapAt hb hobj; obtain ⟨f,hf,hv⟩:=zAO hv; obtain ⟨r',hck,hfind,hcase⟩:=zFr hf hk hrel
     rcases hcase with ⟨rfl,rfl⟩ | ⟨j,x1,x1',en,rfl,rfl,hxx,hen,hsame⟩
     ·cases hv
      refine ⟨_,_,ρ,List.mem_singleton.2 rfl,.refl _,.skip (w:={ w with heap:=w.heap.setIfInBounds y.b (.map (es'.push { key:=e' k,val:=e' x,born:=clk }) (clk+1)) }) ?_ ?_⟩
      ·simp only [execOp,ho,hcc]; refine zRU ?_; simp only [Instr.mapUpdate,Sem.run_bind,zAC ht,Result.andThen_ok,zAU hh (by simp),hck,hfind,zBI hh (by simp)]
      ·refine hw.upd hobj rfl hy (.map hy0 ?_); rw [Array.toList_push]; exact hrel.push (.mk clk hk hx)
     ·cases hv
      refine ⟨_,_,ρ,List.mem_singleton.2 rfl,.refl _,.skip (w:={ w with heap:=w.heap.setIfInBounds y.b (.map (es'.modify j fun en=>{ en with key:=e' k,val:=e' x }) clk) }) ?_ ?_⟩
      ·simp only [execOp,ho,hcc]; refine zRU ?_; have hen':es'[j]?=some en:=by simpa using hen
       simp only [Instr.mapUpdate,Sem.run_bind,zAC ht,Result.andThen_ok,zAU hh (by simp),hck,hfind,Instr.keyThatStays,hen',Option.map_some,Option.getD_some,hsame,if_true,Sem.run_pure,zBI hh (by simp)]
      ·refine hw.upd hobj rfl hy (.map hy0 ?_); rw [Array.toList_modify]; exact hrel.modAt hx hk j
    ·cases hv
  ·cases hv
theorem zSa {t:TypeId} {x:Operand} (ho:o.op=.range t x) (h:cop P o e W=some outs) (hw:WRel P w0 ρ W w) (hx:VRel ρ (e x) (e' x)) :
  OpSound P w0 ρ W ((execOp e' o).run P w) outs:=by
 simp only [cop,ho] at h; obtain ⟨v,W1,hv,rfl⟩:=zGc h; generalize hcc:e' x=vx' at *
 split at hv
 ·rename_i kt elem ht hc; rw [hc] at hx
  cases hx
  simp only [Option.some.injEq,Prod.mk.injEq] at hv; obtain ⟨rfl,rfl⟩:=hv; obtain ⟨hext,hw'⟩:=hw.new (o:=.iter none 0 [] 0) (o':=.mapIter none 0 #[] 0) ⟨w.heap.size,0,0,0,0⟩ rfl (.iterNone rfl); refine ⟨_,_,_,List.mem_singleton.2 rfl,hext,.value (v':=.pointer (some ⟨w.heap.size,0,none⟩)) (w:={ w with heap:=w.heap.push (.mapIter none 0 #[] 0) }) ?_ (.ptr ⟨rfl,⟨w.heap.size,0,0,0,0⟩,by simp,by simp⟩) hw'⟩; simp only [execOp,ho,hcc]; refine zAf ?_; simp [Instr.range,zAC ht]
 ·rename_i kt elem r ht hc; rw [hc] at hx
  cases hx with
  | @map _ r' hb =>
   split at hv
   ·rename_i es clk hobj; simp only [Option.some.injEq,Prod.mk.injEq] at hv; obtain ⟨rfl,rfl⟩:=hv; obtain ⟨y,es',hy,rfl,hy0,hh,hrel⟩:=hw.mapAt hb hobj; have hlt:=hw.dom r y hy; obtain ⟨hext,hw'⟩:=hw.new (o:=.iter (some r) clk [] clk) (o':=.mapIter (some y.b) clk [].toArray clk) ⟨w.heap.size,0,0,0,0⟩ rfl (.iter rfl ⟨y,by simp [show r≠W.sz by omega,hy],rfl⟩); refine ⟨_,_,_,List.mem_singleton.2 rfl,hext,.value (v':=.pointer (some ⟨w.heap.size,0,none⟩)) (w:={ w with heap:=w.heap.push (.mapIter (some y.b) clk [].toArray clk) }) ?_ (.ptr ⟨rfl,⟨w.heap.size,0,0,0,0⟩,by simp,by simp⟩) hw'⟩; simp only [execOp,ho,hcc]; refine zAf ?_; simp [Instr.range,zAC ht,zAU hh (by simp)]
   ·cases hv
 ·cases hv
theorem ELRel.filter (p:Nat→Bool):∀ {es es':List MapEntry},ELRel ρ es es'→ELRel ρ (es.filter fun e=>p e.born) (es'.filter fun e=>p e.born)
 | [],[],_=>trivial
 | en::es,en'::es',h=>by
  cases h.1 with
  | mk b hk hv =>
   simp only [List.filter_cons]
   cases p b
   ·simpa using ELRel.filter p h.2
   ·simpa using ⟨.mk b hk hv,ELRel.filter p h.2⟩
 | [],_::_,h=>h.elim
 | _::_,[],h=>h.elim
theorem ELRel.append:∀ {es es' us us':List MapEntry},ELRel ρ es es'→ELRel ρ us us'→ELRel ρ (es++us) (es'++us')
 | [],[],_,_,_,h=>h
 | _::_,_::_,_,_,h,k=>⟨h.1,h.2.append k⟩
 | [],_::_,_,_,h,_=>h.elim
 | _::_,[],_,_,h,_=>h.elim
theorem ELRel.get:∀ {es es':List MapEntry},ELRel ρ es es'→∀ {i:Nat} {b:MapEntry},es'[i]?=some b→∃ a,es[i]?=some a∧ERel ρ a b
 | [],[],_,i,_,h=>by simp at h
 | a::es,a'::es',h,0,b,hb=>by simp at hb; subst hb; exact ⟨a,rfl,h.1⟩
 | _::es,_::es',h,i+1,b,hb=>by simpa using ELRel.get h.2 (by simpa using hb)
 | [],_::_,h,_,_,_=>h.elim
 | _::_,[],h,_,_,_=>h.elim
theorem ELRel.all (p:Nat→Bool):∀ {es es':List MapEntry},ELRel ρ es es'→(es.all fun e=>p e.born)=(es'.all fun e=>p e.born)
 | [],[],_=>rfl
 | en::es,en'::es',h=>by cases h.1 with | mk b _ _=>simp only [List.all_cons,ELRel.all p h.2]
 | [],_::_,h=>h.elim
 | _::_,[],h=>h.elim
theorem WRel.iterAt (h:WRel P w0 ρ W w) {a a':Addr} (ha:ARel ρ a a') {m s l:Nat} {seen:List Nat} (ho:W.obj a.block=some (.iter (some m) s seen l)) :
  ∃ x m',ρ a.block=some x∧a'=⟨x.b,a.off,none⟩∧x.o=0∧BRel ρ m m'∧w.heap[x.b]?=some (.mapIter (some m') s seen.toArray l):=by
 obtain ⟨_,x,hx,rfl⟩:=ha; obtain ⟨o',ho',hr⟩:=h.obj ho (by simp) hx rfl
 cases hr with
 | iter h1 h2=>exact ⟨x,_,hx,by rw [h1]; rfl,h1,h2,ho'⟩
theorem ELRel.find (n:Nat):∀ {es es':List MapEntry},ELRel ρ es es'→∀ {a:MapEntry},es.find? (fun e=>Nat.beq e.born n)=some a→∃ b,es'.find? (fun e=>e.born == n)=some b∧ERel ρ a b
 | [],[],_,_,h=>by simp at h
 | en::es,en'::es',h,a,ha=>by
  have hb:en'.born=en.born:=by cases h.1 with | mk b _ _=>rfl
  rw [List.find?_cons] at ha ⊢; rw [hb]; have e1:Nat.beq en.born n=(en.born == n):=by rw [Bool.eq_iff_iff]; simp
  rw [e1] at ha
  cases hx:(en.born == n)
  ·rw [hx] at ha; exact ELRel.find n h.2 ha
  ·rw [hx] at ha; cases ha; exact ⟨en',rfl,h.1⟩
 | [],_::_,h,_,_=>h.elim
 | _::_,[],h,_,_=>h.elim
theorem zSe {x:Operand} (ho:o.op=.entry x) (h:cop P o e W=some outs) (hw:WRel P w0 ρ W w) (hx:VRel ρ (e x) (e' x)):OpSound P w0 ρ W ((execOp e' o).run P w) outs:=by
 simp only [cop,ho] at h; obtain ⟨v,hv,rfl⟩:=zCO h; generalize hcc:e' x=vx' at *
 split at hv
 ·rename_i a hc; rw [hc] at hx
  cases hx with
  | @ptr _ a' ha =>
   rw [cond_eq_ite] at hv
   split at hv
   ·cases hv
   rename_i hoff; have hoff:a.off=0:=by simpa using hoff
   split at hv
   ·rename_i r since seen stepped hobj; obtain ⟨y,m',hy,rfl,_,hm,hh⟩:=hw.iterAt ha hobj
    split at hv
    ·rename_i st es clk hlast hobj2; obtain ⟨y2,es',hy2,rfl,_,hh2,hrel⟩:=hw.mapAt hm hobj2; rw [cond_eq_ite] at hv
     split at hv
     ·rename_i hclk; have hclk:=Nat.eq_of_beq_eq_true hclk; subst hclk; rw [Option.map_eq_some_iff] at hv; obtain ⟨en,hen,rfl⟩:=hv; obtain ⟨en',hen',hr⟩:=hrel.find st hen; have hf:es'.find? (fun e=>e.born == st)=some en':=by rw [←Array.find?_toList]; exact hen'
      have hl:seen.toArray.back?=some st:=by simpa [Array.back?_eq_getElem?,List.getLast?_eq_getElem?] using hlast
      refine .value hw (v':=.tuple #[en'.key,en'.val]) ?_ ?_
      ·simp only [execOp,ho,hcc]; refine zAf ?_; simp [Instr.entry,hoff,zAU hh (by simp),zAU hh2 (by simp),hl,hf]
      ·cases hr with
       | mk b h1 h2=>exact .tuple' (.cons h1 (.cons h2 (.nil _)))
     ·cases hv
    ·cases hv
   ·cases hv
 ·cases hv
theorem zRk {es es':List MapEntry} (h:ELRel ρ es es') (since:Nat) (seen:List Nat) {c:Option MapEntry} (hc:c ∈ zMI es' since seen) :
  ∃ c0,c0 ∈ zMI es since seen∧((c0=none∧c=none)∨∃ a b,c0=some a∧c=some b∧ERel ρ a b):=by
 unfold zMI at hc ⊢; have hl:=h.filter (fun b=>!seen.contains b); have ho:=hl.filter (fun b=>decide (b<since)); have hn:=hl.filter (fun b=>!decide (b<since)); simp only [List.mem_append,List.mem_map] at hc
 rcases hc with hc | ⟨b,hb,rfl⟩
 ·have hlen:=ho.length
  refine ⟨none,?_,?_⟩
  ·simp only [List.mem_append]; left
   cases hx:(List.filter (fun e=>decide (e.born<since)) (List.filter (fun e=>!seen.contains e.born) es')) with
   | nil =>
    rw [hx] at hlen; have:(List.filter (fun e=>decide (e.born<since)) (List.filter (fun e=>!seen.contains e.born) es))=[]:=List.length_eq_zero_iff.1 (by simpa using hlen); rw [this]; simp
   | cons y ys=>rw [hx] at hc; simp at hc
  ·left; refine ⟨rfl,?_⟩; rw [cond_eq_ite] at hc
   split at hc
   ·simpa using hc
   ·simp at hc
 ·rw [←List.mem_append] at hb; obtain ⟨i,hi,hbi⟩:=List.getElem_of_mem hb; obtain ⟨a,ha,hr⟩:=(ho.append hn).get (i:=i) (b:=b) (by rw [List.getElem?_eq_getElem hi,hbi]); refine ⟨some a,?_,.inr ⟨a,b,rfl,rfl,hr⟩⟩; simp only [List.mem_append]; right; exact List.mem_map_of_mem (List.mem_of_getElem? ha)
theorem zUO {x:Operand} (ho:o.op=.next x false) (h:cop P o e W=some outs) (hw:WRel P w0 ρ W w) (hx:VRel ρ (e x) (e' x)):OpSound P w0 ρ W ((execOp e' o).run P w) outs:=by
 simp only [cop,ho] at h; generalize hcc:e' x=vx' at *
 split at h
 ·rename_i a hc; rw [hc] at hx
  cases hx with
  | @ptr _ a' ha =>
   rw [cond_eq_ite] at h
   split at h
   ·cases h
   rename_i hoff; have hoff:a.off=0:=by simpa using hoff
   split at h
   ·rename_i s1 s2 s3 hobj
    cases h
    obtain ⟨_,y,hy,rfl⟩:=ha; obtain ⟨o',ho',hr⟩:=hw.obj hobj (by simp) hy rfl
    cases hr with
    | iterNone h0 =>
     refine .value hw ?_ (.tuple' (.cons (.bool _) (.nil _))) (v':=.tuple #[.bool false]); simp only [execOp,ho,hcc]; refine zAf ?_; simp [Instr.next,hoff,h0,zAU ho' (by simp)]
   ·rename_i r since seen last hobj; obtain ⟨y,m',hy,rfl,hy0,hm,hh⟩:=hw.iterAt ha hobj
    split at h
    ·rename_i es clk hobj2; obtain ⟨y2,es',hy2,rfl,_,hh2,hrel⟩:=hw.mapAt hm hobj2; rw [cond_eq_ite] at h
     split at h
     ·cases h
     ·rename_i hcond; simp only [Option.some.injEq] at h; subst h
      have hcond':(!seen.toArray.isEmpty && !es'.isEmpty && es'.all (fun e=>decide (e.born≥last)))=false:=by
       have e1:seen.toArray.isEmpty=seen.isEmpty:=by cases seen <;> rfl
       have e2:es'.isEmpty=es.isEmpty:=by
        have:=hrel.length
        cases es with
        | nil=>have:es'.size=0:=(by simpa using this.symm); simp [Array.isEmpty,this]
        | cons y ys=>have:es'.size=ys.length+1:=(by simpa using this.symm); simp [Array.isEmpty,this]
       have e3:es'.all (fun e=>decide (e.born≥last))=es.all (fun e=>!decide (e.born<last)):=by
        rw [←Array.all_toList,hrel.all (fun b=>!decide (b<last))]; congr 1; funext en
        by_cases hb:en.born<last
        ·simp [hb]
        ·simp [hb]; omega
       rw [e1,e2,e3]
       simpa using hcond
      generalize hC:((if ((es'.filter fun e=>!seen.toArray.contains e.born).filter fun e=>decide (e.born<since)).isEmpty then #[none] else #[])++(((es'.filter fun e=>!seen.toArray.contains e.born).filter fun e=>decide (e.born<since))++((es'.filter fun e=>!seen.toArray.contains e.born).filter fun e=>decide (e.born≥since))).map some:Array (Option MapEntry))=C
      have hcands:C.toList=zMI es'.toList since seen:=by
       have e1:∀ n:Nat,seen.toArray.contains n=seen.contains n:=fun n=>by simp
       have e2:(fun e:MapEntry=>!decide (e.born<since))=(fun e:MapEntry=>decide (e.born≥since)):=by
        funext en
        by_cases hb:en.born<since
        ·simp [hb]
        ·simp [hb]; omega
       rw [←hC]; simp only [zMI,e1,e2,Array.toList_append,Array.toList_map,Array.toList_filter,cond_eq_ite]; congr 1; have e3:∀ A:Array MapEntry,A.isEmpty=A.toList.isEmpty:=fun A=>by rw [Bool.eq_iff_iff]; simp [Array.isEmpty_iff,List.isEmpty_iff]
       rw [e3]; simp only [Array.toList_filter]; split <;> rfl
      have hpos:0<C.size:=by
       rw [←Array.length_toList,hcands]; unfold zMI
       cases hx:(List.filter (fun e=>decide (e.born<since)) (List.filter (fun e=>!seen.contains e.born) es'.toList)) with
       | nil=>simp only [hx,List.isEmpty_nil,cond_true,List.length_append,List.length_cons]; omega
       | cons y ys=>simp only [hx,List.length_append,List.length_map,List.length_cons]; omega
      obtain ⟨i,w2,hch,hi,hw2,hheap⟩:∃ i w2,(choose (.mapNext C.size)).run P w=.ok i w2∧i<C.size∧WRel P w0 ρ W w2∧w2.heap=w.heap:=by
       rw [run_choose]
       split
       ·exact ⟨0,w,rfl,hpos,hw,rfl⟩
       ·exact ⟨_,_,rfl,by simp only [Question.cut]; exact Nat.mod_lt _ hpos,hw.drew _,rfl⟩
      have hci:C[i]?=some C[i]:=by simp [hi]
      obtain ⟨c0,hc0,hcase⟩:=zRk (c:=C[i]) hrel since seen (by rw [←hcands]; simp); rw [←hheap] at hh hh2
      rcases hcase with ⟨rfl,hcn⟩ | ⟨en,en',rfl,hcn,hr⟩
      ·refine ⟨.value (.tuple #[.bool false]),W,ρ,?_,.refl _,.value (v':=.tuple #[.bool false]) (w:=w2) ?_ (.tuple' (.cons (.bool _) (.nil _))) hw2⟩
       ·exact List.mem_map.2 ⟨none,hc0,rfl⟩
       ·simp only [execOp,ho,hcc]; refine zAf ?_; rw [hcn] at hci; rw [hheap] at hh hh2; simp only [Instr.next,hoff,hy0,Nat.add_zero,Sem.run_bind,zAU hh (by simp),zAU hh2 (by simp),Result.andThen_ok,hcond',hC,hch,hci,Sem.run_pure,Bool.false_eq_true,if_false]
      ·refine ⟨.value (.tuple #[.bool true,en.key,en.val]),W.upd a.block (.iter (some r) since (seen++[en.born]) clk),ρ,?_,.refl _,
        .value (v':=.tuple #[.bool true,en'.key,en'.val]) (w:={ w2 with heap:=w2.heap.setIfInBounds y.b (.mapIter (some y2.b) since (seen++[en.born]).toArray clk) }) ?_ ?_ (hw2.upd hobj rfl hy (.iter hy0 hm))⟩
       ·exact List.mem_map.2 ⟨some en,hc0,rfl⟩
       ·simp only [execOp,ho,hcc]; refine zAf ?_; rw [hcn] at hci; have hborn:en'.born=en.born:=by cases hr with | mk b _ _=>rfl
        have hset:=zBI (P:=P) hh (by simp) (.mapIter (some y2.b) since (seen++[en.born]).toArray clk); rw [hheap] at hh hh2; have epush:seen.toArray.push en.born=(seen++[en.born]).toArray:=by simp
        simp only [Instr.next,hoff,hy0,Nat.add_zero,Sem.run_bind,zAU hh (by simp),zAU hh2 (by simp),Result.andThen_ok,hcond',hC,hch,hci,hborn,epush,hset,Sem.run_pure,Bool.false_eq_true,if_false]
       ·cases hr with
        | mk b h1 h2=>exact .tuple' (.cons (.bool _) (.cons h1 (.cons h2 (.nil _))))
    ·cases h
   ·cases h
 ·cases h
end
end Go.Ce
namespace Go.Ce
open Go.RowKit (Below)
section
variable {P:Program} {w0:World} {ρ:Ren} {W:CW} {w:World} {o:Oper} {e e':Operand→Value} {outs:List (CNext × CW)}
theorem VRel.slice_inv {a:Option Addr} {n c:Nat} {v:Value} (h:VRel ρ (.slice a n c) v):∃ a' c',v=.slice a' n c'∧((a=none∧a'=none∧c'=c)∨∃ b b',a=some b∧a'=some b' ∧
  ((ARel ρ b b'∧CapRel ρ b c c')∨(n=0∧c=0∧b.spot=none∧∃ x,ρ b.block=some x∧b'.block=x.b∧b'.spot=none∧(c'=0∨(0<x.sz∧b'.off+c'*x.sz=x.n')))∨(n=0∧c=0∧c'=0∧b.spot=some 0))):=by
 cases h with
 | snil=>exact ⟨_,_,rfl,.inl ⟨rfl,rfl,rfl⟩⟩
 | slice _ ha hc=>exact ⟨_,_,rfl,.inr ⟨_,_,rfl,rfl,.inl ⟨ha,hc⟩⟩⟩
 | slice0 h0 h1 h2 h3 h4=>exact ⟨_,_,rfl,.inr ⟨_,_,rfl,rfl,.inr (.inl ⟨rfl,rfl,h0,_,h1,h2,h3,h4⟩)⟩⟩
 | slice00 h0=>exact ⟨_,_,rfl,.inr ⟨_,_,rfl,rfl,.inr (.inr ⟨rfl,rfl,rfl,h0⟩)⟩⟩
theorem zFS (a:Addr) (w:World):(loadCells a 0).run P w=.ok #[] w:=by simp [loadCells,loadCellsFrom]
theorem zEq (hw:WRel P w0 ρ W w) {b:Option Addr} {n c k size:Nat} {v:Value} {l:List Value} (hv:VRel ρ (.slice b n c) v) (hk:k≤n) (h:zC1 b (k*size) W=some l) :
  ∃ l':Array Value,(∀ d,(Builtin.firstCells size k v).run P { w with drawn:=d }=.ok l' { w with drawn:=d })∧LRel ρ l l'.toList:=by
 obtain ⟨a',c',rfl,hcase⟩:=hv.slice_inv
 rcases hcase with ⟨rfl,rfl,_⟩ | ⟨b,b',rfl,rfl,hcase⟩
 ·cases h
  exact ⟨#[],fun _=>rfl,.nil _⟩
 ·simp only [zC1,cond_eq_ite] at h
  split at h
  ·rename_i h0; have h0:=Nat.eq_of_beq_eq_true h0
   cases h
   refine ⟨#[],?_,.nil _⟩; intro d; simp only [Builtin.firstCells,h0]; exact zFS _ _
  rename_i h0; have h0:k*size≠0:=fun hh=>h0 (by rw [hh]; rfl); have hk0:k≠0:=fun hh=>h0 (by rw [hh]; omega)
  have ha:ARel ρ b b':=by
   rcases hcase with ⟨ha,_⟩ | ⟨h1,_⟩ | ⟨h1,_⟩
   ·exact ha
   ·omega
   ·omega
  split at h
  ·rename_i cc kk zz ee hobj
   split at h
   ·rename_i hle; have hle:=Nat.le_of_ble_eq_true hle
    cases h
    obtain ⟨x,c2,fr,hx,rfl,hb,_,_,hn,hs,hoo,_,hc⟩:=hw.cells ha hobj; refine ⟨(zBV c2 (k*size) (b.off+x.o)).toArray,?_,by simpa using zNw hc (k*size) b.off hle⟩; intro d; simp only [Builtin.firstCells]; exact zC4 (w:={ w with drawn:=d }) hb _ _ (by omega)
   ·cases h
  ·rename_i ff kk ee hobj
   split at h
   ·rename_i hle; have hle:=Nat.le_of_ble_eq_true hle
    cases h
    obtain ⟨x,c2,_,fr,hx,rfl,hb,hn,hs,hoo,_,hc⟩:=hw.fixed ha hobj; refine ⟨(zBV c2 (k*size) (b.off+x.o)).toArray,?_,by simpa using zH1 hc (k*size) b.off hle⟩; intro d; simp only [Builtin.firstCells]; exact zC4 (w:={ w with drawn:=d }) hb _ _ (by omega)
   ·cases h
  ·cases h
theorem zLD (hw:WRel P w0 ρ W w) {x x':Value} {n k size:Nat} {l:List Value} (hx:VRel ρ x x') (hn:zT9 x=some n) (hk:k≤n) (h:zDX x k size W=some l) :
  ∃ l':Array Value,(∀ d,(Builtin.firstCells size k x').run P { w with drawn:=d }=.ok l' { w with drawn:=d })∧LRel ρ l l'.toList∧∀ w:World,(Builtin.lenOf x').run P w=.ok n w:=by
 unfold zT9 at hn
 split at hn
 ·rename_i b m c
  cases hn
  simp only [zDX] at h; obtain ⟨l',h1,h2⟩:=zEq hw hx hk h; obtain ⟨b',c',rfl,_⟩:=hx.slice_inv; exact ⟨l',h1,h2,fun _=>rfl⟩
 ·rename_i s
  cases hn
  cases hx
  simp only [zDX,cond_eq_ite] at h
  split at h
  ·cases h
   refine ⟨(s.extract 0 k).data.map fun b=>.int .u8 b.toNat,fun d=>rfl,?_,fun _=>rfl⟩
   have:((s.extract 0 k).data.map fun b=>Value.int .u8 b.toNat).toList=zBM ((sb s).take k):=by
    simp [zBM,sb,ByteArray.data_extract]
   rw [this]; exact LRel.map (ρ:=ρ) _ (fun b:UInt8=>Value.int .u8 b.toNat) (fun b:UInt8=>Value.int .u8 b.toNat) (fun _ _=>.int _ _)
  ·cases h
 ·cases hn
theorem LRel.allOne:∀ {xs ys:List Value},LRel ρ xs ys→xs.all zAg=true→ys.all zAg=true
 | [],[],_,_=>rfl
 | x::xs,y::ys,h,hx=>by
  simp only [List.all_cons,Bool.and_eq_true] at hx ⊢; exact ⟨by rw [h.head.one]; exact hx.1,LRel.allOne h.tail hx.2⟩
 | [],_::_,h,_=>by have:=h.1; simp at this
 | _::_,[],h,_=>by have:=h.1; simp at this
theorem WRel.kill (h:WRel P w0 ρ W w) {i:Nat} {o:CObj} (ho:W.obj i=some o):WRel P w0 ρ (W.upd i .dead) w:=by
 have get:∀ j v,(W.upd i .dead).h.get j=some v→v≠.dead→W.h.get j=some v∧j≠i:=fun j v hv hvd=>by
  simp only [CW.upd,Tr.get_set] at hv
  split at hv
  ·cases hv; exact (hvd rfl).elim
  ·rename_i e; exact ⟨hv,e⟩
 refine ⟨h.dom,?_,?_,?_,h.below⟩
 ·intro j v hv; simp only [CW.upd,Tr.get_set] at hv
  split at hv
  ·rename_i e; subst e; exact h.top j o ho
  ·exact h.top j v hv
 ·intro j v y hv hvd hy; exact h.live j v y (get j v hv hvd).1 hvd hy
 ·intro j k u v y z hu hud hv hvd hy hz hyz; exact h.inj j k u v y z (get j u hu (CObj.mut_ne hud)).1 hud (get k v hv (CObj.mut_ne hvd)).1 hvd hy hz hyz
theorem WRel.rename (h:WRel P w0 ρ W w) {i:Nat} {o u:CObj} {u':Obj} {x y:Info} (ho:W.obj i=some o) (hd:o.mut=true) (hx:ρ i=some x) (hb:y.b=x.b)
  (hr:ORel P (fun i=>if i=W.sz then some y else ρ i) y u u') (hm:u.mut=true:=by rfl) :
  Grow W ρ ((W.upd i .dead).new u) (fun i=>if i=W.sz then some y else ρ i)∧WRel P w0 (fun i=>if i=W.sz then some y else ρ i) ((W.upd i .dead).new u) { w with heap:=w.heap.setIfInBounds x.b u' }:=by
 obtain ⟨o',ho',_,hfr,_⟩:=h.live i o x ho (CObj.mut_ne hd) hx; have hfr:=hfr hd; have hlt:=(Array.getElem?_eq_some_iff.1 ho').1; have hi:=h.top i o ho
 have hext:Ext ρ (fun i=>if i=W.sz then some y else ρ i):=fun j z hz=>by
  have:=h.dom j z hz; show (if j=W.sz then some y else ρ j)=some z; rw [if_neg (by omega)]; exact hz
 have get:∀ j v,((W.upd i .dead).new u).h.get j=some v→v≠.dead→(j=W.sz∧v=u)∨(j≠W.sz∧j≠i∧W.h.get j=some v):=fun j v hv hvd=>by
  simp only [CW.new,CW.upd,Tr.get_set] at hv
  split at hv
  ·rename_i e; cases hv; exact .inl ⟨e,rfl⟩
  ·rename_i e
   split at hv
   ·cases hv; exact (hvd rfl).elim
   ·rename_i e2; exact .inr ⟨e,e2,hv⟩
 refine ⟨⟨hext,fun j hj=>by show (if j=W.sz then some y else ρ j)=ρ j; rw [if_neg (by omega)],Nat.le_succ _⟩,?_,?_,?_,?_,?_⟩
 ·intro j z hz; show j<W.sz+1
  by_cases e:j=W.sz
  ·omega
  ·have:ρ j=some z:=by simpa [e] using hz
   have:=h.dom j z this; omega
 ·intro j v hv; show j<W.sz+1; simp only [CW.new,CW.upd,Tr.get_set] at hv
  split at hv
  ·rename_i e; have e:j=W.sz:=e; omega
  ·split at hv
   ·omega
   ·have:=h.top j v hv; omega
 ·intro j v z hv hvd hz
  rcases get j v hv hvd with ⟨rfl,rfl⟩ | ⟨e1,e2,hg⟩
  ·have hz:some y=some z:=by simpa using hz
   cases hz
   refine ⟨u',?_,hr,fun _=>by rw [hb]; exact hfr,fun hf=>by rw [hm] at hf; cases hf⟩; show (w.heap.setIfInBounds x.b u')[y.b]?=_; rw [hb]; simp [hlt]
  ·have hz:ρ j=some z:=by simpa [e1] using hz
   obtain ⟨v',hv',hrv,hfv⟩:=h.live j v z hg hvd hz; refine ⟨v',?_,hrv.mono hext,hfv⟩
   have hne:x.b≠z.b:=fun hb2=>by
    cases hvm:v.mut with
    | true=>exact e2 (h.inj j i v o z x hg hvm ho hd hz hx hb2.symm)
    | false=>have:=hfv.2 hvm; omega
   show (w.heap.setIfInBounds x.b u')[z.b]?=_; rw [Array.getElem?_setIfInBounds_ne hne]; exact hv'
 ·intro j k v v' z z' hv hvd hv' hvd' hz hz' hzz
  rcases get j v hv (CObj.mut_ne hvd) with ⟨rfl,rfl⟩ | ⟨e1,e2,hg⟩ <;> rcases get k v' hv' (CObj.mut_ne hvd') with ⟨rfl,rfl⟩ | ⟨f1,f2,hg'⟩
  ·rfl
  ·simp only [if_true,Option.some.injEq] at hz; simp only [if_neg f1] at hz'; subst hz; exact (f2 (h.inj k i v' o z' x hg' hvd' ho hd hz' hx (by rw [←hzz,hb]))).elim
  ·simp only [if_true,Option.some.injEq] at hz'; simp only [if_neg e1] at hz; subst hz'; exact (e2 (h.inj j i v o z x hg hvd ho hd hz hx (by rw [hzz,hb]))).elim
  ·simp only [if_neg e1] at hz; simp only [if_neg f1] at hz'; exact h.inj j k v v' z z' hg hvd hg' hvd' hz hz' hzz
 ·exact ⟨h.below.os,h.below.tape,h.below.output,by show w0.heap.size≤(w.heap.setIfInBounds x.b u').size; rw [Array.size_setIfInBounds]; exact h.below.size,fun k hk=>by
   show (w.heap.setIfInBounds x.b u')[k]?=_
   rw [Array.getElem?_setIfInBounds_ne (by omega)]; exact h.below.block k hk⟩
theorem zLe (m:Nat):∀ (r c:Nat),c≤m+m / 4+200→Builtin.growBy m r c≤m+m / 4+200
 | 0,c,h=>h
 | r+1,c,h=>by
  rw [Builtin.growBy]
  split
  ·exact h
  ·exact zLe m r _ (by omega)
theorem zH9 (m c:Nat) (h:c<m):Builtin.nextslicecap m c≤2*m+200:=by
 unfold Builtin.nextslicecap
 split
 ·omega
 ·split
  ·omega
  ·have:=zLe m 4 c (by omega); omega
theorem zPj (w:World) {ts:Array TypeId} {t u ty:TypeId} {elem:TypeId} {size:Nat} {z:Value} {info:TypeInfo} {base:Option Addr} {sLen sCap n:Nat} {x:Value} {news:Array Value}
  (h0:ts[0]?=some t) (h1:ts[1]?=some u) (hu:zEg P u=true) (ht:P.underlying t=some (.slice elem)) (hs:siz P elem=some size) (hz:zer P elem=some z)
  (hi:P.info? elem=some info) (hb:info.bytes≤1024) (hn:sLen+n≤1000000)
  (hnews:∀ d,(Builtin.firstCells size n x).run P { w with drawn:=d }=.ok news { w with drawn:=d }) (hlen:∀ w:World,(Builtin.lenOf x).run P w=.ok n w) :
  (sLen+n≤sCap→(Builtin.append_ ts ty #[.slice base sLen sCap,x]).run P w =
   (do
       if let some a:=base then storeCells (a.add (sLen*size)) news.toList
       pure (.slice base (sLen+n) sCap):Sem Value).run P w) ∧
  (sCap<sLen+n→∀ old:Array Value,(∀ d,(Builtin.firstCells size sLen (.slice base sLen sCap)).run P { w with drawn:=d }=.ok old { w with drawn:=d }) →
   ∃ nc d,sLen+n≤nc∧(Builtin.append_ ts ty #[.slice base sLen sCap,x]).run P w =
    .ok (.slice (some ⟨w.heap.size,0,none⟩) (sLen+n) nc) { w with drawn:=d,heap:=w.heap.push (.cells (old++news++Builtin.zeroCells z.cells (nc-(sLen+n))) elem) }):=by
 refine ⟨fun hle=>?_,fun hlt old hold=>?_⟩
 ·cases hd:P.underlying u with
  | none=>simp [zEg,hd] at hu
  | some d =>
   cases d <;> first | (simp [zEg,hd] at hu; done) | skip
   all_goals
    simp only [Builtin.append_,h0,h1,List.getElem?_toArray,List.getElem?_cons_zero,List.getElem?_cons_succ,Sem.run_bind,zAC ht,zAC hd,Result.andThen_ok,zAa hs,Sem.run_pure,Bool.false_eq_true,if_false,hlen,if_pos hle,Bool.not_false,if_true,hnews w.drawn]
    cases base <;> rfl
 ·have hnc:Builtin.nextslicecap (sLen+n) sCap*info.bytes≤2 ^ 48:=by
   have h2:=zH9 (sLen+n) sCap hlt
   calc Builtin.nextslicecap (sLen+n) sCap*info.bytes≤2000200*1024:=Nat.mul_le_mul (by omega) hb
    _≤2 ^ 48:=by decide
  refine ⟨sLen+n+(w.tape w.drawn (.appendCap (sLen+n) sCap elem)) % (2 ^ 63-(sLen+n)),w.drawn+1,by omega,?_⟩
  have hbig:¬((sLen+n:Nat):Int)>IntKind.i64.max:=by
   have:IntKind.i64.max=9223372036854775807:=by decide
   omega
  have hcap:¬Builtin.nextslicecap (sLen+n) sCap*info.bytes>2 ^ 48:=by omega
  cases hd:P.underlying u with
  | none=>simp [zEg,hd] at hu
  | some d =>
   cases d <;> first | (simp [zEg,hd] at hu; done) | skip
   all_goals
    simp only [Builtin.append_,h0,h1,List.getElem?_toArray,List.getElem?_cons_zero,List.getElem?_cons_succ,Sem.run_bind,zAC ht,zAC hd,Result.andThen_ok,zAa hs,Sem.run_pure,Bool.false_eq_true,if_false,hlen,if_neg (Nat.not_le.2 hlt),Bool.not_false,if_true,zC3 hi,hbig,false_and,hcap,run_choose,Question.forced,run_askRoom,Question.cut,zAe hz]; have e1:=hold (w.drawn+1); have e2:=hnews (w.drawn+1); simp only [e1,e2,Result.andThen_ok,zAe hz,newRow,Sem.run_bind,run_newObj,Sem.run_pure]
theorem zIc {old news:List Value} {old' news' rest:Array Value} (h1:LRel ρ old old'.toList) (h2:LRel ρ news news'.toList) (k:Nat) (hk:k<old.length+news.length) :
  VRel ρ (zBh (Tr.nil.putFrom 0 (old++news)) #[] k) ((old'++news'++rest).getD (k+0) undef):=by
 rw [zBL _ _ _ (by simpa using hk)]; have h:=(h1.append h2).2 k (by simpa using hk); have hl:=(h1.append h2).1; have hk':k<(old'.toList++news'.toList).length:=by rw [←hl]; simpa using hk
 rw [List.getD_eq_getElem?_getD (l:=old'.toList++news'.toList)] at h
 have e:(old'++news'++rest).getD (k+0) undef=((old'.toList++news'.toList)[k]?).getD undef:=by
  rw [Array.getD_eq_getD_getElem?,←Array.getElem?_toList]; simp only [Array.toList_append,Nat.add_zero]; rw [List.getElem?_append_left hk']
 rw [e]; exact h
theorem zFP (z:Array Value) (n:Nat):(Builtin.zeroCells z n).size=n*z.size:=by simp [Builtin.zeroCells]
theorem zKm (hw:WRel P w0 ρ W w) {ts:Array TypeId} {t u ty:TypeId} {s s' x x' v:Value} {W1:CW} (h0:ts[0]?=some t) (h1:ts[1]?=some u) (hu:zEg P u=true)
  (h:zDQ P t s x W=some (v,W1)) (hs:VRel ρ s s') (hx:VRel ρ x x') :
  ∃ v' w' ρ',Grow W ρ W1 ρ'∧(Builtin.append_ ts ty #[s',x']).run P w=.ok v' w'∧VRel ρ' v v'∧WRel P w0 ρ' W1 w':=by
 unfold zDQ at h
 split at h
 ·rename_i elem base sLen sCap n ht hsn; obtain ⟨size,hsz,h'⟩:=zAO h; clear h; obtain ⟨z,hzz,h⟩:=zAO h'; clear h'; obtain ⟨news,hnews,h'⟩:=zAO h; clear h; have h:=h'; clear h'; rw [cond_eq_ite] at h; split at h
  rotate_left
  ·cases h
  rename_i hcond; simp only [Bool.and_eq_true] at hcond; obtain ⟨⟨⟨⟨⟨c1,c2⟩,c3⟩,c4⟩,c5⟩,c6⟩:=hcond; have c2:=Nat.eq_of_beq_eq_true c2; have c3:0<size:=by have:=Nat.le_of_ble_eq_true c3; omega
  have c4:=Nat.eq_of_beq_eq_true c4; have c5:=Nat.le_of_ble_eq_true c5; have c6:=Nat.le_of_ble_eq_true c6
  obtain ⟨info,hinfo⟩:∃ i,P.info? elem=some i:=by
   unfold siz at hsz
   cases hi:P.info? elem with
   | none=>simp [hi] at hsz
   | some i=>exact ⟨i,rfl⟩
  have hb:info.bytes≤1024:=by simpa [hinfo] using c6
  have hel:(P.info? elem).map (·.size)=some size:=hsz; obtain ⟨news',hn',hrel,hlenx⟩:=zLD hw hx hsn (Nat.le_refl n) hnews; have hsr:=hs; obtain ⟨base',sCap',rfl,hcase⟩:=hs.slice_inv; obtain ⟨R1,R2⟩:=zPj (P:=P) (ty:=ty) (base:=base') (sLen:=sLen) (sCap:=sCap') w h0 h1 hu ht hsz hzz hinfo hb c5 hn' hlenx; have hlen':news'.size=n*size:=by have:=hrel.1; simp at this; omega
  have hcap:sCap≤sCap':=by
   rcases hcase with ⟨_,_,h⟩ | ⟨b,b',_,_,⟨_,h⟩ | ⟨_,h,_⟩ | ⟨_,h,_⟩⟩
   ·omega
   ·rcases h with h | ⟨_,_,_,_,_,h⟩ <;> omega
   ·omega
   ·omega
  rw [cond_eq_ite] at h
  split at h
  ·rename_i hle; have hle:=Nat.le_of_ble_eq_true hle; have R1:=R1 (by omega); rw [cond_eq_ite] at h
   split at h
   ·rename_i hn0; have hn0:n=0:=Nat.eq_of_beq_eq_true hn0; subst hn0; simp only [Option.some.injEq,Prod.mk.injEq] at h; obtain ⟨rfl,rfl⟩:=h; refine ⟨.slice base' sLen sCap',w,ρ,.refl _,?_,hsr,hw⟩; rw [R1]
    have:news'.toList=[]:=by
     have:news'.size=0:=by omega
     simpa using this
    rw [this]
    cases base' <;> simp [storeCells]
   ·rename_i hn0; have hn0:n≠0:=fun h=>hn0 (by rw [h]; rfl)
    rcases hcase with ⟨rfl,rfl,rfl⟩ | ⟨b,b',rfl,rfl,hcase⟩
    ·simp only [Option.some.injEq,Prod.mk.injEq] at h; obtain ⟨rfl,rfl⟩:=h; exact ⟨.slice none (sLen+n) sCap',w,ρ,.refl _,by rw [R1]; simp,.snil _ _,hw⟩
    ·rcases hcase with ⟨ha,hc⟩ | ⟨_,h0',_⟩ | ⟨_,h0',_⟩
     ·simp only at h
      split at h
      ·rename_i c m zz e hobj; rw [cond_eq_ite] at h
       split at h
       ·rename_i hle2; have hle2:=Nat.le_of_ble_eq_true hle2; simp only [Option.some.injEq,Prod.mk.injEq] at h; obtain ⟨rfl,rfl⟩:=h; obtain ⟨x,c2',fr,hx2,rfl,hbk,hnf,hr,hn,hsz2,hoo,_,hcc⟩:=hw.cells ha hobj; have hw2:=hw.upd hobj rfl hx2 (hr.write (vs:=news) (vs':=news'.toList) hrel (k:=b.off+sLen*size) (by omega)); refine ⟨_,_,ρ,.refl _,?_,.slice _ ha hc,hw2⟩; rw [R1]; simp only [Sem.run_bind,zHQ]; rw [zB7 (P:=P) (b.off+x.o+sLen*size) news'.toList 0 w c2' hbk hnf (by simp; omega) (hrel.allOne c1)]; simp only [Result.andThen_ok,Sem.run_pure,Nat.add_zero]; have:b.off+x.o+sLen*size=b.off+sLen*size+x.o:=by omega
        rw [this]
       ·cases h
      ·cases h
     ·omega
     ·omega
  ·rename_i hle
   have hle:sCap<sLen+n:=by
    have:¬sLen+n≤sCap:=fun hh=>hle (Nat.ble_eq_true_of_le hh); omega
   have newCase:sLen=0→(∀ d,(Builtin.firstCells size sLen (.slice base' sLen sCap')).run P { w with drawn:=d }=.ok #[] { w with drawn:=d })→sCap'<sLen+n →
     v=.slice (some ⟨W.sz,0,none⟩) (sLen+n) (sLen+n)→W1=W.new (.cells (Tr.nil.putFrom 0 news) ((sLen+n)*size) #[] elem) →
     ∃ v' w' ρ',Grow W ρ W1 ρ'∧(Builtin.append_ ts ty #[.slice base' sLen sCap',x']).run P w=.ok v' w'∧VRel ρ' v v'∧WRel P w0 ρ' W1 w':=by
    intro hs0 hold hlt hv hW; subst hv hW hs0; obtain ⟨nc,d,hnc,hrun⟩:=R2 hlt #[] hold; have hw1:=hw.drew d
    have hsz3:((#[]:Array Value)++news'++Builtin.zeroCells z.cells (nc-(0+n))).size=nc*size:=by
     simp only [Array.size_append,zFP,hlen',c4,List.size_toArray,List.length_nil]; obtain ⟨k,rfl⟩:∃ k,nc=0+n+k:=⟨nc-(0+n),by omega⟩
     have:0+n+k-(0+n)=k:=by omega
     rw [this,Nat.add_mul,Nat.zero_add n]; omega
    have hext:Ext ρ (fun i=>if i=W.sz then some ⟨w.heap.size,0,size,(0+n)*size,nc*size⟩ else ρ i):=fun i y hy=>by
     have:=hw.dom i y hy; show (if i=W.sz then _ else ρ i)=some y; rw [if_neg (by omega)]; exact hy
    obtain ⟨hg,hw2⟩:=hw1.new (o:=.cells (Tr.nil.putFrom 0 news) ((0+n)*size) #[] elem) (o':=.cells (#[]++news'++Builtin.zeroCells z.cells (nc-(0+n))) elem (0,0))
     ⟨w.heap.size,0,size,(0+n)*size,nc*size⟩ rfl (by
      refine .cells hel hsz3 ?_ (fun k hk=>?_) ⟨NF.zero _,fun h=>(h rfl).elim⟩
      ·simp only [Nat.zero_add]; exact Nat.mul_le_mul_right _ (by omega)
      ·have:=zIc (ρ:=ρ) (old:=[]) (old':=#[]) (rest:=Builtin.zeroCells z.cells (nc-(0+n))) (.nil _) hrel k (by simp [c2]; simpa using hk)
       exact this.mono hext)
    refine ⟨_,_,_,hg,hrun,?_,hw2⟩; refine .slice _ ⟨rfl,⟨w.heap.size,0,size,(0+n)*size,nc*size⟩,by simp,by simp⟩ (.inr ⟨⟨w.heap.size,0,size,(0+n)*size,nc*size⟩,by simp,c3,by simp,by simp,hnc⟩)
   rcases hcase with ⟨rfl,rfl,rfl⟩ | ⟨b,b',rfl,rfl,hcase⟩
   ·simp only [cond_eq_ite] at h
    split at h
    ·rename_i hs0; have hs0:=Nat.eq_of_beq_eq_true hs0; simp only [Option.some.injEq,Prod.mk.injEq] at h; obtain ⟨hv,hW⟩:=h; exact newCase hs0 (fun _=>rfl) (by omega) hv.symm hW.symm
    ·cases h
   ·simp only [cond_eq_ite] at h
    split at h
    ·rename_i hsp
     split at h
     ·rename_i hs0; simp only [Bool.and_eq_true] at hs0; have hs1:=Nat.eq_of_beq_eq_true hs0.1; have hs2:=Nat.eq_of_beq_eq_true hs0.2; simp only [Option.some.injEq,Prod.mk.injEq] at h; obtain ⟨hv,hW⟩:=h
      have hc0:sCap'=0:=by
       rcases hcase with ⟨ha,_⟩ | ⟨_,_,hq,_⟩ | ⟨_,_,h1,_⟩
       ·rw [ha.1] at hsp; cases hsp
       ·rw [hq] at hsp; cases hsp
       ·exact h1
      refine newCase hs1 (fun d=>?_) (by omega) hv.symm hW.symm; rw [hs1]; simp only [Builtin.firstCells,Nat.zero_mul]; exact zFS _ _
     ·cases h
    rename_i hsp
    have hcase:(ARel ρ b b'∧CapRel ρ b sCap sCap')∨(sLen=0∧sCap=0∧∃ x,ρ b.block=some x∧b'.block=x.b∧b'.spot=none∧(sCap'=0∨(0<x.sz∧b'.off+sCap'*x.sz=x.n'))):=by
     rcases hcase with h1 | ⟨h1,h2,_,h3⟩ | ⟨_,_,_,h1⟩
     ·exact .inl h1
     ·exact .inr ⟨h1,h2,h3⟩
     ·rw [h1] at hsp; exact (hsp rfl).elim
    clear newCase; split at h
    rotate_left
    ·cases h
    rename_i c m zz e hobj; split at h
    rotate_left
    ·cases h
    rename_i hcond; simp only [Bool.and_eq_true] at hcond; have hle2:=Nat.le_of_ble_eq_true hcond.1; have hee:=Nat.eq_of_beq_eq_true hcond.2; subst hee; simp only [Option.some.injEq,Prod.mk.injEq] at h; obtain ⟨rfl,rfl⟩:=h
    obtain ⟨x,c2',q,fr,hx2,hq,hbk,hnf,hr,hsz2,hoff,hcells⟩:∃ x c2' q fr,ρ b.block=some x∧b'=⟨x.b,q,none⟩∧w.heap[x.b]?=some (.cells c2' e fr)∧NF fr c2'.size∧ORel P ρ x (.cells c m zz e) (.cells c2' e fr)∧c2'.size=x.n' ∧
      (sCap'=sCap∨(x.sz=size∧q+sCap'*size=x.n'))∧(∀ k,k<sLen*size→VRel ρ (zBh c zz (b.off+k)) (c2'.getD (q+k) undef)):=by
     rcases hcase with ⟨ha,hc⟩ | ⟨hs0,hc0,x,hx2,hb1,hb2,hc⟩
     ·obtain ⟨x,c2',fr,hx2,rfl,hbk,hnf,hr,hn,hsz2,hoo,he,hcc⟩:=hw.cells ha hobj
      refine ⟨x,c2',b.off+x.o,fr,hx2,rfl,hbk,hnf,hr,hsz2,?_,fun k hk=>?_⟩
      ·rcases hc with hc | ⟨y,hy,_,_,h2,_⟩
       ·exact .inl hc
       ·rw [hx2] at hy; cases hy; have:=zNq hsz he; rw [this] at h2; exact .inr ⟨this,h2⟩
      ·have:=hcc (b.off+k) (by omega); have e1:b.off+k+x.o=b.off+x.o+k:=by omega
       rwa [e1] at this
     ·obtain ⟨o',ho',hr⟩:=hw.obj hobj (by simp) hx2 rfl
      cases hr with
      | cells he hs2 hoo hcc hq =>
       refine ⟨x,_,b'.off,_,hx2,?_,ho',hq.1,.cells he hs2 hoo hcc hq,hs2,?_,fun k hk=>?_⟩
       ·cases b'; simp_all
       ·rcases hc with hc | ⟨_,hc⟩
        ·left; omega
        ·have:=zNq hsz he; rw [this] at hc; exact .inr ⟨this,hc⟩
       ·rw [hs0] at hk; omega
    subst hq
    by_cases hin:sLen+n≤sCap'
    ·have hoff:=hoff.resolve_left (by omega); have R1:=R1 hin
     have hroom:q+(sLen+n)*size≤x.n':=by
      have:=Nat.mul_le_mul_right size hin; omega
     have hmul:(sLen+n)*size=sLen*size+n*size:=Nat.add_mul _ _ _; have hll:news.length=news'.toList.length:=hrel.1
     have hext:Ext ρ (fun i=>if i=W.sz then some ⟨x.b,q,size,(sLen+n)*size,x.n'⟩ else ρ i):=fun i y hy=>by
      have:=hw.dom i y hy; show (if i=W.sz then _ else ρ i)=some y; rw [if_neg (by omega)]; exact hy
     obtain ⟨hg,hw2⟩:=hw.rename (u:=.cells (Tr.nil.putFrom 0 (zAh c zz (sLen*size) b.off++news)) ((sLen+n)*size) #[] e) (u':=.cells (zCu c2' (q+sLen*size) news'.toList) e fr)
      (y:=⟨x.b,q,size,(sLen+n)*size,x.n'⟩) hobj rfl hx2 rfl (by
       refine .cells hel (by rw [zCk]; exact hsz2) hroom (fun k hk=>?_) ⟨by rw [zCk]; exact hnf,fun h=>(h rfl).elim⟩; have hk:k<(sLen+n)*size:=hk; refine VRel.mono (ρ:=ρ) ?_ hext; rw [zBL _ _ _ (by simp [zAV,c2]; omega),zHm _ _ _ _ (by rw [←hll]; omega)]; rw [←hll]; show VRel ρ _ (if q+sLen*size≤k+q∧k+q<q+sLen*size+news.length then news'.toList.getD (k+q-(q+sLen*size)) undef else c2'.getD (k+q) undef)
       by_cases hk2:k<sLen*size
       ·rw [if_neg (by omega)]; rw [List.getD_eq_getElem?_getD,List.getElem?_append_left (by rw [zAV]; exact hk2),←List.getD_eq_getElem?_getD,zCP _ _ _ _ _ hk2,Nat.add_comm k q]; exact hcells k hk2
       ·rw [if_pos (by omega)]; rw [List.getD_eq_getElem?_getD,List.getElem?_append_right (by rw [zAV]; omega),←List.getD_eq_getElem?_getD,zAV]; have e1:k+q-(q+sLen*size)=k-sLen*size:=by omega
        rw [e1]
        exact hrel.2 _ (by omega))
     refine ⟨.slice (some ⟨x.b,q,none⟩) (sLen+n) sCap',_,_,hg,?_,?_,hw2⟩
     ·rw [R1]; simp only [Sem.run_bind,zHQ]; rw [zB7 (P:=P) (q+sLen*size) news'.toList 0 w c2' hbk hnf (by rw [←hll]; omega) (hrel.allOne c1)]; simp only [Result.andThen_ok,Sem.run_pure,Nat.add_zero]
     ·refine .slice _ ⟨rfl,⟨x.b,q,size,(sLen+n)*size,x.n'⟩,by simp,by simp⟩ (.inr ⟨⟨x.b,q,size,(sLen+n)*size,x.n'⟩,by simp,c3,by simp,?_,hin⟩); show 0+q+sCap'*size=x.n'; omega
    ·have hN:zC1 (some b) (sLen*size) W=some (zAh c zz (sLen*size) b.off):=by
      simp only [zC1,hobj,cond_eq_ite]; rw [if_pos (Nat.ble_eq_true_of_le hle2)]
      split
      ·rename_i h0; rw [Nat.eq_of_beq_eq_true h0]; rfl
      ·rfl
     obtain ⟨old',ho',hor⟩:=zEq hw hsr (Nat.le_refl sLen) hN; obtain ⟨nc,d,hnc,hrun⟩:=R2 (by omega) old' ho'; have hw1:=(hw.kill hobj).drew d; have hol:old'.size=sLen*size:=by have:=hor.1; rw [zAV] at this; simpa using this.symm
     have hsz3:(old'++news'++Builtin.zeroCells z.cells (nc-(sLen+n))).size=nc*size:=by
      simp only [Array.size_append,zFP,hlen',c4,hol]; obtain ⟨k,rfl⟩:∃ k,nc=sLen+n+k:=⟨nc-(sLen+n),by omega⟩
      have:sLen+n+k-(sLen+n)=k:=by omega
      rw [this,Nat.add_mul,Nat.add_mul]
     have hext:Ext ρ (fun i=>if i=W.sz then some ⟨w.heap.size,0,size,(sLen+n)*size,nc*size⟩ else ρ i):=fun i y hy=>by
      have:=hw.dom i y hy; show (if i=W.sz then _ else ρ i)=some y; rw [if_neg (by omega)]; exact hy
     obtain ⟨hg,hw2⟩:=hw1.new (o:=.cells (Tr.nil.putFrom 0 (zAh c zz (sLen*size) b.off++news)) ((sLen+n)*size) #[] e) (o':=.cells (old'++news'++Builtin.zeroCells z.cells (nc-(sLen+n))) e (0,0))
      ⟨w.heap.size,0,size,(sLen+n)*size,nc*size⟩ rfl (by
       refine .cells hel hsz3 ?_ (fun k hk=>?_) ⟨NF.zero _,fun h=>(h rfl).elim⟩
       ·simp only [Nat.zero_add]; exact Nat.mul_le_mul_right _ (by omega)
       ·have hk:k<(sLen+n)*size:=hk; rw [Nat.add_mul] at hk
        exact (zIc (ρ:=ρ) hor hrel k (by rw [zAV]; omega)).mono hext)
     refine ⟨_,_,_,hg,hrun,?_,hw2⟩
     refine .slice _ ⟨rfl,⟨w.heap.size,0,size,(sLen+n)*size,nc*size⟩,?_,by simp⟩ (.inr ⟨⟨w.heap.size,0,size,(sLen+n)*size,nc*size⟩,?_,c3,by simp,by simp,hnc⟩)
     ·show (if W.sz=W.sz then _ else _)=_; rw [if_pos rfl]
     ·show (if W.sz=W.sz then _ else _)=_; rw [if_pos rfl]
 ·cases h
end
end Go.Ce
namespace Go.Ce
open Go.RowKit (Below)
section
variable {P:Program} {w0:World} {ρ:Ren} {W:CW} {w:World} {o:Oper} {e e':Operand→Value} {outs:List (CNext × CW)}
theorem zKi (hz:ZP P) {f:FuncId} {as:List Value} {as':Array Value} {v:Value} {W1:CW} (h:zE1 P f as W=some (v,W1)) (hw:WRel P w0 ρ W w) (ha:LRel ρ as as'.toList) :
  ∃ v' w' ρ',(callFunc f as').run P w=.ok (.value v') w'∧Grow W ρ W1 ρ'∧VRel ρ' v v'∧WRel P w0 ρ' W1 w':=by
 unfold zE1 at h; split at h
 rotate_left
 ·cases h
 rename_i fn hfn; rw [cond_eq_ite] at h; split at h
 rotate_left
 ·cases h
 rename_i hb; rw [cond_eq_ite] at h; split at h
 rotate_left
 ·cases h
 rename_i hn; split at h
 rotate_left
 ·cases h
 rename_i t r; split at h
 rotate_left
 ·cases h
 rename_i es clk hobj
 cases h
 obtain ⟨y,hy,hv⟩:=ha.get (i:=0) (x:=.iface t (.map (some r))) rfl
 have hl:as'=#[y]:=by
  have h1:=ha.1; apply Array.ext'
  cases hq:as'.toList with
  | nil=>rw [hq] at h1; cases h1
  | cons z l =>
   rw [hq] at h1 hy; have:l=[]:=by simpa using h1.symm
   subst this
   simpa using hy
 subst hl
 cases hv with
 | iface _ hv =>
  cases hv with
  | @map _ r' hb' =>
   obtain ⟨x,hx,rfl⟩:=hb'; obtain ⟨o',ho',hr⟩:=hw.obj hobj (by simp) hx rfl
   cases hr with
   | @map _ es' _ h1 h2 =>
    have hext:Ext ρ (fun i=>if i=W.sz then some ⟨w.heap.size,0,0,0,0⟩ else ρ i):=fun i y hy=>by
     have:=hw.dom i y hy; show (if i=W.sz then _ else ρ i)=some y; rw [if_neg (by omega)]; exact hy
    obtain ⟨hg,hw'⟩:=hw.new (o:=.map es clk) (o':=.map es' clk) ⟨w.heap.size,0,0,0,0⟩ rfl (.map rfl (h2.mono hext))
    have hrun:(Extern.MapsClone.clone #[.iface t (.map (some x.b))]).run P w=.ok (.iface t (.map (some w.heap.size))) { w with heap:=w.heap.push (.map es' clk) }:=by
     have e1:Extern.MapsClone.clone #[.iface t (.map (some x.b))]=(getObj x.b >>= fun o=>match o with
       | .map entries clock=>(newObj (.map entries clock) >>= fun n=>pure (.iface t (.map (some n))))
       | _=>stuck "maps.clone: a map expected"):=rfl
     have hgo:(getObj x.b).run P w=.ok (.map es' clk) w:=zAU ho' (by simp); rw [e1]; simp only [Sem.run_bind,hgo,Result.andThen_ok,run_newObj,Sem.run_pure]
    exact ⟨_,_,_,hz.2 f fn hfn hb hn _ _ _ _ hrun,hg,.iface _ (.map ⟨⟨w.heap.size,0,0,0,0⟩,by simp,rfl⟩),hw'⟩
theorem zLS (hz:ZP P) {c:Call} {f:Operand} (ho:o.op=.call c) (hf:c.callee=.value f) (h:cop P o e W=some outs) (hw:WRel P w0 ρ W w) (hx:VRel ρ (e f) (e' f))
  (ha:∀ x,x ∈ c.args.toList→VRel ρ (e x) (e' x)):OpSound P w0 ρ W ((execOp e' o).run P w) outs:=by
 simp only [cop,ho,hf] at h; have hargs:LRel ρ (c.args.toList.map e) (c.args.map e').toList:=by simpa using LRel.map (ρ:=ρ) c.args.toList e e' ha
 generalize hn:zFN (e f) (c.args.toList.map e)=n at h; unfold zFN at hn
 split at hn
 ·rename_i fn first cap hc; rw [hc] at hx; generalize hcx:e' f=vx' at hx
  cases hx with
  | @func _ f' _ x' _ y' hfn h1 h2 h3 h4 =>
   cases hfn
   have hA:LRel ρ (first.toList++c.args.toList.map e++cap.toList) (x'++c.args.map e'++y').toList:=by
    have e1:=LRel.arr.2 ⟨h1,h2⟩; have e2:=LRel.arr.2 ⟨h3,h4⟩
    simpa using (e1.append hargs).append e2
   have hE:(execOp e' o).run P w=(callFunc fn (x'++c.args.map e'++y')).run P w:=by
    simp only [execOp,ho,resolve,hf,hcx,Deferred.ofValue,Sem.run_bind,Sem.run_pure,Result.andThen_ok,invoke]
   subst hn; simp only at h
   split at h
   ·rename_i v W1 hext
    cases h
    obtain ⟨v',w',ρ',hrun,hg,hv,hw'⟩:=zKi hz hext hw hA; exact ⟨_,_,ρ',List.mem_singleton.2 rfl,hg,.value (w:=w') (by rw [hE,hrun]) hv hw'⟩
   ·cases h
    exact ⟨_,_,ρ,List.mem_singleton.2 rfl,.refl _,.enter (args':=x'++c.args.map e'++y') (w:=w) hE hA hw⟩
 ·rename_i l first cap hc; subst hn
  cases h
  rw [hc] at hx; generalize hcx:e' f=vx' at hx
  cases hx with
  | @func _ f' _ x' _ y' hfn h1 h2 h3 h4 =>
   cases hfn with
   | yield hb =>
    refine ⟨_,_,ρ,List.mem_singleton.2 rfl,.refl _,.round (args':=x'++c.args.map e') (w:=w) ?_ hb ?_ hw⟩
    ·simp only [execOp,ho,resolve,hf,hcx,Deferred.ofValue,Sem.run_bind,Sem.run_pure,Result.andThen_ok,invoke]
    ·have e1:=LRel.arr.2 ⟨h1,h2⟩
     simpa using e1.append hargs
 ·subst hn
  cases h
theorem zGS:∀ {l:List Value} {m:List UInt8},zDt l=some m→m.length=l.length∧∀ l',LRel ρ l l'→∃ ns:List Int,l'=ns.map (Value.int .u8)∧m=ns.map fun n=>UInt8.ofNat n.toNat
 | [],m,h=>by cases h; exact ⟨rfl,fun l' hl=>⟨[],List.length_eq_zero_iff.1 hl.1.symm,rfl⟩⟩
 | v::l,m,h=>by
  unfold zDt at h
  split at h
  ·cases ‹_::_=[]›
  ·rename_i n l2 heq
   cases heq
   split at h
   ·rename_i m2 hm
    cases h
    obtain ⟨h1,h2⟩:=zGS hm; refine ⟨by simp [h1],fun l' hl=>?_⟩
    cases l' with
    | nil=>have:=hl.1; simp at this
    | cons y l' =>
     obtain ⟨ns,e1,e2⟩:=h2 l' hl.tail; have hv:=hl.head
     cases hv
     exact ⟨n::ns,by rw [e1]; rfl,by rw [e2]; rfl⟩
   ·cases h
  ·cases h
theorem zPf (hw:WRel P w0 ρ W w) {s d el:TypeId} {x x' v:Value} (hs:P.underlying s=some (.slice el)) (hd:P.underlying d=some .string) (h:zWU P el x W=some v) (hx:VRel ρ x x') :
  (convert s d x').run P w=.ok v w∧VRel ρ v v:=by
 unfold zWU at h; split at h
 rotate_left
 ·cases h
 rename_i b n c hel; obtain ⟨l,hl,h⟩:=zAO h; obtain ⟨m,hm,h⟩:=zAO h
 cases h
 refine ⟨?_,.string _⟩; obtain ⟨b',c',rfl,hcase⟩:=hx.slice_inv; rw [run_convert_bytes_string w s d el b' n c' hs hel hd]; have hl':zC1 b (n*1) W=some l:=by rw [Nat.mul_one]; exact hl
 obtain ⟨l',hr,hrel⟩:=zEq hw hx (Nat.le_refl n) hl'; obtain ⟨_,hb⟩:=zGS (ρ:=ρ) hm; obtain ⟨ns,e1,e2⟩:=hb _ hrel
 rcases hcase with ⟨rfl,rfl,_⟩ | ⟨a,a',rfl,rfl,_⟩
 ·have hnil:l=[]:=by cases hl; rfl
  subst hnil
  cases hm
  simp [Conv.bytesToString]; rfl
 ·have hr:=hr w.drawn; simp only [Builtin.firstCells,Nat.mul_one] at hr; have e3:l'=(ns.map (Value.int .u8)).toArray:=by apply Array.ext'; rw [e1]
  rw [e3] at hr; rw [run_bytesToString w a' n c' ns hr,foldl_push_bytes,e2]; simp
theorem zPY (hw:WRel P w0 ρ W w) {s d el:TypeId} {b:ByteArray} {v:Value} {W1:CW} (hs:P.underlying s=some .string) (hd:P.underlying d=some (.slice el)) (h:zWn P el b W=some (v,W1)) :
  ∃ v' w' ρ',(convert s d (.string b)).run P w=.ok v' w'∧Grow W ρ W1 ρ'∧VRel ρ' v v'∧WRel P w0 ρ' W1 w':=by
 unfold zWn at h; split at h
 rotate_left
 ·cases h
 rename_i hel hsz
 cases h
 let cap:=grownCap w b.size 0 el
 have hcapge:b.size≤cap:=by
  show b.size≤grownCap w b.size 0 el; simp only [grownCap,Question.cut]; omega
 have hw1:=hw.drew (w.drawn+1)
 have hext:Ext ρ (fun i=>if i=W.sz then some ⟨w.heap.size,0,1,b.size,cap⟩ else ρ i):=fun i y hy=>by
  have:=hw.dom i y hy; show (if i=W.sz then _ else ρ i)=some y; rw [if_neg (by omega)]; exact hy
 have hbs:b.data.size=b.size:=rfl
 have hcs:(bytesRow b cap).size=cap:=by
  simp [bytesRow,hbs]; omega
 obtain ⟨hg,hw2⟩:=hw1.new (o:=.cells (Tr.nil.putFrom 0 (zBM (sb b))) b.size #[] el) (o':=.cells (bytesRow b cap) el ((bytesRow b cap).size,(bytesRow b cap).size+1)) ⟨w.heap.size,0,1,b.size,cap⟩ rfl (by
  refine .cells hsz hcs (by show 0+b.size≤cap; omega) (fun k hk=>?_) ⟨fun k hk=>by simp; omega,fun h=>(h rfl).elim⟩; have hk:k<b.size:=hk; have hk2:k<b.data.size:=hk; have hlen:(zBM (sb b)).length=b.size:=by simp [zBM,sb,hbs]
  rw [zBL _ _ _ (by omega)]
  have e1:(bytesRow b cap).getD (k+0) undef=.int .u8 b.data[k].toNat:=by
   rw [Array.getD_eq_getD_getElem?,Nat.add_zero,bytesRow,Array.getElem?_append_left (by simpa using hk2)]; simp [Array.getElem?_eq_getElem hk2]
  have e2:(zBM (sb b)).getD k undef=.int .u8 b.data[k].toNat:=by
   simp [zBM,sb,List.getD_eq_getElem?_getD,Array.getElem?_eq_getElem hk2]
  rw [e1,e2]
  exact .int _ _)
 refine ⟨.slice (some ⟨w.heap.size,0,none⟩) b.size cap,_,_,?_,hg,.slice _ ⟨rfl,⟨w.heap.size,0,1,b.size,cap⟩,by simp,by simp⟩ (.inr ⟨⟨w.heap.size,0,1,b.size,cap⟩,by simp,by show 0<1; omega,by simp,by simp,hcapge⟩),hw2⟩; exact run_bytes_of_string w s d el b hs hd hel
theorem zO8 {s d:TypeId} {x:Operand} (ho:o.op=.convert s d x) (h:cop P o e W=some outs) (hw:WRel P w0 ρ W w) (hx:VRel ρ (e x) (e' x)) :
  OpSound P w0 ρ W ((execOp e' o).run P w) outs:=by
 simp only [cop,ho] at h
 split at h
 ·rename_i ud k k0 n hs hd hc
  cases h
  rw [hc] at hx; generalize hcc:e' x=vx' at hx
  cases hx
  refine .value hw ?_ (.int _ _); simp only [execOp,ho,hcc]; refine zAf ?_; simp only [convert,Sem.run_bind,zAC hs,zAC hd,Result.andThen_ok,Conv.intToInt,Sem.run_pure]
 ·rename_i ud s0 hs hd hc
  cases h
  rw [hc] at hx; generalize hcc:e' x=vx' at hx
  cases hx
  refine .value hw ?_ (.string _); simp only [execOp,ho,hcc]; refine zAf ?_
  cases ud <;> simp [convert,zAC hs,zAC hd]
 ·rename_i el s0 hs hd hc; obtain ⟨v,W1,hv,rfl⟩:=zGc h; rw [hc] at hx; generalize hcc:e' x=vx' at hx
  cases hx
  obtain ⟨v',w',ρ',hr,hg,hvv,hw'⟩:=zPY hw hs hd hv; refine ⟨_,_,ρ',List.mem_singleton.2 rfl,hg,.value (w:=w') ?_ hvv hw'⟩; simp only [execOp,ho,hcc]; exact zAf hr
 ·rename_i el _ hs hd _; obtain ⟨v,hv,rfl⟩:=zCO h; obtain ⟨hr,hvv⟩:=zPf hw hs hd hv hx; refine .value hw ?_ hvv; simp only [execOp,ho]; exact zAf hr
 ·cases h
theorem zNa (hw:WRel P w0 ρ W w) {ts:Array TypeId} {t ty:TypeId} {d d' s s' v:Value} {W1:CW} (h0:ts[0]?=some t)
  (h:zRh P t d s W=some (v,W1)) (hd:VRel ρ d d') (hs:VRel ρ s s'):∃ v' w',(Builtin.copy_ ts ty #[d',s']).run P w=.ok v' w'∧VRel ρ v v'∧WRel P w0 ρ W1 w':=by
 unfold zRh at h
 split at h
 ·rename_i elem base dLen dCap sLen ht hsn; obtain ⟨size,hsz,h2⟩:=zAO h; clear h; obtain ⟨news,hnews,h⟩:=zAO h2; clear h2; have hmin:Nat.min sLen dLen≤sLen:=Nat.min_le_left _ _; obtain ⟨news',hn',hrel,hl⟩:=zLD hw hs hsn hmin hnews; obtain ⟨base',dCap',rfl,hcase⟩:=hd.slice_inv
  have hrun:(Builtin.copy_ ts ty #[.slice base' dLen dCap',s']).run P w=(do
      if let some a:=base' then storeCells a news'.toList
      pure (goInt (Nat.min sLen dLen)):Sem Value).run P w:=by
   simp only [Builtin.copy_,h0,List.getElem?_toArray,List.getElem?_cons_zero,List.getElem?_cons_succ,Sem.run_bind,zAC ht,Result.andThen_ok,hl,zAa hsz,hn' w.drawn]
   cases base' <;> rfl
  rw [cond_eq_ite] at h
  split at h
  ·rename_i hn0; have hn0:=Nat.eq_of_beq_eq_true hn0; simp only [Option.some.injEq,Prod.mk.injEq] at h; obtain ⟨rfl,rfl⟩:=h; refine ⟨_,w,?_,.int _ _,hw⟩; rw [hrun]
   have hnil:news'.toList=[]:=by
    have hlen:=hrel.1
    have:news=[]:=by
     rw [hn0] at hnews; unfold zDX at hnews
     split at hnews
     ·rw [Nat.zero_mul] at hnews; unfold zC1 at hnews
      split at hnews
      ·cases hnews; rfl
      ·cases hnews; rfl
     ·rw [cond_eq_ite] at hnews
      split at hnews
      ·cases hnews; rfl
      ·cases hnews
     ·cases hnews
    rw [this] at hlen; exact List.length_eq_zero_iff.1 hlen.symm
   rw [hnil]
   cases base' <;> simp [storeCells,goInt]
  ·rename_i hn0
   rcases hcase with ⟨rfl,_,_⟩ | ⟨b,b',rfl,rfl,hcase⟩
   ·cases h
   ·simp only at h
    split at h
    ·rename_i c m zz ee hobj; rw [cond_eq_ite] at h
     split at h
     ·rename_i hcond; simp only [Bool.and_eq_true] at hcond; have hle:=Nat.le_of_ble_eq_true hcond.2; simp only [Option.some.injEq,Prod.mk.injEq] at h; obtain ⟨rfl,rfl⟩:=h
      rcases hcase with ⟨ha,_⟩ | ⟨hd0,_,_⟩ | ⟨hd0,_,_⟩
      ·obtain ⟨x,c2',fr,hx2,rfl,hbk,hnf,hr,hn,hsz2,hoo,_,hcc⟩:=hw.cells ha hobj; have hw2:=hw.upd hobj rfl hx2 (hr.write (vs:=news) (vs':=news'.toList) hrel (k:=b.off) (by omega)); refine ⟨_,_,?_,.int _ _,hw2⟩; rw [hrun]; simp only [Sem.run_bind]; rw [zB7 (P:=P) (b.off+x.o) news'.toList 0 w c2' hbk hnf (by have:=hrel.1; omega) (hrel.allOne hcond.1)]; simp only [Result.andThen_ok,Sem.run_pure,Nat.add_zero]; rfl
      ·exact (hn0 (by rw [hd0]; simp)).elim
      ·exact (hn0 (by rw [hd0]; simp)).elim
     ·cases h
    ·cases h
 ·cases h
theorem zPa (hw:WRel P w0 ρ W w) {ts:Array TypeId} {t ty:TypeId} {x x' v:Value} (h0:ts[0]?=some t) (h:zAm P t x W=some v) (hx:VRel ρ x x') :
  ∃ v',(Builtin.len_ ts ty #[x']).run P w=.ok v' w∧VRel ρ v v':=by
 unfold zAm at h
 split at h
 ·rename_i s ht
  cases h; cases hx
  exact ⟨_,by simp [Builtin.len_,h0,zAC ht,goInt],.int _ _⟩
 ·rename_i el a0 n c ht
  cases h
  obtain ⟨a',c',rfl,_⟩:=hx.slice_inv; exact ⟨_,by simp [Builtin.len_,h0,zAC ht,goInt],.int _ _⟩
 ·rename_i kt el ht
  cases h; cases hx
  exact ⟨_,by simp [Builtin.len_,h0,zAC ht,goInt],.int _ _⟩
 ·rename_i kt el r ht
  cases hx with
  | map hb =>
   split at h
   ·rename_i es clk hobj
    cases h
    obtain ⟨y,es',hy,rfl,_,hh,hrel⟩:=hw.mapAt hb hobj; have hl:=hrel.length; refine ⟨.int .i64 es'.size,by simp [Builtin.len_,h0,zAC ht,goInt,zAU hh (by simp)],?_⟩; rw [hl]
    simpa using VRel.int .i64 _
   ·cases h
 ·cases h
theorem zPe (hw:WRel P w0 ρ W w) {ts:Array TypeId} {t ty:TypeId} {x x' v:Value} (h0:ts[0]?=some t) (h:zYA P t x W=some v) (hx:VRel ρ x x') :
  ∃ v',(Builtin.cap_ ts ty #[x']).run P w=.ok v' w∧VRel ρ v v':=by
 unfold zYA at h
 split at h
 ·rename_i el n c ht
  cases h
  cases hx
  refine ⟨_,?_,.int _ _⟩; simp [Builtin.cap_,h0,zAC ht,goInt]
 ·rename_i el a n c ht
  split at h
  ·rename_i cc m z e hobj; rw [cond_eq_ite] at h
   split at h
   ·cases h
   ·rename_i hz; simp only [Bool.or_eq_true,Nat.beq_eq,not_or] at hz
    cases h
    cases hx with
    | @slice _ a' _ _ c' ha hc =>
     have:c'=c:=by
      rcases hc with hc | ⟨x,hx,hp,h1,h2,_⟩
      ·exact hc
      ·obtain ⟨_,y,hy,rfl⟩:=ha; rw [hx] at hy; cases hy; obtain ⟨o',ho',hr⟩:=hw.obj hobj (by simp) hx rfl
       cases hr with
       | cells _ _ _ _ hq =>
        obtain ⟨e1,e2⟩:=hq.2 hz.1; have:c*x.sz=c'*x.sz:=by omega
        exact (Nat.eq_of_mul_eq_mul_right hp this).symm
     subst this; refine ⟨_,?_,.int _ _⟩; simp [Builtin.cap_,h0,zAC ht,goInt]
    | slice0=>exact (hz.2 rfl).elim
    | slice00=>exact (hz.2 rfl).elim
  ·cases h
 ·cases h
theorem zKk (hw:WRel P w0 ρ W w) {ts:Array TypeId} {t ty:TypeId} {m m' k k':Value} {W1:CW} (h0:ts[0]?=some t) (h:zIh P t m k W=some W1) (hm:VRel ρ m m') (hk:VRel ρ k k') :
  ∃ w',(Builtin.delete_ ts ty #[m',k']).run P w=.ok (.tuple #[]) w'∧WRel P w0 ρ W1 w':=by
 unfold zIh at h
 split at h
 ·rename_i kt el r ht
  cases hm with
  | @map _ r' hb =>
   split at h
   ·rename_i es clk hobj; obtain ⟨f,hf,h2⟩:=zAO h; clear h; have h:=h2; obtain ⟨y,es',hy,rfl,hy0,hh,hrel⟩:=hw.mapAt hb hobj; obtain ⟨r',hck,hfind,hcase⟩:=zFr hf hk hrel
    rcases hcase with ⟨rfl,rfl⟩ | ⟨j,x1,x1',en,rfl,rfl,hxx,hen,hsame⟩
    ·cases h
     refine ⟨{ w with heap:=w.heap.setIfInBounds y.b (.map es' clk) },?_,hw.upd hobj rfl hy (.map hy0 hrel)⟩; simp [Builtin.delete_,h0,zAC ht,zAU hh (by simp),hck,hfind,zBI hh (by simp)]
    ·cases h
     refine ⟨{ w with heap:=w.heap.setIfInBounds y.b (.map (es'.eraseIdxIfInBounds j) clk) },?_,hw.upd hobj rfl hy (.map hy0 ?_)⟩
     ·simp [Builtin.delete_,h0,zAC ht,zAU hh (by simp),hck,hfind,zBI hh (by simp)]
     ·have:=hrel.dropAt j; have e1:(es'.eraseIdxIfInBounds j).toList=es'.toList.eraseIdx j:=by simp
      rw [e1]; exact this
   ·cases h
 ·cases h
theorem zME (hz:ZP P) (hw:WRel P w0 ρ W w) {ts:Array TypeId} {t ty:TypeId} {x x':Value} {W1:CW} (h0:ts[0]?=some t) (h:zMF P t x W=some W1) (hx:VRel ρ x x') :
  ∃ w',(Builtin.clear_ ts ty #[x']).run P w=.ok (.tuple #[]) w'∧WRel P w0 ρ W1 w':=by
 unfold zMF at h
 split at h
 ·rename_i kt el r ht
  split at h
  ·rename_i es clk hobj
   cases h
   cases hx with
   | @map _ r' hb =>
    obtain ⟨y,es',hy,rfl,hy0,hh,hrel⟩:=hw.mapAt hb hobj; refine ⟨{ w with heap:=w.heap.setIfInBounds y.b (.map #[] clk) },?_,hw.upd hobj rfl hy (.map hy0 trivial)⟩; simp [Builtin.clear_,h0,zAC ht,zAU hh (by simp),zBI hh (by simp)]
  ·cases h
 ·rename_i kt el ht
  cases h; cases hx
  exact ⟨w,by simp [Builtin.clear_,h0,zAC ht],hw⟩
 ·rename_i el a n c ht; obtain ⟨size,hsz,h2⟩:=zAO h; clear h; obtain ⟨z0,hzz,h⟩:=zAO h2; clear h2; obtain ⟨a',c',rfl,hcase⟩:=hx.slice_inv; rw [cond_eq_ite] at h
  split at h
  ·rename_i hn0; have hn0:=Nat.eq_of_beq_eq_true hn0; subst hn0
   cases h
   refine ⟨w,?_,hw⟩
   cases a' <;> simp [Builtin.clear_,h0,zAC ht]
  ·rename_i hn0; have hn0:n≠0:=fun h=>hn0 (by rw [h]; rfl)
   split at h
   ·rename_i cc m zz ee hobj; rw [cond_eq_ite] at h
    split at h
    ·rename_i hcond; simp only [Bool.and_eq_true] at hcond; have hle:=Nat.le_of_ble_eq_true hcond.1
     cases h
     rcases hcase with ⟨h1,_⟩ | ⟨b,b',hb1,rfl,hcase⟩
     ·cases h1
     ·cases hb1
      rcases hcase with ⟨ha,_⟩ | ⟨h1,_⟩ | ⟨h1,_⟩
      ·obtain ⟨x,c2',fr,hx2,rfl,hbk,hnf,hr,hn,hsz2,hoo,_,hcc⟩:=hw.cells ha hobj
       have hzl:LRel ρ (zAh .nil z0.cells (n*z0.cells.size) 0) (Builtin.zeroCells z0.cells n).toList:=by
        refine ⟨by simp [zAV,Builtin.zeroCells],fun i hi=>?_⟩; rw [zAV] at hi; rw [zCP _ _ _ _ _ hi,Nat.zero_add]
        have h1:=zFt (ρ:=ρ) hz hzz (n*z0.cells.size) (by
         rcases Nat.eq_zero_or_pos z0.cells.size with h0 | h0
         ·left; rw [h0]; rfl
         ·exact .inr h0) i hi
        simp only [Builtin.zeroCells]; rw [Array.getD_eq_getD_getElem?,←Array.getElem?_toList] at h1; rw [List.getD_eq_getElem?_getD]; exact h1
       have hall:(Builtin.zeroCells z0.cells n).toList.all zAg=true:=by
        rw [List.all_eq_true]; intro y hy; simp only [Builtin.zeroCells,Array.toList_map,List.mem_map,Array.toList_range,List.mem_range] at hy; obtain ⟨i,hi,rfl⟩:=hy
        have hpos:0<z0.cells.size:=by
         rcases Nat.eq_zero_or_pos z0.cells.size with h0 | h0
         ·rw [h0] at hi; omega
         ·exact h0
        have hlt:i % z0.cells.size<z0.cells.size:=Nat.mod_lt _ hpos; have:=List.all_eq_true.1 hcond.2 (z0.cells[i % z0.cells.size]) (by simp)
        simpa [hlt] using this
       have hw2:=hw.upd hobj rfl hx2 (hr.write (vs:=zAh .nil z0.cells (n*z0.cells.size) 0) hzl (k:=a.off) (by rw [zAV]; omega)); refine ⟨_,?_,hw2⟩; have hst:=zB7 (P:=P) (a.off+x.o) (Builtin.zeroCells z0.cells n).toList 0 w c2' hbk hnf (by simp [Builtin.zeroCells]; omega) hall; obtain ⟨n,rfl⟩:∃ k,n=k+1:=⟨n-1,by omega⟩
       simp only [Builtin.clear_,h0,List.getElem?_toArray,List.getElem?_cons_zero,Sem.run_bind,zAC ht,Result.andThen_ok,zAe hzz,hst,Sem.run_pure,Nat.add_zero]
      ·exact (hn0 h1).elim
      ·exact (hn0 h1).elim
    ·cases h
   ·cases h
 ·rename_i el n c ht
  cases h
  obtain ⟨a',c',rfl,hcase⟩:=hx.slice_inv
  have:a'=none:=by
   rcases hcase with ⟨_,h,_⟩ | ⟨b,b',h,_⟩
   ·exact h
   ·cases h
  subst this; refine ⟨w,?_,hw⟩
  cases n <;> simp [Builtin.clear_,h0,zAC ht]
 ·cases h
theorem zTL {t:TypeId} {d s v:Value} {W1:CW} (h:zRh P t d s W=some (v,W1)):W.sz≤W1.sz:=by
 unfold zRh at h
 split at h
 ·obtain ⟨_,_,h⟩:=zAO h; obtain ⟨_,_,h⟩:=zAO h
  repeat' (first | (cases h; done) | (cases h; exact Nat.le_refl _) | (rw [cond_eq_ite] at h) | split at h)
 ·cases h
theorem zPd {t:TypeId} {d s:Value} {W1:CW} (h:zIh P t d s W=some W1):W.sz≤W1.sz:=by
 unfold zIh at h
 split at h
 ·split at h
  ·obtain ⟨_,_,h⟩:=zAO h
   repeat' (first | (cases h; done) | (cases h; exact Nat.le_refl _) | (rw [cond_eq_ite] at h) | split at h)
  ·cases h
 ·cases h
theorem zRi {t:TypeId} {d:Value} {W1:CW} (h:zMF P t d W=some W1):W.sz≤W1.sz:=by
 unfold zMF at h
 split at h
 ·repeat' (first | (cases h; done) | (cases h; exact Nat.le_refl _) | (rw [cond_eq_ite] at h) | split at h)
 ·cases h; exact Nat.le_refl _
 ·obtain ⟨_,_,h⟩:=zAO h; obtain ⟨_,_,h⟩:=zAO h
  repeat' (first | (cases h; done) | (cases h; exact Nat.le_refl _) | (rw [cond_eq_ite] at h) | split at h)
 ·cases h; exact Nat.le_refl _
 ·cases h
theorem zLu {c:Call} {b:Builtin} (ho:o.op=.call c) (hf:c.callee=.builtin b) (w:World) :
  (execOp e' o).run P w=(builtin b c.argTypes o.type (c.args.map fun | .const _=>true | _=>false) (c.args.map e')).run P w:=by
 simp only [execOp,ho,resolve,hf,Sem.run_bind,Sem.run_pure,Result.andThen_ok,invoke]; rfl
theorem zPB {α:Type} {a:Array α} {x:α} {l:List α} (h:a.toList=x::l):a[0]?=some x:=by rw [←Array.getElem?_toList,h]; rfl
theorem zW3 {α:Type} {a:Array α} {x y:α} {l:List α} (h:a.toList=x::y::l):a[1]?=some y:=by rw [←Array.getElem?_toList,h]; rfl
theorem zTc {α:Type} {a:Array α} {l:List α} (h:a.toList=l):a=l.toArray:=by rw [←h]
theorem zO9 (hz:ZP P) {c:Call} {b:Builtin} (ho:o.op=.call c) (hf:c.callee=.builtin b) (h:cop P o e W=some outs) (hw:WRel P w0 ρ W w)
  (ha:∀ x,x ∈ c.args.toList→VRel ρ (e x) (e' x)):OpSound P w0 ρ W ((execOp e' o).run P w) outs:=by
 rw [zLu ho hf]; simp only [cop,ho,hf] at h; split at h
 rotate_left
 ·cases h
 rename_i r hr
 cases h
 generalize hB:c.args.map e'=B; have hargs:LRel ρ (c.args.toList.map e) B.toList:=by rw [←hB]; simpa using LRel.map (ρ:=ρ) c.args.toList e e' ha
 clear hB; generalize c.args.toList.map e=A at hr hargs; unfold zEH at hr
 have one:∀ {x:Value},LRel ρ [x] B.toList→∃ x',B=#[x']∧VRel ρ x x':=by
  intro x hl
  cases hB:B.toList with
  | nil=>rw [hB] at hl; have:=hl.1; simp at this
  | cons y ys =>
   rw [hB] at hl; have:ys=[]:=by have:=hl.1; simp at this; first | exact this | exact this.symm | exact List.length_eq_zero_iff.1 this.symm
   subst this; exact ⟨y,zTc hB,hl.head⟩
 have two:∀ {x y:Value},LRel ρ [x,y] B.toList→∃ x' y',B=#[x',y']∧VRel ρ x x'∧VRel ρ y y':=by
  intro x y hl
  cases hB:B.toList with
  | nil=>rw [hB] at hl; have:=hl.1; simp at this
  | cons x' ys =>
   rw [hB] at hl; have h1:=hl.head; have hl:=hl.tail
   cases ys with
   | nil=>have:=hl.1; simp at this
   | cons y' ys =>
    have:ys=[]:=by have:=hl.1; simp at this; first | exact this | exact this.symm | exact List.length_eq_zero_iff.1 this.symm
    subst this; exact ⟨x',y',zTc hB,h1,hl.head⟩
 split at hr
 ·rename_i t ts x hts; obtain ⟨x',rfl,hx⟩:=one hargs; rw [Option.map_eq_some_iff] at hr; obtain ⟨v,hv,rfl⟩:=hr; obtain ⟨v',hr',hv'⟩:=zPa (ty:=o.type) hw (zPB hts) hv hx; exact .value hw (zAf hr') hv'
 ·rename_i t ts x hts; obtain ⟨x',rfl,hx⟩:=one hargs; rw [Option.map_eq_some_iff] at hr; obtain ⟨v,hv,rfl⟩:=hr; obtain ⟨v',hr',hv'⟩:=zPe (ty:=o.type) hw (zPB hts) hv hx; exact .value hw (zAf hr') hv'
 ·rename_i t u ts s x hts; obtain ⟨s',x',rfl,hs,hx⟩:=two hargs; rw [cond_eq_ite] at hr
  split at hr
  ·rename_i hu; rw [Option.map_eq_some_iff] at hr; obtain ⟨⟨v,W1⟩,hv,rfl⟩:=hr; obtain ⟨v',w',ρ',hext,hr',hv',hw'⟩:=zKm (ty:=o.type) hw (zPB hts) (zW3 hts) hu hv hs hx; exact ⟨_,_,ρ',List.mem_singleton.2 rfl,hext,.value (zAf hr') hv' hw'⟩
  ·cases hr
 ·rename_i t ts d s hts; obtain ⟨d',s',rfl,hd,hs⟩:=two hargs; rw [Option.map_eq_some_iff] at hr; obtain ⟨⟨v,W1⟩,hv,rfl⟩:=hr; obtain ⟨v',w',hr',hv',hw'⟩:=zNa (ty:=o.type) hw (zPB hts) hv hd hs; exact ⟨_,_,ρ,List.mem_singleton.2 rfl,.refl _ (zTL hv),.value (zAf hr') hv' hw'⟩
 ·rename_i t ts x hts; obtain ⟨x',rfl,hx⟩:=one hargs; rw [Option.map_eq_some_iff] at hr; obtain ⟨W1,hv,rfl⟩:=hr; obtain ⟨w',hr',hw'⟩:=zME (ty:=o.type) hz hw (zPB hts) hv hx; exact ⟨_,_,ρ,List.mem_singleton.2 rfl,.refl _ (zRi hv),.value (zAf hr') (.tuple' (.nil _)) hw'⟩
 ·rename_i t ts m k hts; obtain ⟨m',k',rfl,hm,hk⟩:=two hargs; rw [Option.map_eq_some_iff] at hr; obtain ⟨W1,hv,rfl⟩:=hr; obtain ⟨w',hr',hw'⟩:=zKk (ty:=o.type) hw (zPB hts) hv hm hk; exact ⟨_,_,ρ,List.mem_singleton.2 rfl,.refl _ (zPd hv),.value (zAf hr') (.tuple' (.nil _)) hw'⟩
 ·rename_i k a k2 b2; obtain ⟨x',y',rfl,hx,hy⟩:=two hargs
  cases hx; cases hy; cases hr
  refine .value hw (zAf (s:=Builtin.max_ c.argTypes o.type #[.int k a,.int k2 b2]) (by simp [Builtin.max_,Builtin.max2]; rfl)) ?_; simp only [cond_eq_ite,decide_eq_true_eq]; exact .int _ _
 ·rename_i k a k2 b2; obtain ⟨x',y',rfl,hx,hy⟩:=two hargs
  cases hx; cases hy; cases hr
  refine .value hw (zAf (s:=Builtin.min_ c.argTypes o.type #[.int k a,.int k2 b2]) (by simp [Builtin.min_,Builtin.min2]; rfl)) ?_; simp only [cond_eq_ite,decide_eq_true_eq]; exact .int _ _
 ·cases hr
  exact ⟨_,_,ρ,List.mem_singleton.2 rfl,.refl _,.recover rfl hw⟩
 ·cases hr
theorem zHa (hz:ZP P) (hok:zQY o=true) (hge:∀ g,e (.global g)=.complex .f32 0 0) (he:∀ x,x ∈ o.op.operands→zAQ x=true→VRel ρ (e x) (e' x)) (hw:WRel P w0 ρ W w) (h:cop P o e W=some outs):OpSound P w0 ρ W ((execOp e' o).run P w) outs:=by
 have al:∀ l:List Operand,(∀ x,x ∈ l→x ∈ o.op.operands)→l.all zAQ=true→∀ x,x ∈ l→VRel ρ (e x) (e' x):=fun l hm hl x hx=>he x (hm x hx) (List.all_eq_true.1 hl x hx); have al2:∀ l:List (Nat × Operand),(∀ x,x ∈ l→x.2 ∈ o.op.operands)→(l.all fun p=>zAQ p.2)=true→∀ p,p ∈ l→VRel ρ (e p.2) (e' p.2):=fun l hm hl x hx=>he x.2 (hm x hx) (List.all_eq_true.1 hl x hx); have op:∀ m:Option Operand,(∀ x,m=some x→x ∈ o.op.operands)→m.all zAQ=true→∀ x,m=some x→VRel ρ (e x) (e' x):=fun m hm2 hm x hx=>he x (hm2 x hx) (by subst hx; simpa using hm); unfold zQY at hok; split at hok <;> (try simp only [Bool.and_eq_true] at hok)
 case h_1 ho=>exact zQW (.inl ho) h hw (he _ (by rw [ho]; simp [Op.operands]) hok)
 case h_2 ho=>exact zQW (.inr ho) h hw (he _ (by rw [ho]; simp [Op.operands]) hok)
 case h_3 ho=>exact zMt ho h hw (he _ (by rw [ho]; simp [Op.operands]) hok)
 case h_4 ho=>exact zUM ho h hw (he _ (by rw [ho]; simp [Op.operands]) hok)
 case h_5 ho=>exact zO8 ho h hw (he _ (by rw [ho]; simp [Op.operands]) hok)
 case h_6 ho=>exact zHX ho h hw (he _ (by rw [ho]; simp [Op.operands]) hok)
 case h_7 ho=>exact zSd ho h hw (he _ (by rw [ho]; simp [Op.operands]) hok)
 case h_8 ho=>exact zLR ho h hw (he _ (by rw [ho]; simp [Op.operands]) hok)
 case h_9 ho=>exact zSa ho h hw (he _ (by rw [ho]; simp [Op.operands]) hok)
 case h_10 ho=>exact zUO ho h hw (he _ (by rw [ho]; simp [Op.operands]) hok)
 case h_11 ho=>exact zSe ho h hw (he _ (by rw [ho]; simp [Op.operands]) hok)
 case h_12 ho=>exact zKA hz ho h hw (he _ (by rw [ho]; simp [Op.operands]) hok)
 case h_13 ho=>exact zO7 ho h hw (he _ (by rw [ho]; simp [Op.operands]) hok)
 case h_14 ho=>exact zSb ho h hw (he _ (by rw [ho]; simp [Op.operands]) hok)
 case h_15 ho=>exact zU9 ho h hw (he _ (by rw [ho]; simp [Op.operands]) hok)
 case h_16 t x ho =>
  rw [Bool.or_eq_true] at hok
  rcases hok with hok | hok
  ·exact zUP ho h hw (he _ (by rw [ho]; simp [Op.operands]) hok)
  ·split at hok
   ·simp only [cop,ho,hge] at h
    cases h
   ·cases hok
 case h_17 ho=>exact zUN ho h hw (he _ (by rw [ho]; simp [Op.operands]) hok.1.1) (he _ (by rw [ho]; simp [Op.operands]) hok.1.2) (he _ (by rw [ho]; simp [Op.operands]) hok.2)
 case h_18 ho=>exact zSi hz ho h hw
 case h_19 ho=>exact zO6 ho h hw
 case h_20 ho=>exact zSg hz ho h hw (al2 _ (fun x hx=>by rw [ho]; simp [Op.operands]; exact ⟨x.1,by simpa using hx⟩) hok)
 case h_21 ho=>exact zKB hz ho h hw (al2 _ (fun x hx=>by rw [ho]; simp [Op.operands]; exact ⟨x.1,by simpa using hx⟩) hok)
 case h_22 ho=>exact zSY ho h hw (he _ (by rw [ho]; simp [Op.operands]) hok.1) (he _ (by rw [ho]; simp [Op.operands]) hok.2)
 case h_23 ho=>exact zSh ho h hw (he _ (by rw [ho]; simp [Op.operands]) hok.1) (he _ (by rw [ho]; simp [Op.operands]) hok.2)
 case h_24 ho=>exact zLP hz ho h hw (he _ (by rw [ho]; simp [Op.operands]) hok.1) (he _ (by rw [ho]; simp [Op.operands]) hok.2)
 case h_25 ho=>exact zLQ ho h hw (he _ (by rw [ho]; simp [Op.operands]) hok.1) (he _ (by rw [ho]; simp [Op.operands]) hok.2)
 case h_26 ho=>exact zSc ho h hw (he _ (by rw [ho]; simp [Op.operands]) hok.1) (he _ (by rw [ho]; simp [Op.operands]) hok.2)
 case h_27 ho=>exact zQX hz ho h hw (he _ (by rw [ho]; simp [Op.operands]) hok.1) (he _ (by rw [ho]; simp [Op.operands]) hok.2)
 case h_28 ho=>exact zMu ho h hw (al _ (fun x hx=>by rw [ho]; simp [Op.operands]; first | exact .inl hx | exact .inr hx | exact .inl (by simpa using hx) | exact .inr (by simpa using hx)) hok.1) (al _ (fun x hx=>by rw [ho]; simp [Op.operands]; first | exact .inl hx | exact .inr hx | exact .inl (by simpa using hx) | exact .inr (by simpa using hx)) hok.2)
 case h_29 ho=>exact zSZ ho h hw (he _ (by rw [ho]; simp [Op.operands]) hok.1.1.1) (op _ (fun x hx=>by rw [ho]; simp [Op.operands,hx]) hok.1.1.2) (op _ (fun x hx=>by rw [ho]; simp [Op.operands,hx]) hok.1.2) (op _ (fun x hx=>by rw [ho]; simp [Op.operands,hx]) hok.2)
 case h_30 ho=>exact zHE (.inl ho) h hw (he _ (by rw [ho]; simp [Op.operands]) hok.1.1) (he _ (by rw [ho]; simp [Op.operands]) hok.1.2) (he _ (by rw [ho]; simp [Op.operands]) hok.2)
 case h_31 ho=>exact zHE (.inr ho) h hw (he _ (by rw [ho]; simp [Op.operands]) hok.1.1) (he _ (by rw [ho]; simp [Op.operands]) hok.1.2) (he _ (by rw [ho]; simp [Op.operands]) hok.2)
 case h_32 c ho =>
  obtain ⟨h1,h2⟩:=hok
  split at h2
  ·rename_i f hf; exact zLS hz ho hf h hw (he _ (by rw [ho]; simp [Op.operands,Call.operands,hf]) h2) (al _ (fun x hx=>by rw [ho]; simp [Op.operands,Call.operands,hf]; exact .inr (by simpa using hx)) h1)
  ·rename_i b hf; exact zO9 hz ho hf h hw (al _ (fun x hx=>by rw [ho]; simp [Op.operands,Call.operands,hf]; simpa using hx) h1)
  ·cases h2
 case h_33 c ho =>
  obtain ⟨h1,h2⟩:=hok
  split at h2
  ·rename_i f hf; exact zSf ho hf h hw (he _ (by rw [ho]; simp [Op.operands,Call.operands,hf]) h2) (al _ (fun x hx=>by rw [ho]; simp [Op.operands,Call.operands,hf]; exact .inr (by simpa using hx)) h1)
  ·cases h2
 case h_34=>cases hok
end
end Go.Ce
