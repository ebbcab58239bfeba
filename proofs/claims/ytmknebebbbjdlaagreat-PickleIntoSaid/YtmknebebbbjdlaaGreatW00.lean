/- A part of the proof: Ca, Cb, Cc, Cd, Ce, Cf, Cg, Ch, Ci, Cj, Ck, Cl, Cm, Cn. -/
import Derived.OrdersIn
import Derived.RangeFuncIn
import Derived.DefersIn
import Derived.RecoverIn
import Derived.KernelRfl
import Derived.Below
import Derived.Laws.StructEq
import Derived.Laws.Concat
import Derived.MapKept
import Derived.Laws.BytesArg
import Derived.Laws.IdiomStrings
set_option linter.unusedSectionVars false
set_option linter.unusedVariables false
set_option linter.unusedSimpArgs false
set_option maxRecDepth 200000
namespace Go.Ce
inductive Tr (α:Type) where
 | nil
 | node (l:Tr α) (v:Option α) (r:Tr α)
def Tr.get {α:Type}:Tr α→Nat→Option α
 | .nil,_=>none
 | .node l v r,i=>cond (Nat.beq i 0) v (cond (Nat.beq (i % 2) 1) (l.get (i / 2)) (r.get (i / 2-1)))
def Tr.Xq {α:Type}:Nat→Tr α→Nat→α→Tr α
 | 0,t,_,_=>t
 | f+1,.nil,i,x=>cond (Nat.beq i 0) (.node .nil (some x) .nil) (cond (Nat.beq (i % 2) 1) (.node (Tr.Xq f .nil (i / 2) x) none .nil) (.node .nil none (Tr.Xq f .nil (i / 2-1) x)))
 | f+1,.node l v r,i,x=>cond (Nat.beq i 0) (.node l (some x) r) (cond (Nat.beq (i % 2) 1) (.node (Tr.Xq f l (i / 2) x) v r) (.node l v (Tr.Xq f r (i / 2-1) x)))
def Tr.set {α:Type} (t:Tr α) (i:Nat) (x:α):Tr α:=Tr.Xq (i+1) t i x
def Tr.AZ {α:Type} (t:Tr α) (k:Nat):List α→Tr α
 | []=>t
 | x::xs=>(t.set k x).AZ (k+1) xs
inductive As where
 | cells (c:Tr Value) (n:Nat) (z:Array Value) (elem:TypeId)
 | map (es:List MapEntry) (clock:Nat)
 | iter (m:Option Nat) (since:Nat) (seen:List Nat) (last:Nat)
 | loop (state:LoopState) (pending:Option Code) (fn:FuncId) (tmps:Tr Value) (nt:Nat) (params:Array Tmp) (assign body:Code) (defers:Nat)
 | deferred
 | dead
 | fixed (f:Nat→Value) (n:Nat) (elem:TypeId)
def As.mut:As→Bool
 | .dead=>false
 | .fixed _ _ _=>false
 | _=>true
structure CW where
 h:Tr As
 sz:Nat
structure AI where
 t:Tr Value
 nt:Nat
 defers:List Deferred
inductive BM where
 | value (v:Value)
 | skip
 | enter (f:FuncId) (args:List Value)
 | round (l:Nat) (args:List Value)
 | defer (d:Deferred)
 | recover
 | panic (v:Value)
def AI.eval (a:AI):Operand→Value
 | .tmp t=>match a.t.get t with | some v=>v | none=>undef
 | .const v=>v
 | .global _=>.complex .f32 0 0
 | .func f=>.func (.func f) #[] #[]
def AI.put (a:AI) (d:Option Tmp) (v:Value):AI :=
 match d with
 | some d=>{ a with t:=a.t.set d v }
 | none=>a
def CW.new (W:CW) (o:As):CW:=⟨W.h.set W.sz o,W.sz+1⟩
def CW.obj (W:CW) (i:Nat):Option As:=W.h.get i
def CW.A4 (W:CW) (i:Nat) (o:As):CW:=⟨W.h.set i o,W.sz⟩
def cellAt (c:Tr Value) (z:Array Value) (k:Nat):Value :=
 match c.get k with
 | some v=>v
 | none=>z.getD (k % z.size) undef
def BJ (c:Tr Value) (z:Array Value):Nat→Nat→List Value
 | 0,_=>[]
 | m+1,k=>cellAt c z k::BJ c z m (k+1)
def UG:List UInt8→List UInt8→Bool
 | [],[]=>true
 | a::x,b::y=>Nat.beq a.toNat b.toNat && UG x y
 | _,_=>false
def Q5:List UInt8→List UInt8→Bool
 | _,[]=>false
 | [],_::_=>true
 | a::x,b::y=>Nat.blt a.toNat b.toNat || (Nat.beq a.toNat b.toNat && Q5 x y)
def sb (s:ByteArray):List UInt8:=s.data.toList
def r6 (op:BinOp) (a b:ByteArray):Option Value :=
 match op with
 | .add=>cond (Nat.ble (a.size+b.size) 9223372036854775807) (some (.string ⟨(sb a++sb b).toArray⟩)) none
 | .eql=>some (.bool (UG (sb a) (sb b)))
 | .neq=>some (.bool (!UG (sb a) (sb b)))
 | .lss=>some (.bool (Q5 (sb a) (sb b)))
 | .leq=>some (.bool (Q5 (sb a) (sb b) || UG (sb a) (sb b)))
 | .gtr=>some (.bool (!(Q5 (sb a) (sb b) || UG (sb a) (sb b))))
 | .geq=>some (.bool (!Q5 (sb a) (sb b)))
 | _=>none
def DL (l:List UInt8):List Value:=l.map fun b=>.int .u8 b.toNat
def HT:List Value→Option (List UInt8)
 | []=>some []
 | .int .u8 n::l=>match HT l with
  | some m=>some (UInt8.ofNat n.toNat::m)
  | none=>none
 | _::_=>none
def MK (d:TypeDesc) (k v:Value):Option Bool :=
 match d,k,v with
 | .string,.string a,.string b=>some (UG (sb a) (sb b))
 | d,k,v=>Instr.sameNow d k v
def Iy (d:TypeDesc) (k:Value):List MapEntry→Nat→Option (Option (Nat × Value))
 | [],_=>some none
 | e::es,i=>match MK d k e.key with
  | some true=>some (some (i,e.val))
  | some false=>Iy d k es (i+1)
  | none=>none
def Dw (f:Nat→Value):Nat→Nat→List Value
 | 0,_=>[]
 | m+1,k=>f k::Dw f m (k+1)
section
variable (P:Program)
def DC (t:TypeId):Option Nat:=(P.info? t).map (·.size)
def GP (t:TypeId):Option Value:=cond (Nat.blt t P.types.size) ((P.info? t).bind (·.zero)) none
def agg? (t:TypeId):Option Bool:=(P.underlying t).map fun d=>match d with | .struct _ | .array _ _=>true | _=>false
def CH {α β:Type} (o:Option α) (f:α→Option β):Option β:=match o with | some a=>f a | none=>none
def IC (t:TypeId) (a:Addr) (W:CW):Option Value :=
 match W.obj a.block with
 | some (.cells c n z _) =>
  match agg? P t with
  | some true=>match DC P t with
   | some m=>cond (Nat.ble (a.off+m) n) (some (.agg (BJ c z m a.off).toArray)) none
   | none=>none
  | some false=>cond (Nat.blt a.off n) (some (cellAt c z a.off)) none
  | none=>none
 | some (.fixed f n _) =>
  match agg? P t with
  | some true=>match DC P t with
   | some m=>cond (Nat.ble (a.off+m) n) (some (.agg (Dw f m a.off).toArray)) none
   | none=>none
  | some false=>cond (Nat.blt a.off n) (some (f a.off)) none
  | none=>none
 | _=>none
def BB:Value→Bool
 | .agg _ | .tuple _=>false
 | _=>true
def Ic (t:TypeId) (a:Addr) (v:Value) (W:CW):Option CW :=
 match W.obj a.block with
 | some (.cells c n z e) =>
  match v with
  | .agg cs=>match DC P t with
   | some m=>cond (Nat.beq cs.size m && Nat.ble (a.off+m) n && cs.toList.all BB) (some (W.A4 a.block (.cells (c.AZ a.off cs.toList) n z e))) none
   | none=>none
  | .tuple _=>none
  | v=>match DC P t with
   | some m=>cond (Nat.beq m 1 && Nat.blt a.off n) (some (W.A4 a.block (.cells (c.set a.off v) n z e))) none
   | none=>none
 | _=>none
def Q6 (t:TypeId) (v:Value) (W:CW):Value × CW :=
 (.pointer (some ⟨W.sz,0,none⟩),W.new (.cells (Tr.nil.AZ 0 v.cells.toList) v.cells.size #[] t))
def OS (op:BinOp) (k:IntKind) (a b:Int):Option Value :=
 match op with
 | .add=>some (.int k (k.wrap (a+b)))
 | .sub=>some (.int k (k.wrap (a-b)))
 | .mul=>some (.int k (k.wrap (a*b)))
 | .quo=>cond (b == 0) none (some (.int k (k.wrap (a.tdiv b))))
 | .rem=>cond (b == 0) none (some (.int k (a.tmod b)))
 | .eql=>some (.bool (a == b))
 | .neq=>some (.bool (a != b))
 | .lss=>some (.bool (a<b))
 | .leq=>some (.bool (a≤b))
 | .gtr=>some (.bool (a>b))
 | .geq=>some (.bool (a≥b))
 | .and=>some (.int k (k.wrap ((BitVec.ofInt k.bits a &&& BitVec.ofInt k.bits b).toNat)))
 | .or=>some (.int k (k.wrap ((BitVec.ofInt k.bits a ||| BitVec.ofInt k.bits b).toNat)))
 | .xor=>some (.int k (k.wrap ((BitVec.ofInt k.bits a ^^^ BitVec.ofInt k.bits b).toNat)))
 | .andNot=>some (.int k (k.wrap ((BitVec.ofInt k.bits a &&& ~~~(BitVec.ofInt k.bits b)).toNat)))
 | _=>none
def n8 (d:TypeDesc) (x y:Value):Option Bool :=
 match d,x,y with
 | .bool,.bool a,.bool b=>some (a == b)
 | .pointer _,.pointer none,.pointer b=>some b.isNone
 | .pointer _,.pointer (some _),.pointer none=>some false
 | .interface _,.nilIface,.iface _ _=>some false
 | .interface _,.iface _ _,.nilIface=>some false
 | .slice _,.slice none _ _,.slice b _ _=>some b.isNone
 | .slice _,.slice (some _) _ _,.slice none _ _=>some false
 | .map _ _,.map none,.map b=>some b.isNone
 | .map _ _,.map (some _),.map none=>some false
 | .func _ _ _,.nilFunc,.nilFunc=>some true
 | .func _ _ _,.nilFunc,.func _ _ _=>some false
 | .func _ _ _,.func _ _ _,.nilFunc=>some false
 | _,_,_=>none
def PS (t:TypeId) (cs:Array Value) (off:Nat):Option Value :=
 match agg? P t,DC P t with
 | some true,some m=>some (.agg (cs.extract off (off+m)))
 | some false,_=>cs[off]?
 | _,_=>none
def Xr (eq:TypeId→Value→Value→Option Bool) (xs ys:Array Value):List Field→Option Bool
 | []=>some true
 | f::fs=>cond (f.name == "_") (Xr eq xs ys fs) (match PS P f.type xs f.offset,PS P f.type ys f.offset with
  | some u,some v=>match eq f.type u v with
   | some true=>Xr eq xs ys fs
   | some false=>some false
   | none=>none
  | _,_=>none)
def de (eq:Value→Value→Option Bool) (elem:TypeId) (n:Nat) (xs ys:Array Value):Nat→Nat→Option Bool
 | 0,_=>some true
 | m+1,i=>match PS P elem xs (i*n),PS P elem ys (i*n) with
  | some u,some v=>match eq u v with
   | some true=>de eq elem n xs ys m (i+1)
   | some false=>some false
   | none=>none
  | _,_=>none
def Xs:Nat→TypeId→Value→Value→Option Bool
 | 0,_,_,_=>none
 | n+1,t,x,y=>match P.underlying t with
  | none=>none
  | some d=>match d,x,y with
   | .struct fs,.agg xs,.agg ys=>cond (P.stoodInHeld t) none (Xr P (Xs n) xs ys fs.toList)
   | .array len elem,.agg xs,.agg ys=>match DC P elem with
    | some s=>de P (Xs n elem) elem s xs ys len 0
    | none=>none
   | .int _,.int k a,.int k' b=>cond (decide (k=k')) (some (a == b)) none
   | .string,.string a,.string b=>some (UG (sb a) (sb b))
   | d,x,y=>n8 d x y
def isConst:Operand→Bool
 | .const _=>true
 | _=>false
def AQ (op:BinOp) (t:TypeId) (k:Bool) (x y:Value):Option Value :=
 match op,x,y with
 | .shl,.int k a,.int _ b=>cond (decide (b<0)) none (some (.int k (k.wrap (a*2 ^ (min b.toNat k.bits)))))
 | .shr,.int k a,.int _ b=>cond (decide (b<0)) none (some (.int k (a.fdiv (2 ^ (min b.toNat k.bits)))))
 | op,.int k a,.int k' b=>cond (decide (k=k')) (OS op k a b) none
 | op,.string a,.string b=>r6 op a b
 | .eql,.agg xs,.agg ys=>cond (P.eqGuardType P.depth t) none ((Xs P 20 t (.agg xs) (.agg ys)).map .bool)
 | .neq,.agg xs,.agg ys=>cond (P.eqGuardType P.depth t) none ((Xs P 20 t (.agg xs) (.agg ys)).map fun b=>.bool (!b))
 | .eql,.nilIface,.nilIface=>match P.underlying t with | some (.interface _)=>cond k (some (.bool true)) none | _=>none
 | .neq,.nilIface,.nilIface=>match P.underlying t with | some (.interface _)=>cond k (some (.bool false)) none | _=>none
 | .eql,x,y=>match P.underlying t with | some d=>(n8 d x y).map .bool | none=>none
 | .neq,x,y=>match P.underlying t with | some d=>(n8 d x y).map fun b=>.bool (!b) | none=>none
 | _,_,_=>none
def bound (x:Option Value) (ABP y:Nat):Option Nat :=
 match x with
 | some (.int _ i)=>cond (decide (0≤i) && decide (i≤y)) (some i.toNat) none
 | some _=>none
 | none=>some ABP
def Mk (W:CW) (a:Option Addr) (elem:TypeId):Bool :=
 match a with
 | none=>true
 | some a=>a.spot.isSome || match W.obj a.block with
  | some (.cells _ _ _ e)=>Nat.beq e elem
  | some (.fixed _ _ e)=>Nat.beq e elem
  | _=>false
def Ml (W:CW) (t:TypeId) (x:Value) (lo hi mx:Option Value):Option Value :=
 match P.underlying t,x with
 | some (.slice elem),.slice a len cap=>CH (bound mx cap cap) fun m=>CH (bound hi len m) fun h=>CH (bound lo 0 h) fun l =>
   cond (mx.isSome && hi.isNone || !Nat.ble h m || !(mx.isSome || Mk W a elem)) none (CH (DC P elem) fun s =>
   some (.slice (cond (Nat.beq m l) a (a.map fun a=>⟨a.block,a.off+l*s,none⟩)) (h-l) (m-l)))
 | some (.array n elem),.pointer (some a)=>CH (bound mx n n) fun m=>CH (bound hi n m) fun h=>CH (bound lo 0 h) fun l =>
   cond (mx.isSome && hi.isNone || !Nat.ble h m) none (CH (DC P elem) fun s =>
   some (.slice (some (cond (Nat.beq m l) a ⟨a.block,a.off+l*s,none⟩)) (h-l) (m-l)))
 | _,_=>none
def HU:TypeDesc→Bool
 | .int _ | .string | .bool=>true
 | _=>false
def ID (v k:Value):Nat→List MapEntry→List MapEntry
 | _,[]=>[]
 | 0,e::es=>{ e with key:=k,val:=v }::es
 | i+1,e::es=>e::ID v k i es
def Ja:Nat→List MapEntry→List MapEntry
 | _,[]=>[]
 | 0,_::es=>es
 | i+1,e::es=>e::Ja i es
def Mm:Value→Value→Bool
 | .int j a,.int k b=>decide (j=k) && decide (a=b)
 | .string a,.string b=>UG (sb a) (sb b)
 | .bool a,.bool b=>a == b
 | _,_=>false
def NH:List Value→List Value→Bool
 | [],[]=>true
 | x::xs,y::ys=>Mm x y && NH xs ys
 | _,_=>false
def Vq:Value→Value→Bool
 | .agg xs,.agg ys=>NH xs.toList ys.toList
 | _,_=>false
def df (t:TypeId) (k:Value):Bool :=
 match P.underlying t,k with
 | some (.struct fs),.agg cs=>!(P.stoodInHeld t) && fs.toList.all fun f=>!(f.name == "_") && (match P.underlying f.type with | some d=>HU d | none=>false) && (PS P f.type cs f.offset).isSome
 | _,_=>false
def Xt (t:TypeId) (k:Value):List MapEntry→Nat→Option (Option (Nat × Value))
 | [],_=>some none
 | e::es,i=>match Xs P 20 t k e.key with
  | some true=>cond (Vq k e.key) (some (some (i,e.val))) none
  | some false=>Xt t k es (i+1)
  | none=>none
def ML (t:TypeId) (k:Value) (es:List MapEntry):Option (Option (Nat × Value)) :=
 match P.underlying t with
 | some d=>cond (HU d) (Iy d k es 0) (cond (df P t k) (Xt P t k es 0) none)
 | none=>none
def FA (b:Option Addr) (m:Nat) (W:CW):Option (List Value) :=
 match b with
 | none=>some []
 | some b=>cond (Nat.beq m 0) (some []) <| match W.obj b.block with
  | some (.cells c k z _)=>cond (Nat.ble (b.off+m) k) (some (BJ c z m b.off)) none
  | some (.fixed f k _)=>cond (Nat.ble (b.off+m) k) (some (Dw f m b.off)) none
  | _=>none
def aJ (x:Value):Option Nat :=
 match x with
 | .slice _ n _=>some n
 | .string s=>some s.size
 | _=>none
def Gl (x:Value) (n size:Nat) (W:CW):Option (List Value) :=
 match x with
 | .slice xb _ _=>FA xb (n*size) W
 | .string s=>cond (Nat.beq size 1) (some (DL ((sb s).take n))) none
 | _=>none
def F4 (t:TypeId) (s x:Value) (W:CW):Option (Value × CW) :=
 match P.underlying t,s,aJ x with
 | some (.slice elem),.slice base sLen sCap,some n =>
  CH (DC P elem) fun size=>CH (GP P elem) fun z=>CH (Gl x n size W) fun news =>
  cond (news.all BB && Nat.beq news.length (n*size) && Nat.blt 0 size && Nat.beq z.cells.size size && Nat.ble (sLen+n) 1000000 && Nat.ble ((P.info? elem).map (·.bytes) |>.getD 2000) 1024)
   (cond (Nat.ble (sLen+n) sCap)
    (cond (Nat.beq n 0) (some (.slice base (sLen+n) sCap,W)) (match base with
     | none=>some (.slice none (sLen+n) sCap,W)
     | some a=>match W.obj a.block with
      | some (.cells c m z e)=>cond (Nat.ble (a.off+sLen*size+n*size) m)
        (some (.slice (some a) (sLen+n) sCap,W.A4 a.block (.cells (c.AZ (a.off+sLen*size) news) m z e))) none
      | _=>none))
    (match base with
     | none=>cond (Nat.beq sLen 0) (some (.slice (some ⟨W.sz,0,none⟩) (sLen+n) (sLen+n),W.new (.cells (Tr.nil.AZ 0 news) ((sLen+n)*size) #[] elem))) none
     | some a=>cond a.spot.isSome (cond (Nat.beq sLen 0 && Nat.beq sCap 0) (some (.slice (some ⟨W.sz,0,none⟩) (sLen+n) (sLen+n),W.new (.cells (Tr.nil.AZ 0 news) ((sLen+n)*size) #[] elem))) none) (match W.obj a.block with
      | some (.cells c m z e)=>cond (Nat.ble (a.off+sLen*size) m && Nat.beq e elem)
        (some (.slice (some ⟨W.sz,0,none⟩) (sLen+n) (sLen+n),(W.A4 a.block .dead).new (.cells (Tr.nil.AZ 0 (BJ c z (sLen*size) a.off++news)) ((sLen+n)*size) #[] elem))) none
      | _=>none)))
   none
 | _,_,_=>none
def Xu (t:TypeId) (d s:Value) (W:CW):Option (Value × CW) :=
 match P.underlying t,d,aJ s with
 | some (.slice elem),.slice base Xv _,some sLen =>
  CH (DC P elem) fun size=>CH (Gl s (Nat.min sLen Xv) size W) fun news =>
  cond (Nat.beq (Nat.min sLen Xv) 0) (some (.int .i64 (Nat.min sLen Xv),W)) (match base with
  | none=>none
  | some a=>match W.obj a.block with
   | some (.cells c m z e)=>cond (news.all BB && Nat.ble (a.off+news.length) m) (some (.int .i64 (Nat.min sLen Xv),W.A4 a.block (.cells (c.AZ a.off news) m z e))) none
   | _=>none)
 | _,_,_=>none
def Rv (t:TypeId) (x:Value) (W:CW):Option CW :=
 match P.underlying t,x with
 | some (.map _ _),.map (some r)=>match W.obj r with
  | some (.map _ Dq)=>some (W.A4 r (.map [] Dq))
  | _=>none
 | some (.map _ _),.map none=>some W
 | some (.slice elem),.slice (some a) n _=>CH (DC P elem) fun size=>CH (GP P elem) fun z0 =>
  cond (Nat.beq n 0) (some W) (match W.obj a.block with
  | some (.cells c m z e)=>cond (Nat.ble (a.off+n*z0.cells.size) m && z0.cells.toList.all BB)
    (some (W.A4 a.block (.cells (c.AZ a.off (BJ .nil z0.cells (n*z0.cells.size) 0)) m z e))) none
  | _=>none)
 | some (.slice _),.slice none _ _=>some W
 | _,_=>none
def AY (t:TypeId) (x:Value) (W:CW):Option Value :=
 match P.underlying t,x with
 | some .string,.string s=>some (.int .i64 s.size)
 | some (.slice _),.slice _ n _=>some (.int .i64 n)
 | some (.map _ _),.map none=>some (.int .i64 0)
 | some (.map _ _),.map (some r)=>match W.obj r with
  | some (.map es _)=>some (.int .i64 es.length)
  | _=>none
 | _,_=>none
def NI (t:TypeId) (m k:Value) (W:CW):Option CW :=
 match P.underlying t,m with
 | some (.map kt _),.map (some r)=>match W.obj r with
  | some (.map es Dq)=>CH (ML P kt k es) fun f=>match f with
   | some (i,_)=>some (W.A4 r (.map (Ja i es) Dq))
   | none=>some (W.A4 r (.map es Dq))
  | _=>none
 | _,_=>none
def G' (t:TypeId):Bool :=
 match P.underlying t with
 | some (.int _)=>false
 | some _=>true
 | none=>false
def r7 (t:TypeId) (x:Value) (W:CW):Option Value :=
 match P.underlying t,x with
 | some (.slice _),.slice none _ c=>some (.int .i64 c)
 | some (.slice _),.slice (some a) _ c=>match W.obj a.block with
  | some (.cells _ _ z _)=>cond (Nat.beq z.size 0 || Nat.beq c 0) none (some (.int .i64 c))
  | _=>none
 | _,_=>none
def Hj (b:Builtin) (ts:List TypeId) (args:List Value) (W:CW):Option (BM × CW) :=
 match b,ts,args with
 | .len,t::_,[x]=>(AY P t x W).map fun v=>(.value v,W)
 | .cap,t::_,[x]=>(r7 P t x W).map fun v=>(.value v,W)
 | .append,t::u::_,[s,x]=>cond (G' P u) ((F4 P t s x W).map fun (v,W)=>(.value v,W)) none
 | .copy,t::_,[d,s]=>(Xu P t d s W).map fun (v,W)=>(.value v,W)
 | .clear,t::_,[x]=>(Rv P t x W).map fun W=>(.value (.tuple #[]),W)
 | .delete,t::_,[m,k]=>(NI P t m k W).map fun W=>(.value (.tuple #[]),W)
 | .max,_,[.int k a,.int _ b]=>some (.value (.int k (cond (decide (b>a)) b a)),W)
 | .min,_,[.int k a,.int _ b]=>some (.value (.int k (cond (decide (b<a)) b a)),W)
 | .recover,_,[]=>some (.recover,W)
 | _,_,_=>none
def n9 (elem:TypeId) (s:ByteArray) (W:CW):Option (Value × CW) :=
 match P.underlying elem,DC P elem with
 | some (.int .u8),some 1=>some (.slice (some ⟨W.sz,0,none⟩) s.size s.size,W.new (.cells (Tr.nil.AZ 0 (DL (sb s))) s.size #[] elem))
 | _,_=>none
def jV (elem:TypeId) (x:Value) (W:CW):Option Value :=
 match P.underlying elem,x with
 | some (.int .u8),.slice b n _=>CH (FA b n W) fun l=>CH (HT l) fun m=>some (.string ⟨m.toArray⟩)
 | _,_=>none
def G_ (d:Value) (args:List Value):Option BM :=
 match d with
 | .func (.func f) first cap=>some (.enter f (first.toList++args++cap.toList))
 | .func (.yield l) first _=>some (.round l (first.toList++args))
 | _=>none
def IF (f:FuncId) (args:List Value) (W:CW):Option (Value × CW) :=
 match P.funcs[f]? with
 | some fn=>cond fn.body.isNone (cond (fn.name == "maps.clone") (match args with
  | [.iface t (.map (some r))]=>match W.obj r with
   | some (.map es Dq)=>some (.iface t (.map (some W.sz)),W.new (.map es Dq))
   | _=>none
  | _=>none) none) none
 | none=>none
def PT (es:List MapEntry) (since:Nat) (seen:List Nat):List (Option MapEntry) :=
 let left:=es.filter fun e=>!seen.contains e.born
 let old:=left.filter fun e=>e.born<since
 let new:=left.filter fun e=>!(e.born<since)
 (cond old.isEmpty [none] [])++(old++new).map some
def BD (o:Oper) (e:Operand→Value) (W:CW):Option (List (BM × CW)) :=
 let v (x:Option Value):Option (List (BM × CW)):=match x with | some v=>some [(.value v,W)] | none=>none
 let vw (x:Option (Value × CW)):Option (List (BM × CW)):=match x with | some (v,W)=>some [(.value v,W)] | none=>none
 let sw (x:Option CW):Option (List (BM × CW)):=match x with | some W=>some [(.skip,W)] | none=>none
 match o.op with
 | .move x | .assign x=>some [(.value (e x),W)]
 | .pick c a b=>match e c with | .bool b0=>some [(.value (cond b0 (e a) (e b)),W)] | _=>none
 | .alloc t=>match GP P t with
  | some z=>match DC P t with
   | some _=>some [(.value (.pointer (some ⟨W.sz,0,none⟩)),W.new (.cells .nil z.cells.size z.cells t))]
   | none=>none
  | none=>none
 | .box t x=>match DC P t with
  | some _=>some [(.value (Q6 t (e x) W).1,(Q6 t (e x) W).2)]
  | none=>none
 | .build t parts=>v (match GP P t,P.underlying t with
  | some z,some (.struct fields)=>match fields.toList.mapM fun f=>(DC P f.type).map fun s=>(f.offset,s) with
   | some Mn=>(Instr.fill (Mn[·]?) z.cells (parts.toList.map fun (i,x)=>(i,e x))).map .agg
   | none=>none
  | some z,some (.array _ elem)=>match DC P elem with
   | some s=>(Instr.fill (fun i=>some (i*s,s)) z.cells (parts.toList.map fun (i,x)=>(i,e x))).map .agg
   | none=>none
  | _,_=>none)
 | .buildSlice t len parts=>vw (match P.underlying t with
  | some (.slice elem)=>CH (DC P elem) fun s=>CH (GP P elem) fun z =>
   cond (Nat.ble (len*s) 65536 && Nat.beq z.cells.size s) (match Instr.fill (fun i=>some (i*s,s)) ((BJ .nil z.cells (len*s) 0).toArray) (parts.toList.map fun (i,x)=>(i,e x)) with
    | some cs=>some (.slice (some ⟨W.sz,0,none⟩) len len,W.new (.cells (Tr.nil.AZ 0 cs.toList) cs.size #[] elem))
    | none=>none) none
  | _=>none)
 | .load t a=>v (match e a with | .pointer (some a)=>IC P t a W | _=>none)
 | .store t a x=>sw (match e a with | .pointer (some a)=>Ic P t a (e x) W | _=>none)
 | .nilCheck x=>v (match e x with
  | .pointer (some a)=>some (.pointer (some a))
  | .iface t v=>some (.iface t v)
  | .func (.func f) a b=>some (.func (.func f) a b)
  | .func (.yield f) a b=>some (.func (.yield f) a b)
  | _=>none)
 | .binOp op t x y _=>v (AQ P op t (isConst x || isConst y) (e x) (e y))
 | .unOp .not _ x=>v (match e x with | .bool b=>some (.bool (!b)) | _=>none)
 | .unOp .neg _ x=>v (match e x with | .int k n=>some (.int k (k.wrap (0-n))) | _=>none)
 | .convert src dst x=>match P.underlying src,P.underlying dst,e x with
  | some _,some (.int k),.int _ n=>some [(.value (.int k (k.wrap n)),W)]
  | some _,some .string,.string s=>some [(.value (.string s),W)]
  | some .string,some (.slice el),.string s=>vw (n9 P el s W)
  | some (.slice el),some .string,x=>v (jV P el x W)
  | _,_,_=>none
 | .makeInterface t x=>v (match P.underlying t with | some (.interface _) | none=>none | _=>some (.iface t (e x)))
 | .makeFunc fn first cap=>v (some (.func fn (first.map e) (cap.map e)))
 | .makeMap _ none=>some [(.value (.map (some W.sz)),W.new (.map [] 0))]
 | .makeSlice t l c=>vw (match P.underlying t,e l,e c with
  | some (.slice elem),.int _ l,.int _ c=>CH (DC P elem) fun s=>CH (GP P elem) fun z =>
   cond (decide (0≤l) && decide (l≤c) && decide (c≤2000000) && Nat.ble ((P.info? elem).map (·.bytes) |>.getD 0) 1024 && Nat.beq z.cells.size s && Nat.blt 0 s)
    (some (.slice (some ⟨W.sz,0,none⟩) l.toNat c.toNat,W.new (.cells .nil (c.toNat*s) z.cells elem))) none
  | _,_,_=>none)
 | .slice t x lo hi mx=>v (match P.underlying t,e x with
  | some .string,.string s=>CH (bound (hi.map e) s.size s.size) fun h=>CH (bound (lo.map e) 0 h) fun l=>cond mx.isSome none (some (.string (s.extract l h)))
  | _,x=>Ml P W t x (lo.map e) (hi.map e) (mx.map e))
 | .fieldAddr s x f=>v (match P.underlying s,e x with
  | some (.struct fs),.pointer (some a)=>match fs[f]? with
   | some fd=>match DC P fd.type with
    | some m=>cond (Nat.beq m 0) none (some (.pointer (some ⟨a.block,a.off+fd.offset,none⟩)))
    | none=>none
   | none=>none
  | _,_=>none)
 | .field t x f=>v (match P.underlying t,e x with
  | some (.struct fs),.agg cs=>match fs[f]? with
   | some fd=>match agg? P fd.type,DC P fd.type with
    | some true,some m=>some (.agg (cs.extract fd.offset (fd.offset+m)))
    | some false,_=>cs[fd.offset]?
    | _,_=>none
   | none=>none
  | _,_=>none)
 | .indexAddr t x ix=>v (match e ix with
  | .int _ i=>match P.underlying t,e x with
   | some (.array len elem),.pointer (some a)=>CH (DC P elem) fun s=>cond (decide (0≤i) && decide (i<len)) (some (.pointer (some ⟨a.block,a.off+i.toNat*s,none⟩))) none
   | some (.slice elem),.slice (some a) len _=>CH (DC P elem) fun s=>cond (decide (0≤i) && decide (i<len)) (some (.pointer (some ⟨a.block,a.off+i.toNat*s,none⟩))) none
   | _,_=>none
  | _=>none)
 | .index t x ix=>v (match e ix with
  | .int _ i=>match P.underlying t,e x with
   | some (.array len elem),.agg cs=>cond (decide (0≤i) && decide (i<len)) (match agg? P elem,DC P elem with
    | some true,some m=>some (.agg (cs.extract (i.toNat*m) (i.toNat*m+m)))
    | some false,some m=>cs[i.toNat*m]?
    | _,_=>none) none
   | some .string,.string s=>cond (decide (0≤i)) ((s[i.toNat]?).map fun b=>.int .u8 b.toNat) none
   | _,_=>none
  | _=>none)
 | .lookup t x k ok=>v (match P.underlying t,e x with
  | some (.map kt elem),m=>CH (GP P elem) fun z=>CH (match m with
    | .map none=>some []
    | .map (some r)=>match W.obj r with | some (.map es _)=>some es | _=>none
    | _=>none) fun es=>CH (ML P kt (e k) es) fun r=>match r with
     | some (_,x)=>some (cond ok (.tuple #[x,.bool true]) x)
     | none=>some (cond ok (.tuple #[z,.bool false]) z)
  | _,_=>none)
 | .mapUpdate t m k x | .insert t m k x=>sw (match P.underlying t,e m with
  | some (.map kt _),.map (some r)=>match W.obj r with
   | some (.map es Dq)=>CH (ML P kt (e k) es) fun f=>match f with
    | some (i,_)=>some (W.A4 r (.map (ID (e x) (e k) i es) Dq))
    | none=>some (W.A4 r (.map (es++[{ key:=e k,val:=e x,born:=Dq }]) (Dq+1)))
   | _=>none
  | _,_=>none)
 | .range t x=>vw (match P.underlying t,e x with
  | some (.map _ _),.map none=>some (.pointer (some ⟨W.sz,0,none⟩),W.new (.iter none 0 [] 0))
  | some (.map _ _),.map (some r)=>match W.obj r with
   | some (.map _ Dq)=>some (.pointer (some ⟨W.sz,0,none⟩),W.new (.iter (some r) Dq [] Dq))
   | _=>none
  | _,_=>none)
 | .next it false=>match e it with
  | .pointer (some a)=>cond (!Nat.beq a.off 0) none <| match W.obj a.block with
   | some (.iter none _ _ _)=>some [(.value (.tuple #[.bool false]),W)]
   | some (.iter (some r) since seen last)=>match W.obj r with
    | some (.map es Dq) =>
     cond (!seen.isEmpty && !es.isEmpty && es.all fun e=>!(e.born<last)) none
      (some ((PT es since seen).map fun c=>match c with
       | some en=>(.value (.tuple #[.bool true,en.key,en.val]),W.A4 a.block (.iter (some r) since (seen++[en.born]) Dq))
       | none=>(.value (.tuple #[.bool false]),W)))
    | _=>none
   | _=>none
  | _=>none
 | .entry it=>v (match e it with
  | .pointer (some a)=>cond (!Nat.beq a.off 0) none <| match W.obj a.block with
   | some (.iter (some r) _ seen Q7)=>match seen.getLast?,W.obj r with
    | some st,some (.map es Dq)=>cond (Nat.beq Dq Q7) ((es.find? fun e=>Nat.beq e.born st).map fun e=>.tuple #[e.key,e.val]) none
    | _,_=>none
   | _=>none
  | _=>none)
 | .typeAssert x _ t ok=>v (match P.underlying t,e x with
  | some (.interface _),_=>none
  | some _,.iface u y=>cond (Nat.beq t u) (some (cond ok (.tuple #[y,.bool true]) y)) (cond ok ((GP P t).map fun z=>.tuple #[z,.bool false]) none)
  | _,_=>none)
 | .extract x i=>v (match e x with | .tuple vs=>vs[i]? | _=>none)
 | .call c=>match c.callee with
  | .value f=>match G_ (e f) (c.args.toList.map e) with
   | some (.enter g as)=>match IF P g as W with
    | some (v,W1)=>some [(.value v,W1)]
    | none=>some [(.enter g as,W)]
   | some n=>some [(n,W)]
   | none=>none
  | .builtin b=>match Hj P b c.argTypes.toList (c.args.toList.map e) W with | some r=>some [r] | none=>none
  | _=>none
 | .defer c=>match c.callee with
  | .value f=>match e f with
   | .func (.func g) first cap=>some [(.defer { target:=.fn (.func g) cap,args:=first++c.args.map e },W)]
   | _=>none
  | _=>none
 | .panic x=>match e x with | .iface t y=>some [(.panic (.iface t y),W)] | _=>none
 | _=>none
end
end Go.Ce
namespace Go.Ce
abbrev Jb:=Option (List (Exit × AI × CW))
abbrev Ends:=Option (List (Ending × CW))
abbrev xo:=Option (List (Ending × FrameMode × CW))
structure B5 where
 code:Option Nat→FuncId→Code→AI→CW→Jb
 call:FuncId→List Value→CW→Ends
 round:Nat→List Value→CW→Ends
 F5:FuncId→List Value→FrameMode→CW→xo
 eqv:Value→Value→Bool
def B5.base (eqv:Value→Value→Bool):B5:=⟨fun _ _ _ _ _=>Option.none,fun _ _ _=>Option.none,fun _ _ _=>Option.none,fun _ _ _ _=>Option.none,eqv⟩
def EH {α β:Type} (f:α→Option (List β)):List α→Option (List β)
 | []=>some []
 | x::xs=>match f x with
  | Option.none=>Option.none
  | some l=>match EH f xs with
   | Option.none=>Option.none
   | some m=>some (l++m)
def B0 {α β:Type} (o:Option (List α)) (f:α→Option (List β)):Option (List β) :=
 match o with
 | Option.none=>Option.none
 | some l=>EH f l
def Ie (ops:Array Oper) (a:AI) (j:Nat):Option Bool :=
 match ops[j]? with
 | some o=>match o.dst with
  | some d=>match a.t.get d with
   | some (.bool b)=>some b
   | _=>none
  | none=>none
 | none=>none
def CO (ops:Array Oper) (o:Oper) (a:AI):Bool :=
 match o.guard with
 | none=>true
 | some (j,want)=>match Ie ops a j with
  | some b=>b == want
  | none=>false
section
variable (P:Program)
def Xc (ops:Array Oper) (i:Nat):List Nat :=
 match ops[i]? with
 | some o=>(o.after.toList.filter (Region.binds .any)).map (·.on)
 | none=>[]
def Vr (l:List Nat):List Nat→List Nat
 | []=>l
 | x::xs=>Vr (cond (l.any (Nat.beq x)) l (l++[x])) xs
def n_ (ops:Array Oper):Nat→List Nat→List Nat
 | 0,l=>l
 | f+1,l=>let m:=Vr l (l.flatMap (Xc ops)); cond (Nat.beq m.length l.length) l (n_ ops f m)
def FB (ops:Array Oper) (i:Nat):List Nat:=n_ ops ops.size (Xc ops i)
def r8 (ops:Array Oper) (i j:Nat):Bool:=(FB ops i).any (Nat.beq j)
def CR (o:Oper):Bool :=
 match o.op with
 | .move _ | .assign _ | .pick .. | .build .. | .nilCheck _ | .binOp .. | .unOp .. | .makeInterface .. | .makeFunc .. | .field .. | .fieldAddr .. | .indexAddr .. | .index .. | .typeAssert .. | .extract ..=>true
 | .convert s d _=>(match P.underlying s with | some (.slice _)=>false | _=>true) && (match P.underlying d with | some (.slice _)=>false | _=>true)
 | _=>false
def DD (o:Oper):Bool :=
 match o.op with
 | .load .. | .slice .. | .lookup .. | .entry _=>true
 | .call c=>match c.callee with
  | .builtin .len=>true
  | _=>false
 | .convert s d _=>(match P.underlying s with | some (.slice _)=>true | _=>false) && (match P.underlying d with | some .string=>true | _=>false)
 | _=>false
def Vs (ops:Array Oper):Nat→Operand→Bool
 | n+1,.tmp t=>match ops.toList.find? (fun o=>match o.dst with | some d=>Nat.beq d t | none=>false) with
  | some o=>CR P o && o.guard.isNone && o.op.operands.toList.all (Vs ops n)
  | none=>true
 | 0,.tmp _=>false
 | _,_=>true
def floatKind (ops:Array Oper) (o:Oper):Bool :=
 match o.op,o.guard with
 | .alloc _,none=>true
 | .makeMap _ none,none=>true
 | .makeSlice _ l c,none=>Vs P ops 6 l && Vs P ops 6 c
 | _,_=>false
def OT (o:Oper):Bool:=!(CR P o || DD P o)
def FZ (ops:Array Oper):List Nat :=
 let n:=ops.size
 let ws:=(List.range n).filter fun i=>match ops[i]? with | some o=>OT P o | none=>false
 ws.filter fun i=>match ops[i]? with
  | some o=>floatKind P ops o && ws.any fun j=>!Nat.beq i j && !r8 ops i j && !r8 ops j i
  | none=>false
def Be (l:List Nat) (i:Nat):Bool:=l.any (Nat.beq i)
def G2 (ops:Array Oper):Bool :=
 let n:=ops.size
 let fl:=FZ P ops
 (List.range n).all fun i=>match ops[i]? with
  | some oi =>
   let an:=FB ops i
   (Xc ops i).all (fun p=>Nat.blt p i) && (List.range i).all fun j=>Be an j || (match ops[j]? with
    | some oj=>oj.apart ops oi && !(OT P oi && OT P oj && !Be fl i && !Be fl j)
    | none=>true)
  | none=>true
def Vt:Nat→Value→Value→Bool
 | 0,_,_=>false
 | n+1,v,w=>match v,w with
  | .bool a,.bool b=>a == b
  | .int j a,.int k b=>decide (j=k) && a == b
  | .pointer none,.pointer none=>true
  | .pointer (some ⟨a,i,none⟩),.pointer (some ⟨b,j,none⟩)=>Nat.beq a b && Nat.beq i j
  | .slice none n c,.slice none m d=>Nat.beq n m && Nat.beq c d
  | .slice (some ⟨a,i,none⟩) n c,.slice (some ⟨b,j,none⟩) m d=>Nat.beq a b && Nat.beq i j && Nat.beq n m && Nat.beq c d
  | .map none,.map none=>true
  | .map (some a),.map (some b)=>Nat.beq a b
  | .nilIface,.nilIface=>true
  | .nilFunc,.nilFunc=>true
  | .string a,.string b=>UG (sb a) (sb b)
  | .iface t v,.iface u w=>Nat.beq t u && Vt n v w
  | .agg x,.agg y=>Nat.beq x.size y.size && (x.toList.zip y.toList).all fun (v,w)=>Vt n v w
  | .tuple x,.tuple y=>Nat.beq x.size y.size && (x.toList.zip y.toList).all fun (v,w)=>Vt n v w
  | .func (.func f) x x',.func (.func g) y y'=>Nat.beq f g && Nat.beq x.size y.size && Nat.beq x'.size y'.size && (x.toList.zip y.toList).all (fun (v,w)=>Vt n v w) && (x'.toList.zip y'.toList).all fun (v,w)=>Vt n v w
  | _,_=>false
def B6:Option As→Option As→Bool
 | some (.map [] 0),some (.map [] 0)=>true
 | some (.cells .nil n z e),some (.cells .nil m y f)=>Nat.beq n m && Nat.beq e f && Nat.beq z.size y.size && (z.toList.zip y.toList).all fun (v,w)=>Vt 6 v w
 | _,_=>false
def r9 (xs ys:List Value):Bool:=Nat.beq xs.length ys.length && (xs.zip ys).all fun (v,w)=>Vt 8 v w
def r_:Option Value→Option Value→Bool
 | none,none=>true
 | some v,some w=>Vt 8 v w
 | _,_=>false
def sA:Nat→Tr Value→Tr Value→Bool
 | _,.nil,.nil=>true
 | n+1,.node l v r,.node l' v' r'=>r_ v v' && sA n l l' && sA n r r'
 | _,_,_=>false
def meq (a b:MapEntry):Bool:=Vt 8 a.key b.key && Vt 8 a.val b.val && Nat.beq a.born b.born
def sB:As→As→Bool
 | .cells c n z e,.cells c' n' z' e'=>Nat.beq n n' && Nat.beq e e' && r9 z.toList z'.toList && sA 30 c c'
 | .map es k,.map By k'=>Nat.beq k k' && Nat.beq es.length By.length && (es.zip By).all fun (a,b)=>meq a b
 | .deferred,.deferred=>true
 | _,_=>false
def qW:Option As→Option As→Option As
 | some o,some o'=>cond (sB o o') (some o) none
 | _,_=>none
def PU:Nat→Tr As→Tr As→Tr As
 | n+1,.node l v r,.node l' v' r'=>.node (PU n l l') (qW v v') (PU n r r')
 | _,_,_=>.nil
def meet (W W':CW):CW:=⟨PU 30 W.h W'.h,max W.sz W'.sz⟩
def Hk:List (Ending × CW)→Option (Value × CW)
 | [(.returned v,W)]=>some (v,W)
 | (.returned v,W)::rest=>match Hk rest with
  | some (u,W')=>cond (Vt 8 v u) (some (v,meet W W')) none
  | none=>none
 | _=>none
def merged (o:Ends):Ends :=
 match o with
 | some (x::y::l)=>match Hk (x::y::l) with
  | some (v,W)=>some [(.returned v,W)]
  | none=>some (x::y::l)
 | o=>o
def EI (R:B5) (ops:Array Oper):List Oper→AI→CW→Jb
 | [],a,W=>some [(.normal,a,W)]
 | o::rest,a,W =>
  match CO ops o a with
  | true=>B0 (BD P o a.eval W) fun (n,W)=>match n with
    | .value v=>EI R ops rest (a.put o.dst v) W
    | .skip=>EI R ops rest (a.put o.dst undef) W
    | .defer d=>EI R ops rest ({ a with defers:=d::a.defers }.put o.dst undef) W
    | .enter f args=>B0 (R.call f args W) fun (e,W)=>match e with
     | .returned v=>EI R ops rest (a.put o.dst v) W
     | .panicked ch=>some [(.panic ch,a,W)]
     | .outgrown=>none
    | .round l args=>B0 (R.round l args W) fun (e,W)=>match e with
     | .returned v=>EI R ops rest (a.put o.dst v) W
     | .panicked ch=>some [(.panic ch,a,W)]
     | .outgrown=>none
    | .recover=>none
    | .panic v=>some [(.panic [{ v,recovered:=false }],a,W)]
  | false=>EI R ops rest (a.put o.dst undef) W
def Ee:Nat→Value→Bool
 | 0,_=>false
 | n+1,v=>match v with
  | .bool _ | .int _ _ | .float _ _ | .complex _ _ _ | .string _ | .pointer none | .slice none _ _ | .map none | .chan none | .nilFunc | .nilIface=>true
  | .agg x=>x.toList.all (Ee n)
  | .tuple x=>x.toList.all (Ee n)
  | .iface _ v=>Ee n v
  | _=>false
def Ah:Operand→Bool
 | .tmp _=>true
 | .const v=>Ee 8 v
 | .global _=>false
 | .func _=>true
def Rw (o:Oper):Bool :=
 match o.op with
 | .move x | .assign x | .nilCheck x | .unOp _ _ x | .convert _ _ x | .makeInterface _ x | .field _ x _ | .fieldAddr _ x _ | .range _ x | .next x false | .entry x | .typeAssert x _ _ _ | .extract x _ | .panic x | .box _ x=>Ah x
 | .load _ x=>Ah x || (match x with | .global _=>true | _=>false)
 | .pick c a b=>Ah c && Ah a && Ah b
 | .alloc _ | .makeMap _ none=>true
 | .build _ ps | .buildSlice _ _ ps=>ps.toList.all fun p=>Ah p.2
 | .store _ a x=>Ah a && Ah x
 | .binOp _ _ x y _ | .makeSlice _ x y | .indexAddr _ x y | .index _ x y | .lookup _ x y _=>Ah x && Ah y
 | .makeFunc (.func _) f c=>f.toList.all Ah && c.toList.all Ah
 | .slice _ x l h m=>Ah x && l.all Ah && h.all Ah && m.all Ah
 | .mapUpdate _ m k x | .insert _ m k x=>Ah m && Ah k && Ah x
 | .call c=>c.args.toList.all Ah && (match c.callee with | .value f=>Ah f | .builtin _=>true | _=>false)
 | .defer c=>c.args.toList.all Ah && (match c.callee with | .value f=>Ah f | _=>false)
 | _=>false
def Xw (nt:Nat) (o:Oper):Bool:=match o.dst with | some d=>Nat.blt d nt | none=>true
def NJ (o:Oper):Bool:=match o.op with | .defer _=>false | _=>true
def NK (o:Oper):Bool:=match o.guard with
 | none=>true
 | some _=>match o.op with
  | .call c=>match c.callee with
   | .value (.func g)=>(P.funcs[g]?).isSome
   | .value _=>false
   | _=>true
  | _=>true
def Iz (nt:Nat) (nR:Bool) (ops:List Oper):Bool:=ops.all fun o=>(Rw o && NK P o) && Xw nt o && (!nR || NJ o)
def xp (nt:Nat) (ps:Array Tmp):Bool:=ps.toList.all fun p=>Nat.blt p nt
def codeOk (nt:Nat) (nR:Bool):Code→Bool
 | .skip | .label _ | .exit _ | .ret=>true
 | .region _ ops d=>Iz P nt nR ops.toList && (!d || G2 P ops)
 | .seq x y=>codeOk nt nR x && codeOk nt nR y
 | .cond c x y=>Ah c && (codeOk nt nR x && codeOk nt nR y)
 | .block _ b=>codeOk nt nR b
 | .scope b=>codeOk nt nR b
 | .loop b=>codeOk nt nR b
 | .rangeFunc f ps as bd=>Ah f && xp nt ps && codeOk nt true as && codeOk nt true bd
 | _=>false
structure Dx where
 a:AI
 W:CW
 ws:List (Nat × CW)
 rd:List (Nat × Oper × AI × Value)
def early (ops:Array Oper) (a:AI) (W:CW):Nat→Operand→Value
 | n+1,.tmp t=>match ops.toList.find? (fun o=>match o.dst with | some d=>Nat.beq d t | none=>false) with
  | some o=>cond (CR P o) ((BD P o (early ops a W n) W).elim undef fun l=>l.head?.elim undef fun p=>match p.1 with | .value v=>v | _=>undef) undef
  | none=>a.eval (.tmp t)
 | _,x=>a.eval x
def Rx (ops:Array Oper) (a:AI) (W:CW) (o:Oper):Operand→Value :=
 match o.op with
 | .makeSlice _ _ _=>early P ops a W 6
 | _=>a.eval
def NL (o:Oper) (a:AI) (v:Value) (ob:Option As):Bool :=
 match o.op with
 | .makeSlice _ _ _=>match v with
  | .slice (some b) _ _=>(BD P o a.eval ⟨.nil,b.block⟩).any fun l=>l.head?.any fun p=>match p.1 with
   | .value u=>Vt 8 u v && B6 (p.2.obj b.block) ob
   | _=>false
  | _=>false
 | _=>true
def Gm (ops:Array Oper) (a:AI):List Nat→CW→Option (List (Nat × Value × Option As) × CW)
 | [],W=>some ([],W)
 | i::is,W=>match ops[i]? with
  | some o=>match BD P o (Rx P ops a W o) W with
   | some [(.value v,W1)]=>match Gm ops a is W1 with
    | some (l,W2)=>some ((i,v,W1.obj W.sz)::l,W2)
    | none=>none
   | _=>none
  | none=>none
def DO (ops:Array Oper) (o:Oper) (a:AI):Option Bool :=
 match o.guard with
 | none=>some true
 | some (j,want)=>match Ie ops a j with
  | some b=>some (b == want)
  | none=>some false
def BI (R:B5) (ops:Array Oper) (fl:List (Nat × Value × Option As)) (i:Nat) (o:Oper) (s:Dx):Option Dx :=
 match fl.find? fun p=>Nat.beq p.1 i with
 | some (_,v,ob)=>cond (NL P o s.a v ob) (some { s with a:=s.a.put o.dst v }) none
 | none=>match DO ops o s.a with
  | none=>none
  | some false=>some { s with a:=s.a.put o.dst undef }
  | some true =>
   cond (CR P o) (match BD P o s.a.eval s.W with
    | some [(.value v,_)]=>some { s with a:=s.a.put o.dst v }
    | _=>none)
   (cond (DD P o) (match BD P o s.a.eval s.W with
    | some [(.value v,_)]=>some { s with a:=s.a.put o.dst v,rd:=(i,o,s.a,v)::s.rd }
    | _=>none)
   (match BD P o s.a.eval s.W with
   | some [(.value v,W1)]=>some { s with a:=s.a.put o.dst v,W:=W1,ws:=(i,s.W)::s.ws }
   | some [(.skip,W1)]=>some { s with a:=s.a.put o.dst undef,W:=W1,ws:=(i,s.W)::s.ws }
   | some [(.enter f args,W1)]=>match merged (R.call f args W1) with
    | some [(.returned v,W2)]=>some { s with a:=s.a.put o.dst v,W:=W2,ws:=(i,s.W)::s.ws }
    | _=>none
   | some [(.round l args,W1)]=>match merged (R.round l args W1) with
    | some [(.returned v,W2)]=>some { s with a:=s.a.put o.dst v,W:=W2,ws:=(i,s.W)::s.ws }
    | _=>none
   | _=>none))
def DP (R:B5) (ops:Array Oper) (fl:List (Nat × Value × Option As)):Nat→List Oper→Dx→Option Dx
 | _,[],s=>some s
 | i,o::rest,s=>match BI P R ops fl i o s with
  | some s=>DP R ops fl (i+1) rest s
  | none=>none
def CI (F:Nat→Oper→Dx→Option Dx):Nat→List Oper→Dx→Option Dx
 | _,[],s=>some s
 | i,o::rest,s=>match F i o s with
  | some s=>CI F (i+1) rest s
  | none=>none
def De (R:B5) (ops:Array Oper) (fl:List (Nat × Value × Option As)) (i:Nat) (o:Oper) (s:Dx):Option (List PanicEntry × CW) :=
 match fl.find? fun p=>Nat.beq p.1 i with
 | some _=>none
 | none=>match DO ops o s.a with
  | some true=>cond (CR P o) none (cond (DD P o) none (match BD P o s.a.eval s.W with
   | some [(.enter f args,W1)]=>match R.call f args W1 with
    | some [(.panicked ch,W2)]=>some (ch,W2)
    | _=>none
   | some [(.round l args,W1)]=>match R.round l args W1 with
    | some [(.panicked ch,W2)]=>some (ch,W2)
    | _=>none
   | _=>none))
  | _=>none
def DQ (R:B5) (ops:Array Oper) (fl:List (Nat × Value × Option As)):Nat→List Oper→Dx→Option (Nat × List PanicEntry × CW)
 | _,[],_=>none
 | i,o::rest,s=>match De P R ops fl i o s with
  | some (ch,W)=>some (i,ch,W)
  | none=>match BI P R ops fl i o s with
   | some s=>DQ R ops fl (i+1) rest s
   | none=>none
def KL (ops:Array Oper) (i0 i:Nat):Bool:=Nat.beq i i0 || (Nat.blt i0 i && Be (FB ops i) i0)
theorem dg {ops:Array Oper} {i0 i:Nat} (h:i<i0):KL ops i0 i=false:=by
 unfold KL
 have h1:Nat.beq i i0=false:=by
  cases hq:Nat.beq i i0 with
  | false=>rfl
  | true=>have:=Nat.eq_of_beq_eq_true hq; omega
 have h2:Nat.blt i0 i=false:=by
  cases hq:Nat.blt i0 i with
  | false=>rfl
  | true=>have:=Nat.le_of_ble_eq_true hq; omega
 rw [h1,h2]; rfl
def GQ (R:B5) (ops:Array Oper) (fl:List (Nat × Value × Option As)) (i0:Nat) (i:Nat) (o:Oper) (s:Dx):Option Dx :=
 cond (KL ops i0 i) (some { s with a:=s.a.put o.dst undef }) (BI P R ops fl i o s)
def AI.bad (a:AI):AI:={ a with t:=Tr.nil.set 0 (.complex .f64 0 0) }
def AI.KC (a:AI):Bool:=match a.t.get 0 with
 | some (.complex .f64 _ _)=>true
 | _=>false
def CS (ops:Array Oper) (i:Nat) (an:List Nat) (ok:CW→Bool):List (Nat × CW)→CW→Bool
 | [],W=>ok W
 | (j,Wj)::before,W =>
  (r8 ops j i || ok W) && cond (Be an j) true (CS ops i an ok before Wj)
def G3 (R:B5) (ops:Array Oper) (a:AI) (W:CW):Jb :=
 match Gm P ops a (FZ P ops) W with
 | none=>none
 | some (fl,W1)=>match DP P R ops fl 0 ops.toList ⟨a,W1,[],[]⟩ with
  | none=>match DQ P R ops fl 0 ops.toList ⟨a,W1,[],[]⟩ with
   | none=>none
   | some (i0,ch,W2)=>match CI (GQ P R ops fl i0) 0 ops.toList ⟨a,W1,[],[]⟩ with
    | none=>none
    | some s=>cond (fl.isEmpty && s.ws.all fun x=>Be (FB ops i0) x.1)
     (cond (s.rd.all fun (i,o,a,v)=>CS ops i (FB ops i) (fun W=>match BD P o a.eval W with | some [(.value u,_)]=>R.eqv u v | _=>false) s.ws s.W)
      (some [(.panic ch,a.bad,W2)]) none) none
  | some s =>
   cond (s.rd.all fun (i,o,a,v)=>CS ops i (FB ops i) (fun W=>match BD P o a.eval W with | some [(.value u,_)]=>R.eqv u v | _=>false) s.ws s.W)
    (cond (fl.all fun (i,v,ob)=>CS ops i (FB ops i) (fun W=>match v with | .pointer (some b)=>B6 (W.obj b.block) ob | .map (some b)=>B6 (W.obj b) ob | .slice (some b) _ _=>B6 (W.obj b.block) ob | _=>false) s.ws s.W)
     (some [(.normal,s.a,s.W)]) none) none
def Gn (o:Jb) (f:AI→CW→Jb):Jb :=
 B0 o fun (e,a,W)=>match e with
  | .normal=>f a W
  | e=>some [(e,a,W)]
def Ge (a:AI) (W:CW):ResultVar→Option Value
 | .tmp t=>some (match a.t.get t with | some v=>v | none=>undef)
 | .cell s ty=>match a.t.get s with
  | some (.pointer (some p))=>IC P ty p W
  | _=>none
def FG (fn:Func) (a:AI) (W:CW):Option Value :=
 match fn.results.toList.mapM (Ge P a W) with
 | some [v]=>some v
 | some vs=>some (.tuple vs.toArray)
 | none=>none
def leaves (R:B5) (fn:Func) (a:AI):List Deferred→FrameMode→CW→Ends
 | [],.returning,W=>match FG P fn a W with
  | some v=>some [(.returned v,W)]
  | none=>none
 | [],.panicking ch,W=>some [(.panicked ch,W)]
 | [],.run,_=>none
 | d::ds,u,W=>match d.target with
  | .collected r=>match W.obj r with
   | some .deferred=>leaves R fn a ds u (W.A4 r .dead)
   | _=>none
  | .fn (.func f) cap=>B0 (R.F5 f (d.args.toList++cap.toList) u W) fun (e,u,W)=>match e with
   | .returned _=>leaves R fn a ds (settle u) W
   | _=>none
  | _=>none
def FR:List Deferred→List PanicEntry→CW→Ends
 | [],ch,W=>some [(.panicked ch,W)]
 | d::ds,ch,W=>match d.target with
  | .collected r=>match W.obj r with
   | some .deferred=>FR ds ch (W.A4 r .dead)
   | _=>none
  | _=>none
def Ry (ro:Option Nat) (W:CW):Option (Nat × List Deferred × CW) :=
 match ro with
 | some l=>match W.obj l with
  | some (.loop _ _ _ _ _ _ _ _ d)=>some (d,[],W)
  | _=>none
 | none=>some (W.sz,[{ target:=.collected W.sz,args:=#[] }],W.new .deferred)
def BY (R:B5) (ro:Option Nat) (fn:FuncId) (c:Code) (a:AI) (W:CW):Jb :=
 match c with
 | .skip=>some [(.normal,a,W)]
 | .label _=>some [(.normal,a,W)]
 | .exit id=>some [(.exit id,a,W)]
 | .ret=>some [(.ret,a,W)]
 | .region _ ops false=>EI P R ops ops.toList a W
 | .region _ ops true=>G3 P R ops a W
 | .seq x y=>Gn (R.code ro fn x a W) (R.code ro fn y)
 | .cond c x y=>match a.eval c with
  | .bool b=>R.code ro fn (cond b x y) a W
  | _=>none
 | .block id b=>B0 (R.code ro fn b a W) fun (e,a,W)=>match e with
  | .exit PV=>cond (Nat.beq PV id) (some [(.normal,a,W)]) (some [(.exit PV,a,W)])
  | e=>some [(e,a,W)]
 | .scope b=>R.code ro fn b a W
 | .loop b=>Gn (R.code ro fn b a W) (R.code ro fn (.loop b))
 | .rangeFunc f ps assign body =>
  match Ry ro W with
  | none=>none
  | some (dl,mark,W1) =>
   match G_ (a.eval f) [.func (.yield W1.sz) #[] #[]] with
   | some (.enter g args)=>B0 (R.call g args (W1.new (.loop .ready none fn a.t a.nt ps assign body dl))) fun (e,W3)=>match e with
    | .returned _=>match W3.obj W1.sz with
     | some (.loop st DE lf lt ln lp la lb ld) =>
      match st with
      | .busy=>none
      | _=>match DE with
       | none=>some [(.normal,{ a with defers:=mark++a.defers },W3.A4 W1.sz (.loop .exhausted DE lf lt ln lp la lb ld))]
       | some .ret=>some [(.ret,{ a with defers:=mark++a.defers },W3.A4 W1.sz (.loop .exhausted DE lf lt ln lp la lb ld))]
       | some (.exit id)=>some [(.exit id,{ a with defers:=mark++a.defers },W3.A4 W1.sz (.loop .exhausted DE lf lt ln lp la lb ld))]
       | _=>none
     | _=>none
    | .panicked ch=>some [(.panic ch,{ a with defers:=mark++a.defers },W3)]
    | _=>none
   | _=>none
 | _=>none
def B7 (R:B5) (ops:Array Oper):List Oper→AI→FrameMode→CW→Option (List (Exit × AI × FrameMode × CW))
 | [],a,u,W=>some [(.normal,a,u,W)]
 | o::rest,a,u,W =>
  match CO ops o a with
  | true=>B0 (BD P o a.eval W) fun (n,W)=>match n with
    | .value v=>B7 R ops rest (a.put o.dst v) u W
    | .skip=>B7 R ops rest (a.put o.dst undef) u W
    | .recover=>match u with
     | .panicking ({ v,recovered:=false,goexit:=false }::Um)=>B7 R ops rest (a.put o.dst v) (.panicking ({ v,recovered:=true }::Um)) W
     | _=>B7 R ops rest (a.put o.dst .nilIface) u W
    | .panic v=>some [(.panic [{ v,recovered:=false }],a,u,W)]
    | _=>none
  | false=>B7 R ops rest (a.put o.dst undef) u W
def QM (R:B5) (fn:FuncId):Code→AI→FrameMode→CW→Option (List (Exit × AI × FrameMode × CW))
 | .region _ ops false,a,u,W=>B7 P R ops ops.toList a u W
 | .seq x y,a,u,W=>B0 (QM R fn x a u W) fun (e,a,u,W)=>match e with
  | .normal=>QM R fn y a u W
  | e=>some [(e,a,u,W)]
 | .cond c x y,a,u,W=>match a.eval c with
  | .bool true=>QM R fn x a u W
  | .bool false=>QM R fn y a u W
  | _=>none
 | c,a,u,W=>B0 (R.code none fn c a W) fun (e,a,W)=>some [(e,a,u,W)]
def Rz (l:Nat) (j:Option Code) (W:CW):Ends :=
 match W.obj l with
 | some (.loop _ _ f t nt ps assign body ld)=>some [(.returned (.bool j.isNone),W.A4 l (.loop (match j with | none=>.ready | some _=>.done) j f t nt ps assign body ld))]
 | _=>none
def F6 (fn:Func) (args:List Value):AI:=⟨Tr.nil.AZ 0 args,fn.ntmps,[]⟩
def Bx (L:List FuncId) (R:B5):B5 where
 eqv:=R.eqv
 code:=BY P R
 call f args W:=cond (!Be L f) none <| (fun r=>cond (Be L (f+2000000) && args.isEmpty) (some [(.returned (.bool true),W)]) r) <| (fun r=>cond (Be L (f+1000000)) (merged r) r) <|
  match P.funcs[f]? with
  | some fn=>match fn.body with
   | some c=>cond (Nat.ble args.length fn.ntmps) (B0 (R.code none f c (F6 fn args) W) fun (e,a,W) =>
    match e with
    | .normal=>leaves P R fn a a.defers .returning W
    | .ret=>leaves P R fn a a.defers .returning W
    | .panic ch=>cond a.KC (FR a.defers ch W) (leaves P R fn a a.defers (.panicking ch) W)
    | _=>none) none
   | _=>none
  | _=>none
 F5 f args u W:=cond (!Be L f) none <|
  match P.funcs[f]? with
  | some fn=>match fn.body with
   | some c=>cond (Nat.ble args.length fn.ntmps) (B0 (QM P R f c (F6 fn args) u W) fun (e,a,u,W) =>
    cond a.defers.isEmpty (match e with
    | .normal=>match FG P fn a W with
     | some v=>some [(.returned v,u,W)]
     | none=>none
    | .ret=>match FG P fn a W with
     | some v=>some [(.returned v,u,W)]
     | none=>none
    | _=>none) none) none
   | _=>none
  | _=>none
 round l args W :=
  match W.obj l with
  | some (.loop .ready _ f t nt ps assign body _) =>
   cond (Nat.beq args.length ps.size) (B0 (R.code (some l) f assign ⟨(ps.toList.zip args).foldl (fun t (p:Tmp × Value)=>t.set p.1 p.2) t,nt,[]⟩ W) fun (e,a,W)=>match e with
    | .normal=>match W.obj l with
     | some (.loop .ready DE f t nt ps oB xq ld) =>
      B0 (R.code (some l) f body a (W.A4 l (.loop .busy DE f t nt ps oB xq ld))) fun (e,a,W)=>match e with
       | .normal=>Rz l none W
       | .ret=>Rz l (some .ret) W
       | .exit id=>Rz l (some (.exit id)) W
       | .panic ch=>cond a.defers.isEmpty (some [(.panicked ch,W)]) none
       | _=>none
     | _=>none
    | _=>none) none
  | _=>none
def oC (eqv:Value→Value→Bool) (L:List FuncId):Nat→B5:=fun n=>Nat.rec (B5.base eqv) (fun _ ih=>Bx P L ih) n
def Z4 (L:List FuncId):Nat→B5:=oC P (Vt 8) L
def evR (L:List FuncId):Nat→B5
 | 0=>B5.base (Vt 8)
 | n+1=>Bx P L (evR L n)
def Vp (L:List FuncId):Bool:=L.all fun f=>match P.funcs[f]? with
 | some fn=>match fn.body with
  | some c=>codeOk P fn.ntmps false c
  | none=>true
 | none=>true
end
def W0 (g:Nat):CW:=⟨.nil,g⟩
def LX:Ends→Bool
 | some l=>l.all fun (e,_)=>match e with | .returned (.bool true)=>true | _=>false
 | none=>false
@[noinline] def cnt (P:Program) (f:Nat) (L:List Nat:=List.range 300) (g:Nat:=0):String:=match (evR P L 6000).call f [] (W0 g) with
 | some l=>s!"outcomes {l.length}: "++String.join ((l.take 3).map fun (e,W)=>s!"blocks {W.sz} {match e with | .returned (.bool b) => toString b | .panicked _ => "pan" | _ => "?"}; ")
 | none=>"none"
end Go.Ce
namespace Go.Ce
open Go.RowKit (Below)
theorem Tr.get_nil {α:Type} (i:Nat):(Tr.nil:Tr α).get i=none:=rfl
theorem Tr.FH {α:Type} (l:Tr α) (v:Option α) (r:Tr α) (i:Nat) :
  (Tr.node l v r).get i=if i=0 then v else if i % 2=1 then l.get (i / 2) else r.get (i / 2-1):=by
 simp only [Tr.get,cond_eq_ite,Nat.beq_eq]
theorem Tr.jW {α:Type} (f:Nat):∀ (t:Tr α) (i:Nat) (x:α) (j:Nat),i<f→(Tr.Xq f t i x).get j=if j=i then some x else t.get j:=by
 induction f with
 | zero=>intro t i x j h; omega
 | succ f ih =>
  intro t i x j h; have h1:i≠0→i / 2<f:=by omega
  have h2:i≠0→i / 2-1<f:=by omega
  cases t with
  | nil =>
   simp only [Tr.Xq,cond_eq_ite,Nat.beq_eq]
   by_cases hi:i=0
   ·subst hi; simp only [if_true,Tr.FH,Tr.get_nil]
    by_cases hj:j=0
    ·simp [hj]
    ·simp [hj]
   ·rw [if_neg hi]
    by_cases hm:i % 2=1
    ·rw [if_pos hm,Tr.FH,ih _ _ _ _ (h1 hi)]
     by_cases hj:j=0
     ·simp [hj,Tr.get_nil]; omega
     ·rw [if_neg hj]
      by_cases Vu:j % 2=1
      ·rw [if_pos Vu]
       by_cases e:j=i
       ·simp [e]
       ·rw [if_neg (by omega),if_neg e]; rfl
      ·rw [if_neg Vu,if_neg (by omega)]; rfl
    ·rw [if_neg hm,Tr.FH,ih _ _ _ _ (h2 hi)]
     by_cases hj:j=0
     ·simp [hj,Tr.get_nil]; omega
     ·rw [if_neg hj]
      by_cases Vu:j % 2=1
      ·rw [if_pos Vu,if_neg (by omega)]; rfl
      ·rw [if_neg Vu]
       by_cases e:j=i
       ·simp [e]
       ·rw [if_neg (by omega),if_neg e]; rfl
  | node l v r =>
   simp only [Tr.Xq,cond_eq_ite,Nat.beq_eq]
   by_cases hi:i=0
   ·subst hi; simp only [if_true,Tr.FH]
    by_cases hj:j=0
    ·simp [hj]
    ·simp [hj]
   ·rw [if_neg hi]
    by_cases hm:i % 2=1
    ·rw [if_pos hm,Tr.FH,ih _ _ _ _ (h1 hi),Tr.FH]
     by_cases hj:j=0
     ·simp [hj]; omega
     ·rw [if_neg hj,if_neg hj]
      by_cases Vu:j % 2=1
      ·rw [if_pos Vu,if_pos Vu]
       by_cases e:j=i
       ·simp [e]
       ·rw [if_neg (by omega),if_neg e]
      ·rw [if_neg Vu,if_neg Vu,if_neg (by omega)]
    ·rw [if_neg hm,Tr.FH,ih _ _ _ _ (h2 hi),Tr.FH]
     by_cases hj:j=0
     ·simp [hj]; omega
     ·rw [if_neg hj,if_neg hj]
      by_cases Vu:j % 2=1
      ·rw [if_pos Vu,if_pos Vu,if_neg (by omega)]
      ·rw [if_neg Vu,if_neg Vu]
       by_cases e:j=i
       ·simp [e]
       ·rw [if_neg (by omega),if_neg e]
theorem Tr.BV {α:Type} (t:Tr α) (i:Nat) (x:α) (j:Nat):(t.set i x).get j=if j=i then some x else t.get j :=
 Tr.jW _ _ _ _ _ (by omega)
theorem Tr.IG {α:Type} (xs:List α):∀ (t:Tr α) (k j:Nat),(t.AZ k xs).get j=if k≤j∧j<k+xs.length then xs[j-k]? else t.get j:=by
 induction xs with
 | nil=>intro t k j; simp only [Tr.AZ,List.length_nil,Nat.add_zero]; rw [if_neg (by omega)]
 | cons x xs ih =>
  intro t k j; simp only [Tr.AZ,ih,Tr.BV,List.length_cons]
  by_cases h:k+1≤j∧j<k+1+xs.length
  ·rw [if_pos h,if_pos (by omega)]; obtain ⟨m,rfl⟩:∃ m,j=k+(m+1):=⟨j-k-1,by omega⟩
   have e1:k+(m+1)-(k+1)=m:=by omega
   have e2:k+(m+1)-k=m+1:=by omega
   rw [e1,e2]; rfl
  ·rw [if_neg h]
   by_cases e:j=k
   ·subst e; simp
   ·rw [if_neg e,if_neg (by omega)]
structure Info where
 b:Nat
 o:Nat
 sz:Nat
 n:Nat
 n':Nat
abbrev BX:=Nat→Option Info
def Ext (ρ ρ':BX):Prop:=∀ i x,ρ i=some x→ρ' i=some x
theorem Ext.refl (ρ:BX):Ext ρ ρ:=fun _ _ h=>h
theorem Ext.trans {ρ ρ' ρ'':BX} (h:Ext ρ ρ') (k:Ext ρ' ρ''):Ext ρ ρ'':=fun i x e=>k i x (h i x e)
def Jc (ρ:BX) (a a':Addr):Prop:=a.spot=none∧∃ x,ρ a.block=some x∧a'=⟨x.b,a.off+x.o,none⟩
def Kn (ρ:BX) (r r':Nat):Prop:=∃ x,ρ r=some x∧r'=x.b
def OU (ρ:BX) (a:Addr) (c c':Nat):Prop:=c'=c∨∃ x,ρ a.block=some x∧0<x.sz∧a.off+c*x.sz=x.n∧a.off+x.o+c'*x.sz=x.n'∧c≤c'
inductive NM (ρ:BX):Fn→Fn→Prop
 | func (f:FuncId):NM ρ (.func f) (.func f)
 | yield {l l':Nat}:Kn ρ l l'→NM ρ (.yield l) (.yield l')
 | method (s:String):NM ρ (.method s) (.method s)
 | methodOf (t:TypeId) (s:String):NM ρ (.methodOf t s) (.methodOf t s)
 | via (t:TypeId) (p:Array FieldStep) (f:FuncId) (b:Bool):NM ρ (.via t p f b) (.via t p f b)
inductive AM (ρ:BX):Value→Value→Prop
 | bool (b:Bool):AM ρ (.bool b) (.bool b)
 | int (k:IntKind) (n:Int):AM ρ (.int k n) (.int k n)
 | float (k:FloatKind) (n:Nat):AM ρ (.float k n) (.float k n)
 | complex (k:FloatKind) (n m:Nat):AM ρ (.complex k n m) (.complex k n m)
 | string (s:ByteArray):AM ρ (.string s) (.string s)
 | sC:AM ρ (.pointer none) (.pointer none)
 | ptr {a a':Addr}:Jc ρ a a'→AM ρ (.pointer (some a)) (.pointer (some a'))
 | Xx (n c:Nat):AM ρ (.slice none n c) (.slice none n c)
 | slice {a a':Addr} (n:Nat) {c c':Nat}:Jc ρ a a'→OU ρ a c c'→AM ρ (.slice (some a) n c) (.slice (some a') n c')
 | HH {a a':Addr}:a.spot=some 0→AM ρ (.slice (some a) 0 0) (.slice (some a') 0 0)
 | Ig {a a':Addr} {c':Nat} {x:Info}:a.spot=none→ρ a.block=some x→a'.block=x.b→a'.spot=none→(c'=0∨(0<x.sz∧a'.off+c'*x.sz=x.n'))→AM ρ (.slice (some a) 0 0) (.slice (some a') 0 c')
 | sD:AM ρ (.map none) (.map none)
 | map {r r':Nat}:Kn ρ r r'→AM ρ (.map (some r)) (.map (some r'))
 | sE:AM ρ (.chan none) (.chan none)
 | func {f f':Fn} {x x' y y':Array Value}:NM ρ f f'→x.size=x'.size→(∀ i,i<x.size→AM ρ (x.getD i undef) (x'.getD i undef)) →
   y.size=y'.size→(∀ i,i<y.size→AM ρ (y.getD i undef) (y'.getD i undef))→AM ρ (.func f x y) (.func f' x' y')
 | nilFunc:AM ρ .nilFunc .nilFunc
 | iface (t:TypeId) {v v':Value}:AM ρ v v'→AM ρ (.iface t v) (.iface t v')
 | nilIface:AM ρ .nilIface .nilIface
 | agg {x x':Array Value}:x.size=x'.size→(∀ i,i<x.size→AM ρ (x.getD i undef) (x'.getD i undef))→AM ρ (.agg x) (.agg x')
 | tuple {x x':Array Value}:x.size=x'.size→(∀ i,i<x.size→AM ρ (x.getD i undef) (x'.getD i undef))→AM ρ (.tuple x) (.tuple x')
theorem Jc.mono {ρ ρ':BX} {a a':Addr} (h:Jc ρ a a') (e:Ext ρ ρ'):Jc ρ' a a' :=
 ⟨h.1,let ⟨x,hx,h'⟩:=h.2; ⟨x,e _ _ hx,h'⟩⟩
theorem Kn.mono {ρ ρ':BX} {a a':Nat} (h:Kn ρ a a') (e:Ext ρ ρ'):Kn ρ' a a':=let ⟨x,hx,h'⟩:=h; ⟨x,e _ _ hx,h'⟩
theorem OU.mono {ρ ρ':BX} {a:Addr} {c c':Nat} (h:OU ρ a c c') (e:Ext ρ ρ'):OU ρ' a c c' :=
 h.imp id fun ⟨x,hx,h'⟩=>⟨x,e _ _ hx,h'⟩
theorem NM.mono {ρ ρ':BX} {f f':Fn} (h:NM ρ f f') (e:Ext ρ ρ'):NM ρ' f f':=by
 cases h with
 | yield h=>exact .yield (h.mono e)
 | func f=>exact .func f
 | method s=>exact .method s
 | methodOf t s=>exact .methodOf t s
 | via t p f b=>exact .via t p f b
theorem AM.mono {ρ ρ':BX} {v v':Value} (h:AM ρ v v') (e:Ext ρ ρ'):AM ρ' v v':=by
 induction h with
 | bool b=>exact .bool b
 | int k n=>exact .int k n
 | float k n=>exact .float k n
 | complex k n m=>exact .complex k n m
 | string s=>exact .string s
 | sC=>exact .sC
 | ptr h=>exact .ptr (h.mono e)
 | Xx n c=>exact .Xx n c
 | slice n h h'=>exact .slice n (h.mono e) (h'.mono e)
 | HH a=>exact .HH a
 | Ig q a b c d=>exact .Ig q (e _ _ a) b c d
 | sD=>exact .sD
 | map h=>exact .map (h.mono e)
 | sE=>exact .sE
 | func hf hx _ hy _ Vv Vw=>exact .func (hf.mono e) hx Vv hy Vw
 | nilFunc=>exact .nilFunc
 | iface t _ ih=>exact .iface t ih
 | nilIface=>exact .nilIface
 | agg hx _ ih=>exact .agg hx ih
 | tuple hx _ ih=>exact .tuple hx ih
theorem AM.undef (ρ:BX):AM ρ undef undef:=.tuple rfl fun i h=>by simp at h
theorem AM.NN (ρ:BX):∀ (n:Nat) (v:Value),Ee n v=true→AM ρ v v:=by
 intro n
 induction n with
 | zero=>intro v h; simp [Ee] at h
 | succ n ih =>
  intro v h
  have all:∀ x:Array Value,x.toList.all (Ee n)=true→∀ i,i<x.size→AM ρ (x.getD i Go.undef) (x.getD i Go.undef):=by
   intro x hx i hi; rw [List.all_eq_true] at hx; have e:x.getD i Go.undef=x[i]:=by simp [Array.getD,hi]
   rw [e]; exact ih _ (hx _ (by simp))
  cases v with
  | bool b=>exact .bool b
  | int k m=>exact .int k m
  | float k m=>exact .float k m
  | complex k m l=>exact .complex k m l
  | string s=>exact .string s
  | pointer a=>cases a with
   | none=>exact .sC
   | some a=>simp [Ee] at h
  | slice a l c=>cases a with
   | none=>exact .Xx l c
   | some a=>simp [Ee] at h
  | map r=>cases r with
   | none=>exact .sD
   | some a=>simp [Ee] at h
  | chan r=>cases r with
   | none=>exact .sE
   | some a=>simp [Ee] at h
  | func f x y=>simp [Ee] at h
  | nilFunc=>exact .nilFunc
  | iface t v=>exact .iface t (ih v (by simpa only [Ee] using h))
  | nilIface=>exact .nilIface
  | agg x=>exact .agg rfl (all x (by simpa only [Ee] using h))
  | tuple x=>exact .tuple rfl (all x (by simpa only [Ee] using h))
theorem AM.one {ρ:BX} {v v':Value} (h:AM ρ v v'):BB v'=BB v:=by cases h <;> rfl
def Aj (ρ:BX) (xs ys:List Value):Prop:=xs.length=ys.length∧∀ i,i<xs.length→AM ρ (xs.getD i undef) (ys.getD i undef)
theorem Aj.nil (ρ:BX):Aj ρ [] []:=⟨rfl,fun i h=>by simp at h⟩
theorem Aj.cons {ρ:BX} {x y:Value} {xs ys:List Value} (h:AM ρ x y) (k:Aj ρ xs ys):Aj ρ (x::xs) (y::ys) :=
 ⟨by simp [k.1],fun i hi=>by
  cases i with
  | zero=>exact h
  | succ i=>exact k.2 i (by simpa using hi)⟩
theorem Aj.head {ρ:BX} {x y:Value} {xs ys:List Value} (h:Aj ρ (x::xs) (y::ys)):AM ρ x y:=h.2 0 (by simp)
theorem Aj.tail {ρ:BX} {x y:Value} {xs ys:List Value} (h:Aj ρ (x::xs) (y::ys)):Aj ρ xs ys :=
 ⟨by simpa using h.1,fun i hi=>h.2 (i+1) (by simpa using hi)⟩
theorem Aj.mono {ρ ρ':BX} {xs ys:List Value} (h:Aj ρ xs ys) (e:Ext ρ ρ'):Aj ρ' xs ys:=⟨h.1,fun i hi=>(h.2 i hi).mono e⟩
theorem Aj.append {ρ:BX} {xs ys M9 Q9:List Value} (h:Aj ρ xs ys) (k:Aj ρ M9 Q9):Aj ρ (xs++M9) (ys++Q9):=by
 induction xs generalizing ys with
 | nil=>cases ys with
  | nil=>exact k
  | cons y ys=>simpa using h.1
 | cons x xs ih=>cases ys with
  | nil=>simpa using h.1
  | cons y ys=>exact .cons h.head (ih h.tail)
theorem Aj.map {ρ:BX} {α:Type} (xs:List α) (f g:α→Value) (h:∀ x,x ∈ xs→AM ρ (f x) (g x)):Aj ρ (xs.map f) (xs.map g):=by
 induction xs with
 | nil=>exact .nil ρ
 | cons x xs ih=>exact .cons (h x (by simp)) (ih fun y hy=>h y (by simp [hy]))
theorem Aj.get {ρ:BX} {xs ys:List Value} (h:Aj ρ xs ys) {i:Nat} {x:Value} (hx:xs[i]?=some x):∃ y,ys[i]?=some y∧AM ρ x y:=by
 obtain ⟨hi,e⟩:=List.getElem?_eq_some_iff.1 hx; have IH:i<ys.length:=h.1 ▸ hi; refine ⟨ys[i],by simp [IH],?_⟩; have:=h.2 i hi; simp only [List.getD_eq_getElem?_getD,hx,List.getElem?_eq_getElem IH,Option.getD_some] at this; exact this
theorem Aj.arr {ρ:BX} {x x':Array Value}:Aj ρ x.toList x'.toList↔(x.size=x'.size∧∀ i,i<x.size→AM ρ (x.getD i undef) (x'.getD i undef)):=by
 unfold Aj; simp only [Array.length_toList,Array.getD_eq_getD_getElem?,List.getD_eq_getElem?_getD,Array.getElem?_toList]
theorem AM.Xy {ρ:BX} {x x':Array Value} (h:Aj ρ x.toList x'.toList):AM ρ (.agg x) (.agg x'):=.agg (Aj.arr.1 h).1 (Aj.arr.1 h).2
theorem AM.tuple' {ρ:BX} {x x':Array Value} (h:Aj ρ x.toList x'.toList):AM ρ (.tuple x) (.tuple x'):=.tuple (Aj.arr.1 h).1 (Aj.arr.1 h).2
theorem AM.Ep {ρ:BX} {x:Array Value} {v:Value} (h:AM ρ (.agg x) v):∃ x',v=.agg x'∧Aj ρ x.toList x'.toList:=by
 cases h with | agg e k=>exact ⟨_,rfl,Aj.arr.2 ⟨e,k⟩⟩
theorem AM.fX {ρ:BX} {x:Array Value} {v:Value} (h:AM ρ (.tuple x) v):∃ x',v=.tuple x'∧Aj ρ x.toList x'.toList:=by
 cases h with | tuple e k=>exact ⟨_,rfl,Aj.arr.2 ⟨e,k⟩⟩
theorem AM.cells {ρ:BX} {v v':Value} (h:AM ρ v v'):Aj ρ v.cells.toList v'.cells.toList:=by
 cases h <;> first
  | exact .cons (by first | (constructor <;> assumption) | (apply AM.Ig <;> assumption) | (apply AM.HH <;> assumption)) (.nil ρ)
  | (rename_i e k; exact Aj.arr.2 ⟨e,k⟩)
end Go.Ce
namespace Go.Ce
open Go.RowKit (Below)
inductive Vx (ρ:BX):MapEntry→MapEntry→Prop
 | mk {k v k' v':Value} (b:Nat):AM ρ k k'→AM ρ v v'→Vx ρ ⟨k,v,b⟩ ⟨k',v',b⟩
def Bc (ρ:BX):List MapEntry→List MapEntry→Prop
 | [],[]=>True
 | e::es,e'::By=>Vx ρ e e'∧Bc ρ es By
 | _,_=>False
theorem Vx.mono {ρ ρ':BX} {e e':MapEntry} (h:Vx ρ e e') (x:Ext ρ ρ'):Vx ρ' e e':=by
 cases h with | mk b hk hv=>exact .mk b (hk.mono x) (hv.mono x)
theorem Bc.mono {ρ ρ':BX} (x:Ext ρ ρ'):∀ {es By:List MapEntry},Bc ρ es By→Bc ρ' es By
 | [],[],_=>trivial
 | _::_,_::_,h=>⟨h.1.mono x,Bc.mono x h.2⟩
 | [],_::_,h=>h.elim
 | _::_,[],h=>h.elim
def NF (fr:Nat × Nat) (n:Nat):Prop:=∀ k,k<n→(decide (fr.1≤k) && decide (k<fr.2))=false
theorem NF.zero (n:Nat):NF (0,0) n:=fun k _=>by simp
inductive G4 (P:Program) (ρ:BX) (x:Info):As→Obj→Prop
 | cells {c:Tr Value} {z:Array Value} {e:TypeId} {c':Array Value} {fr:Nat × Nat}:(P.info? e).map (·.size)=some x.sz→c'.size=x.n'→x.o+x.n≤x.n' →
   (∀ k,k<x.n→AM ρ (cellAt c z k) (c'.getD (k+x.o) undef))→(NF fr c'.size∧(z.size≠0→x.o=0∧x.n=x.n'))→G4 P ρ x (.cells c x.n z e) (.cells c' e fr)
 | fixed {f:Nat→Value} {e e':TypeId} {c':Array Value} {fr:Nat × Nat}:(P.info? e).map (·.size)=some x.sz→c'.size=x.n'→x.o+x.n≤x.n' →
   (∀ k,k<x.n→AM ρ (f k) (c'.getD (k+x.o) undef))→G4 P ρ x (.fixed f x.n e) (.cells c' e' fr)
 | map {es:List MapEntry} {By:Array MapEntry} {Dq:Nat}:x.o=0→Bc ρ es By.toList→G4 P ρ x (.map es Dq) (.map By Dq)
 | NO {s l:Nat} {seen:List Nat} {xu:Array Nat}:x.o=0→G4 P ρ x (.iter none s seen l) (.mapIter none s xu l)
 | iter {m m' s l:Nat} {seen:List Nat}:x.o=0→Kn ρ m m'→G4 P ρ x (.iter (some m) s seen l) (.mapIter (some m') s seen.toArray l)
 | loop {st:LoopState} {pd:Option Code} {f f':FuncId} {t:Tr Value} {t':Array Value} {ps:Array Tmp} {as bd:Code} {d d':Nat} :
   (∀ i,AM ρ ((t.get i).getD undef) (t'.getD i undef))→Kn ρ d d'→(xp t'.size ps=true∧codeOk P t'.size true as=true∧codeOk P t'.size true bd=true)→(∃ fn,P.funcs[f']?=some fn) →
   G4 P ρ x (.loop st pd f t t'.size ps as bd d) (.loop { state:=st,pending:=pd,fn:=f',tmps:=t',params:=ps,assign:=as,body:=bd,defers:=d' })
 | deferred:G4 P ρ x .deferred (.deferred (some []))
theorem G4.mono {P:Program} {ρ ρ':BX} {x:Info} {o:As} {o':Obj} (h:G4 P ρ x o o') (e:Ext ρ ρ'):G4 P ρ' x o o':=by
 cases h with
 | cells a b c d q=>exact .cells a b c (fun k hk=>(d k hk).mono e) q
 | fixed a b c d=>exact .fixed a b c fun k hk=>(d k hk).mono e
 | map a b=>exact .map a (b.mono e)
 | NO a=>exact .NO a
 | iter a b=>exact .iter a (b.mono e)
 | loop a b c d=>exact .loop (fun i=>(a i).mono e) (b.mono e) c d
 | deferred=>exact .deferred
structure AW (P:Program) (w0:World) (ρ:BX) (W:CW) (w:World):Prop where
 Q_:∀ i x,ρ i=some x→i<W.sz
 top:∀ i o,W.h.get i=some o→i<W.sz
 live:∀ i o x,W.h.get i=some o→o≠.dead→ρ i=some x→∃ o',w.heap[x.b]?=some o'∧G4 P ρ x o o'∧(o.mut=true→w0.heap.size≤x.b)∧(o.mut=false→x.b<w0.heap.size)
 inj:∀ i j o u x y,W.h.get i=some o→o.mut=true→W.h.get j=some u→u.mut=true→ρ i=some x→ρ j=some y→x.b=y.b→i=j
 below:Below w0.heap.size w0 w
section
variable {P:Program} {w0:World} {ρ:BX} {W:CW} {w:World}
theorem AW.drew (h:AW P w0 ρ W w) (n:Nat):AW P w0 ρ W { w with drawn:=n } :=
 ⟨h.Q_,h.top,h.live,h.inj,⟨h.below.os,h.below.tape,h.below.output,h.below.size,h.below.block⟩⟩
theorem AW.obj (h:AW P w0 ρ W w) {i:Nat} {o:As} (ho:W.obj i=some o) (hd:o≠.dead) {a':Nat} {x:Info} (hx:ρ i=some x) (hb:a'=x.b) :
  ∃ o',w.heap[a']?=some o'∧G4 P ρ x o o':=by
 obtain ⟨o',G5,hr,_⟩:=h.live i o x ho hd hx; subst hb; exact ⟨o',G5,hr⟩
def Dc (W:CW) (ρ:BX) (W1:CW) (ρ':BX):Prop:=Ext ρ ρ'∧(∀ i,i<W.sz→ρ' i=ρ i)∧W.sz≤W1.sz
theorem Dc.refl {W W1:CW} (ρ:BX) (h:W.sz≤W1.sz:=by exact Nat.le_refl _):Dc W ρ W1 ρ:=⟨Ext.refl ρ,fun _ _=>rfl,h⟩
theorem Dc.ext {W W1:CW} {ρ ρ':BX} (h:Dc W ρ W1 ρ'):Ext ρ ρ':=h.1
theorem Dc.trans {W W1 W2:CW} {ρ ρ' ρ'':BX} (h:Dc W ρ W1 ρ') (k:Dc W1 ρ' W2 ρ''):Dc W ρ W2 ρ'' :=
 ⟨h.1.trans k.1,fun i hi=>by rw [k.2.1 i (Nat.lt_of_lt_of_le hi h.2.2),h.2.1 i hi],Nat.le_trans h.2.2 k.2.2⟩
theorem As.Hl {o:As} (h:o.mut=true):o≠.dead:=by rintro rfl; cases h
theorem AW.new (h:AW P w0 ρ W w) {o:As} {o':Obj} (x:Info) (hb:x.b=w.heap.size)
  (hr:G4 P (fun i=>if i=W.sz then some x else ρ i) x o o') (hm:o.mut=true:=by rfl) :
  Dc W ρ (W.new o) (fun i=>if i=W.sz then some x else ρ i)∧AW P w0 (fun i=>if i=W.sz then some x else ρ i) (W.new o) { w with heap:=w.heap.push o' }:=by
 have CU:Ext ρ (fun i=>if i=W.sz then some x else ρ i):=fun i y hy=>by
  have:=h.Q_ i y hy; show (if i=W.sz then some x else ρ i)=some y; rw [if_neg (by omega)]; exact hy
 have qX:w0.heap.size≤w.heap.size:=h.below.size
 have hold:∀ i u y,W.h.get i=some u→u≠.dead→ρ i=some y→y.b<w.heap.size:=fun i u y hu hd hy=>by
  obtain ⟨o',G5,_,_⟩:=h.live i u y hu hd hy; exact (Array.getElem?_eq_some_iff.1 G5).1
 refine ⟨⟨CU,fun i hi=>by show (if i=W.sz then some x else ρ i)=ρ i; rw [if_neg (by omega)],Nat.le_succ _⟩,?_,?_,?_,?_,?_⟩
 ·intro i y hy; show i<W.sz+1
  by_cases e:i=W.sz
  ·omega
  ·have:ρ i=some y:=by simpa [e] using hy
   have:=h.Q_ i y this; omega
 ·intro i u hu; show i<W.sz+1; simp only [CW.new,Tr.BV] at hu
  split at hu
  ·omega
  ·have:=h.top i u hu; omega
 ·intro i u y hu hd hy; simp only [CW.new,Tr.BV] at hu
  split at hu
  ·rename_i e
   cases hu
   have hy:some x=some y:=by simpa [e] using hy
   cases hy
   refine ⟨o',?_,hr,fun _=>by omega,fun hf=>by rw [hm] at hf; cases hf⟩; show (w.heap.push o')[x.b]?=_; rw [hb]; simp
  ·rename_i e; have hy:ρ i=some y:=by simpa [e] using hy
   obtain ⟨u',Xd,xv,Z5⟩:=h.live i u y hu hd hy; refine ⟨u',?_,xv.mono CU,Z5⟩; have Ax:=(Array.getElem?_eq_some_iff.1 Xd).1; show (w.heap.push o')[y.b]?=_; rw [Array.getElem?_push,if_neg (by omega)]; exact Xd
 ·intro i j u v y z hu iw hv KU hy hz jX; simp only [CW.new,Tr.BV] at hu hv
  by_cases ei:i=W.sz
  ·by_cases ej:j=W.sz
   ·omega
   ·simp only [if_neg ej] at hv hz; simp only [if_pos ei,Option.some.injEq] at hy; have Ax:=hold j v z hv (As.Hl KU) hz; subst hy; omega
  ·simp only [if_neg ei] at hu hy
   by_cases ej:j=W.sz
   ·simp only [if_pos ej,Option.some.injEq] at hz; have Ax:=hold i u y hu (As.Hl iw) hy; subst hz; omega
   ·simp only [if_neg ej] at hv hz; exact h.inj i j u v y z hu iw hv KU hy hz jX
 ·exact ⟨h.below.os,h.below.tape,h.below.output,by show w0.heap.size≤(w.heap.push o').size; rw [Array.size_push]; omega,fun k hk=>by
   show (w.heap.push o')[k]?=_
   rw [Array.getElem?_push,if_neg (by omega)]; exact h.below.block k hk⟩
theorem AW.A4 (h:AW P w0 ρ W w) {i:Nat} {o u:As} {u':Obj} {x:Info} (ho:W.obj i=some o) (hd:o.mut=true) (hx:ρ i=some x)
  (hr:G4 P ρ x u u') (hm:u.mut=true:=by rfl):AW P w0 ρ (W.A4 i u) { w with heap:=w.heap.setIfInBounds x.b u' }:=by
 obtain ⟨o',G5,_,Z5,_⟩:=h.live i o x ho (As.Hl hd) hx; have Z5:=Z5 hd; have Ax:=(Array.getElem?_eq_some_iff.1 G5).1; have hi:=h.top i o ho
 refine ⟨h.Q_,?_,?_,?_,?_⟩
 ·intro j v hv; simp only [CW.A4,Tr.BV] at hv
  split at hv
  ·show j<W.sz; omega
  ·exact h.top j v hv
 ·intro j v y hv KU hy; simp only [CW.A4,Tr.BV] at hv
  split at hv
  ·rename_i e
   cases hv; subst e
   rw [hx] at hy; cases hy; refine ⟨u',?_,hr,fun _=>Z5,fun hf=>by rw [hm] at hf; cases hf⟩; show (w.heap.setIfInBounds x.b u')[x.b]?=_; simp [Ax]
  ·rename_i e; obtain ⟨v',F7,sF,iz⟩:=h.live j v y hv KU hy; refine ⟨v',?_,sF,iz⟩
   have Dp:x.b≠y.b:=fun hb=>by
    cases aK:v.mut with
    | true=>exact e (h.inj j i v o y x hv aK ho hd hy hx hb.symm)
    | false=>have:=iz.2 aK; omega
   show (w.heap.setIfInBounds x.b u')[y.b]?=_; rw [Array.getElem?_setIfInBounds_ne Dp]; exact F7
 ·intro j k v v' y z hv KU F7 Xz hy hz jX
  have get:∀ j v,(W.A4 i u).h.get j=some v→v.mut=true→∃ v0,W.h.get j=some v0∧v0.mut=true:=fun j v hv KU=>by
   simp only [CW.A4,Tr.BV] at hv
   split at hv
   ·rename_i e; subst e; exact ⟨o,ho,hd⟩
   ·exact ⟨v,hv,KU⟩
  obtain ⟨a,ha,had⟩:=get j v hv KU; obtain ⟨b,hb,Un⟩:=get k v' F7 Xz; exact h.inj j k a b y z ha had hb Un hy hz jX
 ·exact ⟨h.below.os,h.below.tape,h.below.output,by show w0.heap.size≤(w.heap.setIfInBounds x.b u').size; rw [Array.size_setIfInBounds]; exact h.below.size,fun k hk=>by
   show (w.heap.setIfInBounds x.b u')[k]?=_
   rw [Array.getElem?_setIfInBounds_ne (by omega)]; exact h.below.block k hk⟩
end
end Go.Ce
namespace Go.Ce
open Go.RowKit (Below)
section
variable {P:Program} {w:World} {b:Nat} {c:Array Value} {e:TypeId} {fr:Nat × Nat}
theorem cell_of (hb:w.heap[b]?=some (.cells c e fr)) (off:Nat):w.cell? ⟨b,off,none⟩=c[off]?:=by
 simp [World.cell?,hb]
theorem fY (hb:w.heap[b]?=some (.cells c e fr)) (hf:NF fr c.size) (off:Nat) (h:off<c.size):w.frozen? ⟨b,off,none⟩=false:=by
 simp only [World.frozen?,hb]; exact hf off h
theorem aL (hb:w.heap[b]?=some (.cells c e fr)) (off:Nat) (v:Value) :
  w.setCell ⟨b,off,none⟩ v={ w with heap:=w.heap.setIfInBounds b (.cells (c.setIfInBounds off v) e fr) }:=by
 have Ax:=(Array.getElem?_eq_some_iff.1 hb).1; have hv:=(Array.getElem?_eq_some_iff.1 hb).2; simp only [World.setCell,World.mk.injEq,and_self,and_true]; apply Array.ext_getElem?; intro i; rw [Array.getElem?_modify,Array.getElem?_setIfInBounds]
 by_cases h:b=i
 ·subst h; simp [Ax,hv]
 ·rw [if_neg h,if_neg h]
theorem Ko (b off i:Nat):(⟨b,off,none⟩:Addr).add i=⟨b,off+i,none⟩:=by
 unfold Addr.add
 split
 ·rename_i h; simp [h]
 ·rfl
def C4 (c:Array Value):Nat→Nat→List Value
 | 0,_=>[]
 | m+1,k=>c.getD k undef::C4 c m (k+1)
theorem G6 (c:Array Value):∀ m k,(C4 c m k).length=m
 | 0,_=>rfl
 | m+1,k=>by simp [C4,G6 c m]
theorem run_loadCellsFrom (hb:w.heap[b]?=some (.cells c e fr)) (off:Nat):∀ (n i:Nat) (acc:Array Value),off+i+n≤c.size →
  (loadCellsFrom ⟨b,off,none⟩ i n acc).run P w=.ok (acc++(C4 c n (off+i)).toArray) w:=by
 intro n
 induction n with
 | zero=>intro i acc _; simp [loadCellsFrom,C4]
 | succ n ih =>
  intro i acc h
  have hc:c[off+i]?=some (c.getD (off+i) undef):=by
   have:off+i<c.size:=by omega
   simp [Array.getD,this]
  simp only [loadCellsFrom,Sem.run_bind,run_load,Ko,cell_of hb,hc,Result.andThen_ok]; rw [ih (i+1) _ (by omega)]; simp only [C4]; congr 1; apply Array.ext'; simp [Nat.add_assoc]
theorem run_loadCells (hb:w.heap[b]?=some (.cells c e fr)) (off n:Nat) (h:off+n≤c.size) :
  (loadCells ⟨b,off,none⟩ n).run P w=.ok (C4 c n off).toArray w:=by
 have:=run_loadCellsFrom (P:=P) hb off n 0 #[] (by omega)
 simpa [loadCells] using this
def FT (c:Array Value):Nat→List Value→Array Value
 | _,[]=>c
 | k,v::vs=>FT (c.setIfInBounds k v) (k+1) vs
theorem F8:∀ (vs:List Value) (c:Array Value) (k:Nat),(FT c k vs).size=c.size
 | [],_,_=>rfl
 | v::vs,c,k=>by simp [FT,F8 vs]
theorem PW:∀ (vs:List Value) (c:Array Value) (k j:Nat),k+vs.length≤c.size →
  (FT c k vs).getD j undef=if k≤j∧j<k+vs.length then vs.getD (j-k) undef else c.getD j undef:=by
 intro vs
 induction vs with
 | nil=>intro c k j _; simp only [FT,List.length_nil,Nat.add_zero]; rw [if_neg (by omega)]
 | cons v vs ih =>
  intro c k j h; simp only [List.length_cons] at h; rw [FT,ih _ _ _ (by simp; omega)]; simp only [List.length_cons]
  by_cases h1:k+1≤j∧j<k+1+vs.length
  ·rw [if_pos h1,if_pos (by omega)]; obtain ⟨m,rfl⟩:∃ m,j=k+(m+1):=⟨j-k-1,by omega⟩
   have e1:k+(m+1)-(k+1)=m:=by omega
   have e2:k+(m+1)-k=m+1:=by omega
   rw [e1,e2]; simp
  ·rw [if_neg h1]
   by_cases ej:j=k
   ·subst ej; have:j<c.size:=by omega
    simp [Array.getD_eq_getD_getElem?,this]
   ·rw [if_neg (by omega)]; simp only [Array.getD_eq_getD_getElem?]; rw [Array.getElem?_setIfInBounds_ne (by omega)]
theorem aM {v:Value} (h:BB v=true):v.oneCell'=true:=by cases v <;> simp_all [BB,Value.oneCell']
theorem Ef (off:Nat):∀ (vs:List Value) (i:Nat) (w:World) (c:Array Value),w.heap[b]?=some (.cells c e fr)→NF fr c.size→off+i+vs.length≤c.size→vs.all BB=true →
  (storeCells ⟨b,off,none⟩ vs i).run P w=.ok () { w with heap:=w.heap.setIfInBounds b (.cells (FT c (off+i) vs) e fr) }:=by
 intro vs
 induction vs with
 | nil =>
  intro i w c hb _ _ _; have Ax:=(Array.getElem?_eq_some_iff.1 hb).1; have hv:=(Array.getElem?_eq_some_iff.1 hb).2; simp only [storeCells,Sem.run_pure,FT]; congr 1
  have:w.heap.setIfInBounds b (.cells c e fr)=w.heap:=by
   apply Array.ext_getElem?; intro j; rw [Array.getElem?_setIfInBounds]
   by_cases h:b=j
   ·subst h; simp [Ax,hv]
   ·rw [if_neg h]
  rw [this]
 | cons v vs ih =>
  intro i w c hb aN h Bq; simp only [List.length_cons] at h; simp only [List.all_cons,Bool.and_eq_true] at Bq
  have hc:c[off+i]?=some (c.getD (off+i) undef):=by
   have:off+i<c.size:=by omega
   simp [Array.getD,this]
  have Ax:=(Array.getElem?_eq_some_iff.1 hb).1; simp only [storeCells,Sem.run_bind,Ko]; rw [run_store P w _ v _ (aM Bq.1)]; simp only [cell_of hb,hc,fY hb aN (off+i) (by omega),Bool.false_eq_true,if_false,Result.andThen_ok,aL hb]; rw [ih (i+1) _ (c.setIfInBounds (off+i) v) (by simp [Ax]) (by simpa using aN) (by simp; omega) Bq.2]; simp [FT,Nat.add_assoc]
theorem run_underlying (t:TypeId) (w:World):(underlying t).run P w=match P.underlying t with | some d=>.ok d w | none=>.halt (.stuck "no such type") w:=by
 simp only [underlying,Sem.run_bind,run_program,Result.andThen_ok]
 cases P.underlying t <;> rfl
theorem AF {t:TypeId} {d:TypeDesc} (h:P.underlying t=some d) (w:World):(underlying t).run P w=.ok d w:=by rw [run_underlying,h]
theorem Gf {t:TypeId} {i:TypeInfo} (h:P.info? t=some i) (w:World):(typeInfo t).run P w=.ok i w:=by
 simp only [typeInfo,Sem.run_bind,run_program,Result.andThen_ok,h]; rfl
theorem A8 {t:TypeId} {n:Nat} (h:DC P t=some n) (w:World):(sizeOf t).run P w=.ok n w:=by
 unfold DC at h
 cases hi:P.info? t with
 | none=>simp [hi] at h
 | some i=>simp only [hi,Option.map_some,Option.some.injEq] at h; simp [sizeOf,Gf hi,h]
theorem BO {t:TypeId} {z:Value} (h:GP P t=some z) (w:World):(zeroValue t).run P w=.ok z w:=by
 unfold GP at h
 cases hi:P.info? t with
 | none=>simp [hi] at h
 | some i =>
  simp only [hi,Option.bind_some,cond_eq_ite] at h
  split at h
  ·simp [zeroValue,Gf hi,h]
  ·cases h
theorem Eg {t:TypeId} {x:Bool} (h:agg? P t=some x) (w:World):(isAgg t).run P w=.ok x w:=by
 unfold agg? at h
 cases hd:P.underlying t with
 | none=>simp [hd] at h
 | some d =>
  simp only [hd,Option.map_some,Option.some.injEq] at h; subst h; simp only [isAgg,Sem.run_bind,AF hd,Result.andThen_ok]
  cases d <;> rfl
end
section
variable {P:Program} {w0:World} {ρ:BX} {W:CW} {w:World}
theorem Jd (c:Array Value):∀ (m k i:Nat),i<m→(C4 c m k).getD i undef=c.getD (k+i) undef
 | 0,_,_,h=>by omega
 | m+1,k,0,_=>by simp [C4]
 | m+1,k,i+1,h=>by
  have:=Jd c m (k+1) i (by omega); simp only [C4,List.getD_cons_succ,this]; congr 1; omega
theorem FI (c:Tr Value) (z:Array Value):∀ (m k i:Nat),i<m→(BJ c z m k).getD i undef=cellAt c z (k+i)
 | 0,_,_,h=>by omega
 | m+1,k,0,_=>by simp [BJ]
 | m+1,k,i+1,h=>by
  have:=FI c z m (k+1) i (by omega); simp only [BJ,List.getD_cons_succ,this]; congr 1; omega
theorem Au (c:Tr Value) (z:Array Value):∀ m k,(BJ c z m k).length=m
 | 0,_=>rfl
 | m+1,k=>by simp [BJ,Au c z m]
theorem X0 {c:Tr Value} {z:Array Value} {c':Array Value} {n o:Nat} (h:∀ k,k<n→AM ρ (cellAt c z k) (c'.getD (k+o) undef)) (m k:Nat) (hm:k+m≤n) :
  Aj ρ (BJ c z m k) (C4 c' m (k+o)):=by
 refine ⟨by rw [Au,G6],fun i hi=>?_⟩; rw [Au] at hi; rw [FI _ _ _ _ _ hi,Jd _ _ _ _ hi]; have:=h (k+i) (by omega); have e:k+i+o=k+o+i:=by omega
 rwa [e] at this
theorem R0 (c:Tr Value) (z:Array Value) (vs:List Value) (k j:Nat) :
  cellAt (c.AZ k vs) z j=if k≤j∧j<k+vs.length then vs.getD (j-k) undef else cellAt c z j:=by
 unfold cellAt; rw [Tr.IG]
 by_cases h:k≤j∧j<k+vs.length
 ·rw [if_pos h,if_pos h]; have:j-k<vs.length:=by omega
  simp [List.getD_eq_getElem?_getD,this]
 ·rw [if_neg h,if_neg h]
theorem G4.write {fr:Nat × Nat} {x:Info} {c:Tr Value} {z:Array Value} {e:TypeId} {c':Array Value} {n:Nat} (h:G4 P ρ x (.cells c n z e) (.cells c' e fr)) {vs vs':List Value} (hv:Aj ρ vs vs') {k:Nat}
  (hk:k+vs.length≤n):G4 P ρ x (.cells (c.AZ k vs) n z e) (.cells (FT c' (k+x.o) vs') e fr):=by
 cases h with
 | cells he hs ho hc hq =>
  refine .cells he (by rw [F8]; exact hs) ho (fun j hj=>?_) (by rw [F8]; exact hq); rw [R0,PW _ _ _ _ (by rw [←hv.1]; omega),←hv.1]
  by_cases h:k≤j∧j<k+vs.length
  ·rw [if_pos h,if_pos (by omega)]; have e:j+x.o-(k+x.o)=j-k:=by omega
   rw [e]; exact hv.2 _ (by omega)
  ·rw [if_neg h,if_neg (by omega)]; exact hc j hj
theorem AW.cells (h:AW P w0 ρ W w) {a a':Addr} (ha:Jc ρ a a') {c:Tr Value} {n:Nat} {z:Array Value} {e:TypeId} (ho:W.obj a.block=some (.cells c n z e)) :
  ∃ x c' fr,ρ a.block=some x∧a'=⟨x.b,a.off+x.o,none⟩∧w.heap[x.b]?=some (.cells c' e fr)∧NF fr c'.size∧G4 P ρ x (.cells c n z e) (.cells c' e fr)∧x.n=n∧c'.size=x.n'∧x.o+n≤x.n' ∧
   (P.info? e).map (·.size)=some x.sz∧(∀ k,k<n→AM ρ (cellAt c z k) (c'.getD (k+x.o) undef)):=by
 obtain ⟨_,x,hx,rfl⟩:=ha; obtain ⟨o',G5,hr⟩:=h.obj ho (by simp) hx rfl
 cases hr with
 | cells he hs aO hc hq=>exact ⟨x,_,_,hx,rfl,G5,hq.1,.cells he hs aO hc hq,rfl,hs,aO,he,hc⟩
theorem AW.fixed (h:AW P w0 ρ W w) {a a':Addr} (ha:Jc ρ a a') {f:Nat→Value} {n:Nat} {e:TypeId} (ho:W.obj a.block=some (.fixed f n e)) :
  ∃ x c' e' fr,ρ a.block=some x∧a'=⟨x.b,a.off+x.o,none⟩∧w.heap[x.b]?=some (.cells c' e' fr)∧x.n=n∧c'.size=x.n'∧x.o+n≤x.n' ∧
   (P.info? e).map (·.size)=some x.sz∧(∀ k,k<n→AM ρ (f k) (c'.getD (k+x.o) undef)):=by
 obtain ⟨_,x,hx,rfl⟩:=ha; obtain ⟨o',G5,hr⟩:=h.obj ho (by simp) hx rfl
 cases hr with
 | fixed he hs aO hc=>exact ⟨x,_,_,_,hx,rfl,G5,rfl,hs,aO,he,hc⟩
theorem Di (f:Nat→Value):∀ m k,(Dw f m k).length=m
 | 0,_=>rfl
 | m+1,k=>by simp [Dw,Di f m]
theorem Kq (f:Nat→Value):∀ (m k i:Nat),i<m→(Dw f m k).getD i undef=f (k+i)
 | 0,_,_,h=>by omega
 | m+1,k,0,_=>rfl
 | m+1,k,i+1,h=>by
  have:=Kq f m (k+1) i (by omega); simp only [Dw,List.getD_cons_succ,this]; congr 1; omega
theorem PX {f:Nat→Value} {c':Array Value} {n o:Nat} (h:∀ k,k<n→AM ρ (f k) (c'.getD (k+o) undef)) (m k:Nat) (hm:k+m≤n) :
  Aj ρ (Dw f m k) (C4 c' m (k+o)) :=
 ⟨by rw [Di,G6],fun i hi=>by
  rw [Di] at hi; rw [Kq _ _ _ _ hi,Jd _ _ _ _ hi]; have:=h (k+i) (by omega); have e:k+i+o=k+o+i:=by omega
  rwa [e] at this⟩
theorem PY (h:AW P w0 ρ W w) {t:TypeId} {a a':Addr} {v:Value} (ha:Jc ρ a a') (hl:IC P t a W=some v) :
  ∃ v',(loadVar t a').run P w=.ok v' w∧AM ρ v v':=by
 unfold IC at hl
 split at hl
 ·rename_i c n z e ho; obtain ⟨x,c',fr,hx,rfl,hb,_,_,_,hs,aO,_,hc⟩:=h.cells ha ho
  split at hl
  ·rename_i aP
   split at hl
   ·rename_i m hm; rw [cond_eq_ite] at hl
    split at hl
    ·rename_i hle; have hle:=Nat.le_of_ble_eq_true hle
     cases hl
     refine ⟨.agg (C4 c' m (a.off+x.o)).toArray,?_,.Xy (by simpa using X0 hc m a.off hle)⟩; simp only [loadVar,Sem.run_bind,Eg aP,Result.andThen_ok,if_true,A8 hm]; rw [run_loadCells hb _ _ (by omega)]; rfl
    ·cases hl
   ·cases hl
  ·rename_i aP; rw [cond_eq_ite] at hl
   split at hl
   ·rename_i Ax; have Ax:a.off<n:=by have:=Nat.le_of_ble_eq_true Ax; omega
    cases hl
    refine ⟨c'.getD (a.off+x.o) undef,?_,hc _ Ax⟩
    have:c'[a.off+x.o]?=some (c'.getD (a.off+x.o) undef):=by
     have:a.off+x.o<c'.size:=by omega
     simp [Array.getD,this]
    simp only [loadVar,Sem.run_bind,Eg aP,Result.andThen_ok,Bool.false_eq_true,if_false,run_load,cell_of hb,this]
   ·cases hl
  ·cases hl
 ·rename_i f n e ho; obtain ⟨x,c',e',fr,hx,rfl,hb,_,hs,aO,_,hc⟩:=h.fixed ha ho
  split at hl
  ·rename_i aP
   split at hl
   ·rename_i m hm; rw [cond_eq_ite] at hl
    split at hl
    ·rename_i hle; have hle:=Nat.le_of_ble_eq_true hle
     cases hl
     refine ⟨.agg (C4 c' m (a.off+x.o)).toArray,?_,.Xy (by simpa using PX hc m a.off hle)⟩; simp only [loadVar,Sem.run_bind,Eg aP,Result.andThen_ok,if_true,A8 hm]; rw [run_loadCells hb _ _ (by omega)]; rfl
    ·cases hl
   ·cases hl
  ·rename_i aP; rw [cond_eq_ite] at hl
   split at hl
   ·rename_i Ax; have Ax:a.off<n:=by have:=Nat.le_of_ble_eq_true Ax; omega
    cases hl
    refine ⟨c'.getD (a.off+x.o) undef,?_,hc _ Ax⟩
    have:c'[a.off+x.o]?=some (c'.getD (a.off+x.o) undef):=by
     have:a.off+x.o<c'.size:=by omega
     simp [Array.getD,this]
    simp only [loadVar,Sem.run_bind,Eg aP,Result.andThen_ok,Bool.false_eq_true,if_false,run_load,cell_of hb,this]
   ·cases hl
  ·cases hl
 ·cases hl
theorem fZ {v v':Value} (h:AM ρ v v') (hc:v.cells.toList.all BB=true):v'.cells.toList.all BB=true:=by
 have hl:=h.cells; rw [List.all_eq_true] at hc ⊢; intro y hy; obtain ⟨i,hi,rfl⟩:=List.getElem_of_mem hy; have IH:i<v.cells.toList.length:=hl.1 ▸ hi; have:=hl.2 i IH; simp only [List.getD_eq_getElem?_getD,List.getElem?_eq_getElem hi,List.getElem?_eq_getElem IH,Option.getD_some] at this; rw [this.one]; exact hc _ (List.getElem_mem IH)
theorem NP (h:AW P w0 ρ W w) {t:TypeId} {a a':Addr} {v v':Value} (ha:Jc ρ a a') (hv:AM ρ v v') {c:Tr Value} {n:Nat} {z:Array Value} {e:TypeId} {m:Nat}
  (ho:W.obj a.block=some (.cells c n z e)) (hm:DC P t=some m) (HV:v.cells.size=m) (hle:a.off+m≤n) (Mo:v.cells.toList.all BB=true) :
  ∃ w',(storeVar t a' v').run P w=.ok () w'∧AW P w0 ρ (W.A4 a.block (.cells (c.AZ a.off v.cells.toList) n z e)) w':=by
 obtain ⟨x,c',fr,hx,rfl,hb,aN,hr,_,hs,aO,_,hc⟩:=h.cells ha ho; have hl:=hv.cells; have L5:v'.cells.size=m:=by have:=hl.1; simp at this; omega
 refine ⟨{ w with heap:=w.heap.setIfInBounds x.b (.cells (FT c' (a.off+x.o) v'.cells.toList) e fr) },?_,?_⟩
 ·simp only [storeVar,Sem.run_bind,A8 hm,Result.andThen_ok,L5,ne_eq,not_true,if_false]; have:=Ef (P:=P) (a.off+x.o) v'.cells.toList 0 w c' hb aN (by simp; omega) (fZ hv Mo)
  simpa using this
 ·exact h.A4 ho rfl hx (hr.write hl (by simp; omega))
theorem Vy (h:AW P w0 ρ W w) {t:TypeId} {a a':Addr} {v v':Value} {W1:CW} (ha:Jc ρ a a') (hv:AM ρ v v') (hl:Ic P t a v W=some W1) :
  ∃ w',(storeVar t a' v').run P w=.ok () w'∧AW P w0 ρ W1 w':=by
 unfold Ic at hl
 split at hl
 ·rename_i c n z e ho
  split at hl
  ·rename_i cs
   split at hl
   ·rename_i m hm; rw [cond_eq_ite] at hl
    split at hl
    ·rename_i BE; simp only [Bool.and_eq_true] at BE
     cases hl
     exact NP h ha hv ho hm (Nat.eq_of_beq_eq_true BE.1.1) (Nat.le_of_ble_eq_true BE.1.2) BE.2
    ·cases hl
   ·cases hl
  ·cases hl
  ·rename_i hna MM
   split at hl
   ·rename_i m hm; rw [cond_eq_ite] at hl
    split at hl
    ·rename_i BE; simp only [Bool.and_eq_true] at BE
     cases hl
     have Mo:BB v=true:=by cases v <;> first | rfl | exact (hna _ rfl).elim | exact (MM _ rfl).elim
     have Kr:v.cells=#[v]:=by cases v <;> first | rfl | exact (hna _ rfl).elim
     have Z6:=Nat.eq_of_beq_eq_true BE.1; have Ax:a.off<n:=by have:=Nat.le_of_ble_eq_true BE.2; omega
     have:=NP h ha hv ho hm (by rw [Kr]; simp [Z6]) (by omega) (by rw [Kr]; simp [Mo]); rw [Kr] at this; exact this
    ·cases hl
   ·cases hl
 ·cases hl
end
end Go.Ce
namespace Go.Ce
open Go.RowKit (Below)
def EX (P:Program):Prop:=∀ f fn,P.funcs[f]?=some fn→fn.body.isNone=true→(fn.name == "maps.clone")=true→∀ args w v w',(Extern.MapsClone.clone args).run P w=.ok v w'→(callFunc f args).run P w=.ok (.value v) w'
def ZP (P:Program):Prop:=(∀ t z,GP P t=some z→∃ n,Ee n z=true)∧EX P
theorem ZP.rel {P:Program} (h:ZP P) {t:TypeId} {z:Value} (hz:GP P t=some z) (ρ:BX):AM ρ z z:=let ⟨n,hn⟩:=h.1 t z hz; .NN ρ n z hn
inductive I0 (ρ:BX):Deferred→Deferred→Prop
 | fn {f:FuncId} {cap cap' args args':Array Value}:Aj ρ cap.toList cap'.toList→Aj ρ args.toList args'.toList→I0 ρ ⟨.fn (.func f) cap,args⟩ ⟨.fn (.func f) cap',args'⟩
 | collected {r r':Nat}:Kn ρ r r'→I0 ρ ⟨.collected r,#[]⟩ ⟨.collected r',#[]⟩
theorem I0.mono {ρ ρ':BX} {d d':Deferred} (h:I0 ρ d d') (e:Ext ρ ρ'):I0 ρ' d d':=by
 cases h with
 | fn a b=>exact .fn (a.mono e) (b.mono e)
 | collected a=>exact .collected (a.mono e)
inductive X1 (P:Program) (w0:World) (ρ:BX) (W:CW) (r:Result Next):BM→Prop
 | value {v v':Value} {w:World}:r=.ok (.value v') w→AM ρ v v'→AW P w0 ρ W w→X1 P w0 ρ W r (.value v)
 | skip {w:World}:r=.ok .skip w→AW P w0 ρ W w→X1 P w0 ρ W r .skip
 | enter {f:FuncId} {args:List Value} {args':Array Value} {w:World}:r=(callFunc f args').run P w→Aj ρ args args'.toList→AW P w0 ρ W w→X1 P w0 ρ W r (.enter f args)
 | round {l l':Nat} {args:List Value} {args':Array Value} {w:World}:r=(Instr.yield l' args').run P w→Kn ρ l l'→Aj ρ args args'.toList→AW P w0 ρ W w→X1 P w0 ρ W r (.round l args)
 | defer {d d':Deferred} {w:World}:r=.ok (.defer d') w→I0 ρ d d'→AW P w0 ρ W w→X1 P w0 ρ W r (.defer d)
 | recover {w:World}:r=.ok .recover w→AW P w0 ρ W w→X1 P w0 ρ W r .recover
 | panic {v v':Value} {w:World}:r=.halt (.panic v') w→AM ρ v v'→AW P w0 ρ W w→X1 P w0 ρ W r (.panic v)
def Az (P:Program) (w0:World) (ρ:BX) (W:CW) (r:Result Next) (outs:List (BM × CW)):Prop :=
 ∃ n W1 ρ',(n,W1) ∈ outs∧Dc W ρ W1 ρ'∧X1 P w0 ρ' W1 r n
section
variable {P:Program} {w0:World} {ρ:BX} {W:CW} {w:World}
theorem Az.value (hw:AW P w0 ρ W w) {r:Result Next} {v v':Value} (hr:r=.ok (.value v') w) (hv:AM ρ v v'):Az P w0 ρ W r [(.value v,W)] :=
 ⟨_,_,ρ,List.mem_singleton.2 rfl,.refl _,.value hr hv hw⟩
def KE (ρ:BX):Option Value→Option Value→Prop
 | none,none=>True
 | some v,some v'=>AM ρ v v'
 | _,_=>False
theorem Eh {x x':Option Value} {d y y' k:Nat} (h:bound x d y=some k) (hx:KE ρ x x') (hy:y≤y') :
  (x=none∧x'=none∧k=d)∨(∃ v',x'=some v'∧k≤y∧∀ code (w:World),(Instr.sliceBound v' y' code).run P w=.ok k w):=by
 unfold bound at h
 split at h
 ·rename_i kk i; rw [cond_eq_ite] at h
  split at h
  ·rename_i hc; simp only [Bool.and_eq_true,decide_eq_true_eq] at hc
   cases h
   cases x' with
   | none=>exact hx.elim
   | some v' =>
    have hx:AM ρ (.int kk i) v':=hx
    cases hx
    right; refine ⟨_,rfl,by omega,fun code w=>?_⟩; have:0≤i∧i≤(y':Int):=⟨hc.1,by omega⟩
    simp [Instr.sliceBound,asIntOf,this]
  ·cases h
 ·cases h
 ·cases h
  cases x' with
  | none=>exact .inl ⟨rfl,rfl,rfl⟩
  | some v'=>exact hx.elim
theorem KE.map {f g:Operand→Value} (x:Option Operand) (h:∀ y,x=some y→AM ρ (f y) (g y)):KE ρ (x.map f) (x.map g):=by
 cases x with
 | none=>trivial
 | some y=>exact h y rfl
theorem AX {α β:Type} {o:Option α} {f:α→Option β} {b:β} (h:CH o f=some b):∃ a,o=some a∧f a=some b:=by
 cases o with
 | none=>cases h
 | some a=>exact ⟨a,rfl,h⟩
theorem Je (b:Bool) {lo w9 hi IH mx sG:Option Value} {len cap cap' m h l:Nat} (hm:bound mx cap cap=some m) (hh:bound hi len m=some h) (hl:bound lo 0 h=some l)
  (rl:KE ρ lo w9) (rh:KE ρ hi IH) (rm:KE ρ mx sG) (hc:cap≤cap') (hn:(mx.isSome && hi.isNone)=false) :
  ∃ m',(∀ w:World,(Instr.sliceBounds b len cap' w9 IH sG).run P w=.ok (l,h,m') w)∧((mx=none∧m'=cap'∧m=cap)∨(m'=m∧m≤cap))∧l≤h:=by
 have oD:l≤h:=by
  rcases Eh (P:=P) hl rl (Nat.le_refl _) with ⟨_,_,rfl⟩ | ⟨_,_,h,_⟩
  ·exact Nat.zero_le _
  ·exact h
 rcases Eh (P:=P) hm rm hc with ⟨rfl,rfl,rfl⟩ | ⟨v,rfl,ABQ,hmr⟩
 ·refine ⟨cap',fun w=>?_,.inl ⟨rfl,rfl,rfl⟩,oD⟩
  rcases Eh (P:=P) hh rh hc with ⟨rfl,rfl,rfl⟩ | ⟨v2,rfl,_,xw⟩
  ·rcases Eh (P:=P) hl rl (Nat.le_refl _) with ⟨rfl,rfl,rfl⟩ | ⟨v3,rfl,_,xx⟩
   ·simp [Instr.sliceBounds]
   ·simp [Instr.sliceBounds,xx]
  ·rcases Eh (P:=P) hl rl (Nat.le_refl _) with ⟨rfl,rfl,rfl⟩ | ⟨v3,rfl,_,xx⟩
   ·simp [Instr.sliceBounds,xw]
   ·simp [Instr.sliceBounds,xw,xx]
 ·have hms:mx.isSome=true:=by
   cases mx with
   | none=>exact rm.elim
   | some _=>rfl
  refine ⟨m,fun w=>?_,.inr ⟨rfl,ABQ⟩,oD⟩
  rcases Eh (P:=P) hh rh (Nat.le_refl _) with ⟨rfl,rfl,rfl⟩ | ⟨v2,rfl,_,xw⟩
  ·simp [hms] at hn
  ·rcases Eh (P:=P) hl rl (Nat.le_refl _) with ⟨rfl,rfl,rfl⟩ | ⟨v3,rfl,_,xx⟩
   ·simp [Instr.sliceBounds,hmr,xw]
   ·simp [Instr.sliceBounds,hmr,xw,xx]
end
end Go.Ce
namespace Go.Ce
open Go.RowKit (Below)
section
variable {P:Program} {w0:World} {ρ:BX} {W:CW} {w:World}
theorem Vz {t:TypeId} {n m:Nat} (h:DC P t=some n) (k:(P.info? t).map (·.size)=some m):m=n:=by
 unfold DC at h; rw [h] at k; cases k; rfl
theorem NQ {a a':Addr} (h:Jc ρ a a') (k:Nat):Jc ρ ⟨a.block,a.off+k,none⟩ (a'.add k):=by
 obtain ⟨_,x,hx,rfl⟩:=h; refine ⟨rfl,x,hx,?_⟩; rw [Ko]; simp only [Addr.mk.injEq,and_true,true_and]; omega
theorem NR (a:Addr):a.add 0=a:=by simp [Addr.add]
theorem V0 (hw:AW P w0 ρ W w) {t:TypeId} {x x' v:Value} {lo w9 hi IH mx sG:Option Value} (h:Ml P W t x lo hi mx=some v) (hx:AM ρ x x')
  (rl:KE ρ lo w9) (rh:KE ρ hi IH) (rm:KE ρ mx sG):∃ v',(Instr.sliceAt t x' w9 IH sG).run P w=.ok v' w∧AM ρ v v':=by
 unfold Ml at h
 split at h
 ·rename_i elem a len cap ht; obtain ⟨m,hm,h⟩:=AX h; obtain ⟨hh,hhi,h⟩:=AX h; obtain ⟨l,hl,h⟩:=AX h; rw [cond_eq_ite] at h
  split at h
  ·cases h
  rename_i BE; simp only [Bool.or_eq_true,Bool.not_eq_true',not_or,Bool.not_eq_true,Bool.not_eq_false] at BE; obtain ⟨⟨sH,hle⟩,Mp⟩:=BE; have hle:=Nat.le_of_ble_eq_true hle; obtain ⟨s,hs,h⟩:=AX h
  cases h
  have run:∀ (a':Option Addr) (cap':Nat),cap≤cap'→∃ m',(Instr.sliceAt t (.slice a' len cap') w9 IH sG).run P w=.ok (.slice (if m'=l then a' else a'.map (·.add (l*s))) (hh-l) (m'-l)) w∧((mx=none∧m'=cap'∧m=cap)∨(m'=m∧m≤cap))∧l≤hh:=by
   intro a' cap' hc; obtain ⟨m',hr,A0,oD⟩:=Je (P:=P) true hm hhi hl rl rh rm hc sH; refine ⟨m',?_,A0,oD⟩; simp only [Instr.sliceAt,Sem.run_bind,AF ht,Result.andThen_ok,Instr.slice,hr,A8 hs,Sem.run_pure]
  cases hx with
  | Xx =>
   obtain ⟨m',hr,A0,oD⟩:=run none cap (Nat.le_refl _); refine ⟨_,hr,?_⟩; have:m'=m:=by rcases A0 with ⟨_,h1,h2⟩ | ⟨h1,_⟩ <;> omega
   subst this; simp only [Option.map_none,ite_self,cond_eq_ite]; exact .Xx _ _
  | @slice a a' n c c' ha hc =>
   have D5:cap≤c':=by
    rcases hc with rfl | ⟨_,_,_,_,_,h⟩
    ·exact Nat.le_refl _
    ·exact h
   obtain ⟨m',hr,A0,oD⟩:=run (some a') c' D5; refine ⟨_,hr,?_⟩
   have xy:mx=none→c'=cap∨∃ y,ρ a.block=some y∧0<s∧y.sz=s∧a.off+cap*s=y.n∧a.off+y.o+c'*s=y.n':=by
    intro i_
    rcases hc with rfl | ⟨y,hy,Mq,h1,h2,_⟩
    ·exact .inl rfl
    ·right; subst i_; simp only [Option.isSome_none,Mk,ha.1,Bool.false_or] at Mp
     split at Mp
     ·rename_i cc nn zz ee ho; have:=Nat.eq_of_beq_eq_true (Mp.resolve_left (by simp)); subst this; obtain ⟨y',c2,_,qY,_,_,_,_,_,_,_,he,_⟩:=hw.cells ha ho; rw [hy] at qY; cases qY; have:=Vz hs he; rw [this] at h1 h2 Mq; exact ⟨y,hy,Mq,this,h1,h2⟩
     ·rename_i ff nn ee ho; have:=Nat.eq_of_beq_eq_true (Mp.resolve_left (by simp)); subst this; obtain ⟨y',_,_,_,qY,_,_,_,_,_,he,_⟩:=hw.fixed ha ho; rw [hy] at qY; cases qY; have:=Vz hs he; rw [this] at h1 h2 Mq; exact ⟨y,hy,Mq,this,h1,h2⟩
     ·simp at Mp
   by_cases e:m=l
   ·have ehl:hh=l:=by omega
    subst ehl; simp only [cond_eq_ite,Nat.beq_eq,e,if_true,Nat.sub_self]; obtain ⟨y,hy,rfl⟩:=ha.2
    by_cases em:m'=hh
    ·subst em; simp only [if_true,Nat.sub_self]; exact .Ig ha.1 hy rfl rfl (.inl rfl)
    ·rw [if_neg em]
     rcases A0 with ⟨i_,e1,e2⟩ | ⟨h1,_⟩
     ·rcases xy i_ with h1 | ⟨y',qY,Mq,HV,h1,h2⟩
      ·omega
      ·rw [hy] at qY; cases qY; simp only [Option.map_some,Ko]; refine .Ig ha.1 hy rfl rfl (.inr ⟨by omega,?_⟩); rw [HV]; obtain ⟨d,hd⟩:∃ d,m'=hh+d:=⟨m'-hh,by omega⟩
       have e3:m'-hh=d:=by omega
       rw [e3]; rw [←e1,hd,Nat.add_mul] at h2; show a.off+y.o+hh*s+d*s=y.n'; omega
     ·omega
   ·have hlm:l<m:=by omega
    have em:m'≠l:=by rcases A0 with ⟨_,h1,h2⟩ | ⟨h1,_⟩ <;> omega
    simp only [cond_eq_ite,Nat.beq_eq,e,if_false,em,Option.map_some]; refine .slice _ (NQ ha _) ?_
    rcases A0 with ⟨i_,rfl,rfl⟩ | ⟨rfl,_⟩
    ·rcases xy i_ with rfl | ⟨y,hy,Mq,HV,h1,h2⟩
     ·exact .inl rfl
     ·right
      refine ⟨y,hy,by omega,?_,?_,by omega⟩
      ·rw [HV]; obtain ⟨d,rfl⟩:∃ d,m=l+d:=⟨m-l,by omega⟩
       have:l+d-l=d:=by omega
       rw [this]; rw [Nat.add_mul] at h1; show a.off+l*s+d*s=y.n; omega
      ·rw [HV]; obtain ⟨d,rfl⟩:∃ d,m'=l+d:=⟨m'-l,by omega⟩
       have:l+d-l=d:=by omega
       rw [this]; rw [Nat.add_mul] at h2; show a.off+l*s+y.o+d*s=y.n'; omega
    ·exact .inl rfl
  | @Ig a a' c' y hq hy hb KM hc =>
   obtain ⟨m',hr,A0,oD⟩:=run (some a') c' (Nat.zero_le _); refine ⟨_,hr,?_⟩; have jY:m=0:=by rcases A0 with ⟨_,h1,h2⟩ | ⟨h1,h2⟩ <;> omega
   subst jY; have hh0:hh=0:=by omega
   subst hh0; have hl0:l=0:=by omega
   subst hl0; simp only [cond_eq_ite,Nat.beq_eq,if_true,Nat.sub_zero,Nat.zero_mul,Option.map_some,NR,ite_self]; refine .Ig hq hy hb KM ?_
   rcases A0 with ⟨_,rfl,_⟩ | ⟨rfl,_⟩
   ·exact hc
   ·exact .inl rfl
  | @HH a a' hq =>
   obtain ⟨m',hr,A0,oD⟩:=run (some a') 0 (Nat.le_refl _); refine ⟨_,hr,?_⟩; have jY:m=0:=by rcases A0 with ⟨_,h1,h2⟩ | ⟨h1,h2⟩ <;> omega
   subst jY; have hh0:hh=0:=by omega
   subst hh0; have hl0:l=0:=by omega
   subst hl0; simp only [cond_eq_ite,Nat.beq_eq,if_true,Nat.sub_zero,Nat.zero_mul,Option.map_some,NR,ite_self]; have ABR:m'=0:=by rcases A0 with ⟨_,h1,_⟩ | ⟨h1,_⟩ <;> omega
   subst ABR; exact .HH hq
 ·rename_i n elem a ht; obtain ⟨m,hm,h⟩:=AX h; obtain ⟨hh,hhi,h⟩:=AX h; obtain ⟨l,hl,h⟩:=AX h; rw [cond_eq_ite] at h
  split at h
  ·cases h
  rename_i BE; simp only [Bool.or_eq_true,Bool.not_eq_true',not_or,Bool.not_eq_true,Bool.not_eq_false] at BE; obtain ⟨s,hs,h⟩:=AX h
  cases h
  cases hx with
  | @ptr a a' ha =>
   obtain ⟨m',hr,A0,oD⟩:=Je (P:=P) false hm hhi hl rl rh rm (Nat.le_refl _) BE.1; have:m'=m:=by rcases A0 with ⟨_,h1,h2⟩ | ⟨h1,_⟩ <;> omega
   subst this
   refine ⟨.slice (some (if m'=l then a' else a'.add (l*s))) (hh-l) (m'-l),?_,?_⟩
   ·simp only [Instr.sliceAt,Sem.run_bind,AF ht,Result.andThen_ok,Instr.sureAddr,Sem.run_pure,hr,A8 hs]
   ·simp only [cond_eq_ite,Nat.beq_eq]
    by_cases e:m'=l
    ·rw [if_pos e,if_pos e]; exact .slice _ ha (.inl rfl)
    ·rw [if_neg e,if_neg e]; exact .slice _ (NQ ha _) (.inl rfl)
 ·cases h
end
end Go.Ce
namespace Go.Ce
open Go.RowKit (Below)
section
variable {P:Program} {w0:World} {ρ:BX} {W:CW} {w:World} {o:Oper} {e e':Operand→Value} {outs:List (BM × CW)}
theorem Dy {x:Option Value} (h:(match x with | some v=>some [(BM.value v,W)] | none=>none)=some outs):∃ v,x=some v∧outs=[(.value v,W)]:=by
 cases x with
 | none=>cases h
 | some v=>cases h; exact ⟨v,rfl,rfl⟩
theorem LY {x:Option (Value × CW)} (h:(match x with | some (v,W)=>some [(BM.value v,W)] | none=>none)=some outs):∃ v W1,x=some (v,W1)∧outs=[(.value v,W1)]:=by
 cases x with
 | none=>cases h
 | some v=>obtain ⟨v,W1⟩:=v; cases h; exact ⟨v,W1,rfl,rfl⟩
theorem dh {x:Option CW} (h:(match x with | some W=>some [(BM.skip,W)] | none=>none)=some outs):∃ W1,x=some W1∧outs=[(.skip,W1)]:=by
 cases x with
 | none=>cases h
 | some W1=>cases h; exact ⟨W1,rfl,rfl⟩
theorem A5 {s:Sem Value} {v:Value} {w w':World} (hs:s.run P w=.ok v w'):(do let x ←s; pure (Next.value x):Sem Next).run P w=.ok (.value v) w':=by simp [hs]
theorem aQ {s:Sem Unit} {w w':World} (hs:s.run P w=.ok () w'):(do s; pure Next.skip:Sem Next).run P w=.ok .skip w':=by simp [hs]
theorem di {x:Operand} (ho:o.op=.move x∨o.op=.assign x) (h:BD P o e W=some outs) (hw:AW P w0 ρ W w) (he:AM ρ (e x) (e' x)) :
  Az P w0 ρ W ((execOp e' o).run P w) outs:=by
 rcases ho with ho | ho <;>
 ·simp only [BD,ho] at h
  cases h
  exact .value hw (by simp only [execOp,ho,Sem.run_pure]) he
theorem oE {c a b:Operand} (ho:o.op=.pick c a b) (h:BD P o e W=some outs) (hw:AW P w0 ρ W w) (hc:AM ρ (e c) (e' c)) (ha:AM ρ (e a) (e' a)) (hb:AM ρ (e b) (e' b)) :
  Az P w0 ρ W ((execOp e' o).run P w) outs:=by
 simp only [BD,ho] at h
 split at h
 ·rename_i b0 jZ
  cases h
  rw [jZ] at hc; generalize D5:e' c=vc at hc
  cases hc
  have hr:(execOp e' o).run P w=.ok (.value (if b0=true then e' a else e' b)) w:=by
   simp [execOp,ho,D5,asBool]
  refine .value hw hr ?_
  cases b0
  ·simpa using hb
  ·simpa using ha
 ·cases h
theorem oF {t:TypeId} {a:Operand} (ho:o.op=.load t a) (h:BD P o e W=some outs) (hw:AW P w0 ρ W w) (ha:AM ρ (e a) (e' a)) :
  Az P w0 ρ W ((execOp e' o).run P w) outs:=by
 simp only [BD,ho] at h; obtain ⟨v,hv,rfl⟩:=Dy h
 split at hv
 ·rename_i p hp; rw [hp] at ha; generalize D5:e' a=va at ha
  cases ha with
  | ptr ha =>
   obtain ⟨v',hr,F7⟩:=PY hw ha hv; refine .value hw ?_ F7; simp only [execOp,ho,D5]; exact A5 (by simpa [Instr.loadAt,Instr.sureAddr] using hr)
 ·cases hv
theorem fa {t:TypeId} {a:Addr} {v:Value} {W1:CW} (h:Ic P t a v W=some W1):W.sz≤W1.sz:=by
 unfold Ic at h
 repeat' (first | (cases h; done) | (cases h; exact Nat.le_refl _) | (rw [cond_eq_ite] at h) | split at h)
theorem ja {t:TypeId} {a x:Operand} (ho:o.op=.store t a x) (h:BD P o e W=some outs) (hw:AW P w0 ρ W w) (ha:AM ρ (e a) (e' a)) (hx:AM ρ (e x) (e' x)) :
  Az P w0 ρ W ((execOp e' o).run P w) outs:=by
 simp only [BD,ho] at h; obtain ⟨W1,hv,rfl⟩:=dh h
 split at hv
 ·rename_i p hp; rw [hp] at ha; generalize D5:e' a=va at ha
  cases ha with
  | ptr ha =>
   obtain ⟨w',hr,HI⟩:=Vy hw ha hx hv; refine ⟨_,_,ρ,List.mem_singleton.2 rfl,.refl _ (fa hv),.skip (w:=w') ?_ HI⟩; simp only [execOp,ho,D5]; exact aQ (by simpa [Instr.storeAt,Instr.sureAddr] using hr)
 ·cases hv
theorem X2 {x:Operand} (ho:o.op=.nilCheck x) (h:BD P o e W=some outs) (hw:AW P w0 ρ W w) (hx:AM ρ (e x) (e' x)) :
  Az P w0 ρ W ((execOp e' o).run P w) outs:=by
 simp only [BD,ho] at h; obtain ⟨v,hv,rfl⟩:=Dy h; generalize hc:e x=vx at *; generalize D5:e' x=PZ at *
 split at hv <;> cases hv <;> cases hx
 ·rename_i h1; exact .value hw (by simp only [execOp,ho,D5,Sem.run_pure]) (.ptr h1)
 ·rename_i h1; exact .value hw (by simp only [execOp,ho,D5,Sem.run_pure]) (.iface _ h1)
 ·rename_i h1 h2 h3 h4 h5
  cases h1
  exact .value hw (by simp only [execOp,ho,D5,Sem.run_pure]) (.func (.func _) h2 h3 h4 h5)
 ·rename_i h1 h2 h3 h4 h5
  cases h1 with
  | yield hb=>exact .value hw (by simp only [execOp,ho,D5,Sem.run_pure]) (.func (.yield hb) h2 h3 h4 h5)
theorem NS (hw:AW P w0 ρ W w) {c:Tr Value} {z:Array Value} {n:Nat} {t:TypeId} {sz:Nat} {c':Array Value} (hs:DC P t=some sz) (hn:c'.size=n)
  (hc:∀ k,k<n→AM ρ (cellAt c z k) (c'.getD k undef)) :
  ∃ ρ',Dc W ρ (W.new (.cells c n z t)) ρ'∧ρ' W.sz=some ⟨w.heap.size,0,sz,n,n⟩∧AW P w0 ρ' (W.new (.cells c n z t)) { w with heap:=w.heap.push (.cells c' t) }∧Jc ρ' ⟨W.sz,0,none⟩ ⟨w.heap.size,0,none⟩:=by
 have CU:Ext ρ (fun i=>if i=W.sz then some ⟨w.heap.size,0,sz,n,n⟩ else ρ i):=fun i y hy=>by
  have:=hw.Q_ i y hy; show (if i=W.sz then _ else ρ i)=some y; rw [if_neg (by omega)]; exact hy
 have:=hw.new (o:=.cells c n z t) (o':=.cells c' t) ⟨w.heap.size,0,sz,n,n⟩ rfl (by
  exact .cells hs hn (by simp) (fun k hk=>(hc k hk).mono CU) ⟨NF.zero _,fun _=>⟨rfl,rfl⟩⟩)
 exact ⟨_,this.1,by simp,this.2,⟨rfl,⟨w.heap.size,0,sz,n,n⟩,by simp,by simp⟩⟩
theorem CV (vs:List Value) (z:Array Value) (k:Nat) (h:k<vs.length):cellAt (Tr.nil.AZ 0 vs) z k=vs.getD k undef:=by
 rw [R0]; simp [h]
theorem sI {t:TypeId} {x:Operand} (ho:o.op=.box t x) (h:BD P o e W=some outs) (hw:AW P w0 ρ W w) (hx:AM ρ (e x) (e' x)) :
  Az P w0 ρ W ((execOp e' o).run P w) outs:=by
 simp only [BD,ho,Q6] at h
 split at h
 ·rename_i sz hs
  cases h
  have hl:=hx.cells
  obtain ⟨ρ',CU,_,HI,ha⟩:=NS hw (c:=Tr.nil.AZ 0 (e x).cells.toList) (z:=#[]) (n:=(e x).cells.size) (c':=(e' x).cells) hs (by simpa using hl.1.symm) (fun k hk=>by
   rw [CV _ _ _ (by simpa using hk)]; have:=hl.2 k (by simpa using hk)
   simpa [Array.getD_eq_getD_getElem?,List.getD_eq_getElem?_getD] using this)
  refine ⟨_,_,ρ',List.mem_singleton.2 rfl,CU,.value (w:={ w with heap:=w.heap.push (.cells (e' x).cells t) }) ?_ (.ptr ha) HI⟩; simp only [execOp,ho]; exact A5 (by simp [Instr.box,newVar,newRow])
 ·cases h
theorem jb (hz:ZP P) {t:TypeId} (ho:o.op=.alloc t) (h:BD P o e W=some outs) (hw:AW P w0 ρ W w) :
  Az P w0 ρ W ((execOp e' o).run P w) outs:=by
 simp only [BD,ho] at h
 split at h
 ·rename_i z JY
  split at h
  ·rename_i sz hs
   cases h
   obtain ⟨ρ',CU,_,HI,ha⟩:=NS hw (c:=.nil) (z:=z.cells) (n:=z.cells.size) (c':=z.cells) hs rfl (fun k hk=>by
    have hc:=(hz.rel JY ρ).cells.2 k (by simpa using hk); have:cellAt .nil z.cells k=z.cells.getD k undef:=by simp [cellAt,Tr.get_nil,Nat.mod_eq_of_lt hk]
    rw [this]
    simpa [Array.getD_eq_getD_getElem?,List.getD_eq_getElem?_getD] using hc)
   refine ⟨_,_,ρ',List.mem_singleton.2 rfl,CU,.value (w:={ w with heap:=w.heap.push (.cells z.cells t) }) ?_ (.ptr ha) HI⟩; simp only [execOp,ho]; exact A5 (by simp [Instr.alloc,BO JY,newVar,newRow])
  ·cases h
 ·cases h
theorem oG {u:UnOp} {t:TypeId} {x:Operand} (ho:o.op=.unOp u t x) (h:BD P o e W=some outs) (hw:AW P w0 ρ W w) (hx:AM ρ (e x) (e' x)) :
  Az P w0 ρ W ((execOp e' o).run P w) outs:=by
 cases u <;> simp only [BD,ho] at h <;> first | (cases h; done) | skip
 all_goals
  obtain ⟨v,hv,rfl⟩:=Dy h
  split at hv
  ·rename_i hc
   cases hv
   rw [hc] at hx; generalize D5:e' x=PZ at hx
   cases hx
   refine .value hw ?_ (by constructor); simp only [execOp,ho,D5]; exact A5 (by simp [Op.unary,Op.intArith])
  ·cases hv
theorem OV {t:TypeId} {x:Operand} (ho:o.op=.makeInterface t x) (h:BD P o e W=some outs) (hw:AW P w0 ρ W w) (hx:AM ρ (e x) (e' x)) :
  Az P w0 ρ W ((execOp e' o).run P w) outs:=by
 simp only [BD,ho] at h; obtain ⟨v,hv,rfl⟩:=Dy h
 split at hv
 ·cases hv
 ·cases hv
 ·rename_i R3 P0
  cases hv
  refine .value hw ?_ (.iface _ hx); simp only [execOp,ho]; refine A5 ?_
  cases hu:P.underlying t with
  | none=>exact (P0 hu).elim
  | some d =>
   simp only [Instr.makeInterface,Sem.run_bind,AF hu,Result.andThen_ok]
   cases d <;> first | rfl | exact (R3 _ hu).elim
theorem aR {x:Operand} {i:Nat} (ho:o.op=.extract x i) (h:BD P o e W=some outs) (hw:AW P w0 ρ W w) (hx:AM ρ (e x) (e' x)) :
  Az P w0 ρ W ((execOp e' o).run P w) outs:=by
 simp only [BD,ho] at h; obtain ⟨v,hv,rfl⟩:=Dy h
 split at hv
 ·rename_i vs hc; rw [hc] at hx; generalize D5:e' x=PZ at hx; obtain ⟨vs',rfl,hl⟩:=hx.fX; obtain ⟨y,hy,hr⟩:=hl.get (x:=v) (i:=i) (by simpa using hv); have hy:vs'[i]?=some y:=by simpa using hy
  refine .value hw ?_ hr; simp only [execOp,ho,D5]; exact A5 (by simp [Instr.extract,hy])
 ·cases hv
end
end Go.Ce
namespace Go.Ce
open Go.RowKit (Below)
section
variable {P:Program} {w0:World} {ρ:BX} {W:CW} {w:World} {o:Oper} {e e':Operand→Value} {outs:List (BM × CW)}
theorem aS {op:BinOp} {k:IntKind} {a b:Int} {v:Value} {t:TypeId} (h:OS op k a b=some v) (w:World):(binOp op t (.int k a) (.int k b)).run P w=.ok v w∧AM ρ v v:=by
 cases op <;> simp only [OS] at h
 case quo =>
  rw [cond_eq_ite] at h
  split at h
  ·cases h
  ·rename_i hb
   cases h
   have:¬b=0:=by simpa using hb
   exact ⟨by simp [binOp,Op.intDiv,this],.int _ _⟩
 case rem =>
  rw [cond_eq_ite] at h
  split at h
  ·cases h
  ·rename_i hb
   cases h
   have:¬b=0:=by simpa using hb
   exact ⟨by simp [binOp,Op.intDiv,this],.int _ _⟩
 case and=>cases h; exact ⟨by simp only [binOp,ne_eq,not_true_eq_false,if_false,Op.intBits,Sem.run_pure],.int _ _⟩
 case or=>cases h; exact ⟨by simp only [binOp,ne_eq,not_true_eq_false,if_false,Op.intBits,Sem.run_pure],.int _ _⟩
 case xor=>cases h; exact ⟨by simp only [binOp,ne_eq,not_true_eq_false,if_false,Op.intBits,Sem.run_pure],.int _ _⟩
 case andNot=>cases h; exact ⟨by simp only [binOp,ne_eq,not_true_eq_false,if_false,Op.intBits,Sem.run_pure],.int _ _⟩
 all_goals first
  | (cases h; done)
  | (cases h; exact ⟨by simp [binOp,Op.intArith],.int _ _⟩)
  | (cases h; exact ⟨by simp [binOp,Op.intCmp],.bool _⟩)
theorem aT:∀ (x y:List UInt8),UG x y=(x == y)
 | [],[]=>rfl
 | [],_::_=>rfl
 | _::_,[]=>rfl
 | a::x,b::y=>by
  have h1:Nat.beq a.toNat b.toNat=(a == b):=by
   rw [Bool.eq_iff_iff]; simp only [Nat.beq_eq,beq_iff_eq]; exact ⟨fun h=>UInt8.toNat_inj.1 h,fun h=>by rw [h]⟩
  simp only [UG,aT x y,h1,List.cons_beq_cons]
theorem jc:∀ (x y:List UInt8),Q5 x y=Op.bytesLess x y
 | [],[]=>rfl
 | [],_::_=>rfl
 | _::_,[]=>rfl
 | a::x,b::y=>by
  have h1:Nat.beq a.toNat b.toNat=(a == b):=by
   rw [Bool.eq_iff_iff]; simp only [Nat.beq_eq,beq_iff_eq]; exact ⟨fun h=>UInt8.toNat_inj.1 h,fun h=>by rw [h]⟩
  have h2:Nat.blt a.toNat b.toNat=decide (a<b):=by
   rw [Bool.eq_iff_iff]; simp only [Nat.blt_eq,decide_eq_true_eq]; exact UInt8.lt_iff_toNat_lt.symm
  simp only [Q5,jc x y,h1,h2,Op.bytesLess]
theorem dk (a:ByteArray):sb a=a.toList:=(ByteArray.toList_eq a).symm
theorem OW {a b:ByteArray}:UG (sb a) (sb b)=(a.toList == b.toList):=by rw [aT,dk,dk]
theorem fb {a b:ByteArray}:Q5 (sb a) (sb b)=Op.bytesLess a.toList b.toList:=by rw [jc,dk,dk]
theorem Ks {a b:ByteArray} (h:UG (sb a) (sb b)=true):a=b:=by
 rw [aT] at h; have h:a.data.toList=b.data.toList:=by simpa [sb] using h
 cases a; cases b
 exact congrArg ByteArray.mk (Array.ext' h)
theorem aU {op:BinOp} {a b:ByteArray} {v:Value} {t:TypeId} (h:r6 op a b=some v) (w:World):(binOp op t (.string a) (.string b)).run P w=.ok v w∧AM ρ v v:=by
 cases op <;> simp only [r6] at h <;> first
  | (cases h; done)
  | (cases h; exact ⟨by simp only [binOp,Op.stringOp,Sem.run_pure,OW,fb],.bool _⟩)
  | skip
 rw [cond_eq_ite] at h
 split at h
 ·rename_i hle; have hle:=Nat.le_of_ble_eq_true hle
  cases h
  refine ⟨?_,.string _⟩; show (Op.stringOp .add a b).run P w=_; rw [run_string_add_sum (P:=P) w a b hle]; congr 2
 ·cases h
theorem OX {d:TypeDesc} {t:TypeId} {x y x' y':Value} {b:Bool} (ht:P.underlying t=some d) (h:n8 d x y=some b) (hx:AM ρ x x') (hy:AM ρ y y') (w:World) (n:Nat) :
  (Op.equalIn (n+1) t x' y').run P w=.ok b w:=by
 rw [Op.equalIn]; simp only [Sem.run_bind,AF ht,Result.andThen_ok]; unfold n8 at h; split at h <;> first | (cases h; done) | skip
 all_goals
  cases h
  cases hx <;> cases hy <;> rfl
theorem GS (t:TypeId) (x y:Value):Op.equal t x y=Op.equalIn (9999+1) t x y:=rfl
theorem I1 {t:TypeId} {xs M9:Array Value} {off:Nat} {v:Value} (h:PS P t xs off=some v) (hx:Aj ρ xs.toList M9.toList) (w:World):∃ v',(part t M9 off).run P w=.ok v' w∧AM ρ v v':=by
 unfold PS at h
 split at h
 ·rename_i m ha hm
  cases h
  refine ⟨.agg (M9.extract off (off+m)),by simp only [part,Sem.run_bind,Eg ha,Result.andThen_ok,if_true,A8 hm,Sem.run_pure],.Xy ?_⟩; refine ⟨by simp; have:=hx.1; simp at this; rw [this],fun i hi=>?_⟩; have hs:xs.size=M9.size:=by simpa using hx.1
  simp at hi; have:=hx.2 (off+i) (by simp; omega); simp only [List.getD_eq_getElem?_getD,Array.getElem?_toList] at this ⊢; rw [Array.getElem?_extract,Array.getElem?_extract,if_pos (by omega),if_pos (by omega)]; exact this
 ·rename_i ha; obtain ⟨y,hy,hv⟩:=hx.get (i:=off) (x:=v) (by simpa using h); have hy:M9[off]?=some y:=by simpa using hy
  exact ⟨y,by simp only [part,Sem.run_bind,Eg ha,Result.andThen_ok,Bool.false_eq_true,if_false,hy,Sem.run_pure],hv⟩
 ·cases h
theorem X3 {eq:TypeId→Value→Value→Option Bool} {n:Nat} (hq:∀ t x y b x' y',eq t x y=some b→AM ρ x x'→AM ρ y y'→∀ w:World,(Op.equalIn n t x' y').run P w=.ok b w)
  {xs ys M9 Q9:Array Value} (hx:Aj ρ xs.toList M9.toList) (hy:Aj ρ ys.toList Q9.toList) (w:World):∀ (fs:List Field) (b:Bool),Xr P eq xs ys fs=some b→(Op.eqFields n M9 Q9 fs).run P w=.ok b w:=by
 intro fs
 induction fs with
 | nil=>intro b h; cases h; simp [Op.eqFields]
 | cons f fs ih =>
  intro b h; simp only [Xr,cond_eq_ite] at h
  split at h
  ·rename_i hn; have hn:f.name="_":=by simpa using hn
   simp only [Op.eqFields,hn,ne_eq,not_true_eq_false,if_false]; exact ih b h
  ·rename_i hn; have hn:f.name≠"_":=by simpa using hn
   split at h
   ·rename_i u v hu hv; obtain ⟨u',Xd,ru⟩:=I1 hu hx w; obtain ⟨v',F7,rv⟩:=I1 hv hy w; simp only [Op.eqFields,if_pos hn,Sem.run_bind,Xd,F7,Result.andThen_ok]
    split at h
    ·rename_i he; rw [hq _ _ _ _ _ _ he ru rv w]; simp only [Result.andThen_ok,Bool.not_true,Bool.false_eq_true,if_false]; exact ih b h
    ·rename_i he
     cases h
     rw [hq _ _ _ _ _ _ he ru rv w]; simp
    ·cases h
   ·cases h
theorem P1 (t:TypeId) (x y:Operand) (a b:Value):∀ op,(op=BinOp.eql∨op=.neq)→(eqGuard op t x y a b)=(match a,b with
  | .nilIface,.nilIface =>
   if ((match x with | .const _=>true | _=>false) || (match y with | .const _=>true | _=>false))=true then pure () else do
   if ←Op.eqGuardIn Op.maxDepth t a b then unsupported (.noEntry "binop/eql: two nil values of an interface type with methods, neither of them the literal nil")
  | .agg _,.agg _=>do
   if !(←program).eqGuardType (←program).depth t then return
   if ←Op.eqGuardIn Op.maxDepth t a b then unsupported (.noEntry "binop/eql: two nil values of an interface type with methods, in a part of a struct or an array")
  | _,_=>pure ()):=by
 rintro op (rfl | rfl) <;> rfl
theorem jd (x y:Operand):(isConst x || isConst y)=true→((match x with | .const _=>true | _=>false) || (match y with | .const _=>true | _=>false))=true:=by
 cases x <;> cases y <;> intro h <;> first | rfl | cases h
theorem Dr {op:BinOp} {t:TypeId} {x y:Operand} {a b:Value} (OY:op=.eql∨op=.neq) (h1:∀ u v,¬(a=.agg u∧b=.agg v)) (h2:¬(a=.nilIface∧b=.nilIface)∨(isConst x || isConst y)=true) (w:World) :
  (eqGuard op t x y a b).run P w=.ok () w:=by
 rw [P1 t x y a b op OY]
 split
 ·rcases h2 with h2 | h2
  ·exact (h2 ⟨rfl,rfl⟩).elim
  ·rw [if_pos (jd x y h2)]; rfl
 ·exact (h1 _ _ ⟨rfl,rfl⟩).elim
 ·rfl
theorem Gg {op:BinOp} {t:TypeId} {x y:Operand} {a b:Value} (h:op≠.eql) (k:op≠.neq) (w:World):(eqGuard op t x y a b).run P w=.ok () w:=by
 cases op <;> first | rfl | exact (h rfl).elim | exact (k rfl).elim
theorem Uo {d:TypeDesc} {x y x' y':Value} {b:Bool} (h:n8 d x y=some b) (hx:AM ρ x x') (hy:AM ρ y y') :
  (∀ u v,¬(x'=.agg u∧y'=.agg v))∧¬(x'=.nilIface∧y'=.nilIface):=by
 unfold n8 at h; split at h <;> first | (cases h; done) | skip
 all_goals
  cases hx <;> cases hy <;> exact ⟨fun u v h=>by simp at h,fun h=>by simp at h⟩
theorem Up {d:TypeDesc} {t:TypeId} {x y x' y':Value} {b:Bool} (h:n8 d x y=some b) (hx:AM ρ x x') (hy:AM ρ y y') :
  binOp .eql t x' y'=(do pure (.bool (←Op.equal t x' y')))∧binOp .neq t x' y'=(do pure (.bool (!(←Op.equal t x' y')))):=by
 unfold n8 at h; split at h <;> first | (cases h; done) | skip
 all_goals
  cases hx <;> cases hy <;> exact ⟨rfl,rfl⟩
theorem fc {eq:Value→Value→Option Bool} {elem:TypeId} {n m:Nat} (hq:∀ x y b x' y',eq x y=some b→AM ρ x x'→AM ρ y y'→∀ w:World,(Op.equalIn n elem x' y').run P w=.ok b w)
  {xs ys M9 Q9:Array Value} (hx:Aj ρ xs.toList M9.toList) (hy:Aj ρ ys.toList Q9.toList) (w:World):∀ (k i:Nat) (b:Bool),de P eq elem m xs ys k i=some b →
   (forIn (List.range' i k) ((none,()):Option Bool × Unit) (fun j _=>do
    if (!(←Op.equalIn n elem (←part elem M9 (j*m)) (←part elem Q9 (j*m))))=true then pure (ForInStep.done (some false,())) else pure (ForInStep.yield (none,()))):Sem (Option Bool × Unit)).run P w=.ok (if b then (none,()) else (some false,())) w:=by
 intro k
 induction k with
 | zero=>intro i b h; cases h; simp
 | succ k ih =>
  intro i b h; simp only [de] at h
  split at h
  ·rename_i u v hu hv; obtain ⟨u',Xd,ru⟩:=I1 hu hx w; obtain ⟨v',F7,rv⟩:=I1 hv hy w; simp only [List.range'_succ,List.forIn_cons,Sem.run_bind,Xd,F7,Result.andThen_ok]
   split at h
   ·rename_i he; rw [hq _ _ _ _ _ he ru rv w]; simp only [Result.andThen_ok,Bool.not_true,Bool.false_eq_true,if_false,Sem.run_pure]; exact ih (i+1) b h
   ·rename_i he
    cases h
    rw [hq _ _ _ _ _ he ru rv w]; simp
   ·cases h
  ·cases h
theorem Mr:∀ (n:Nat) (t:TypeId) (x y:Value) (b:Bool) (x' y':Value),Xs P n t x y=some b→AM ρ x x'→AM ρ y y'→∀ (m:Nat),n≤m→∀ w:World,(Op.equalIn m t x' y').run P w=.ok b w:=by
 intro n
 induction n with
 | zero=>intro t x y b x' y' h; cases h
 | succ n ih =>
  intro t x y b x' y' h hx hy m hm w; obtain ⟨m,rfl⟩:∃ k,m=k+1:=⟨m-1,by omega⟩
  have hm:n≤m:=by omega
  simp only [Xs] at h
  split at h
  ·cases h
  rename_i d hd
  split at h
  ·rename_i fs xs ys; rw [cond_eq_ite] at h
   split at h
   ·cases h
   ·rename_i hs; have hs:P.stoodInHeld t=false:=by simpa using hs
    obtain ⟨M9,rfl,rx⟩:=hx.Ep; obtain ⟨Q9,rfl,ry⟩:=hy.Ep; have hf:P.fieldsOf t=fs:=by simp [Program.fieldsOf,hd]
    rw [run_equalIn_struct (P:=P) w m t M9 Q9 (by rw [hf]; exact hd) hs,hf]; exact X3 (fun t x y b x' y' h1 h2 h3 w=>ih t x y b x' y' h1 h2 h3 m hm w) rx ry w _ _ h
  ·rename_i len elem xs ys; obtain ⟨M9,rfl,rx⟩:=hx.Ep; obtain ⟨Q9,rfl,ry⟩:=hy.Ep
   split at h
   ·rename_i s hs; have:=fc (m:=s) (fun x y b x' y' h1 h2 h3 w=>ih elem x y b x' y' h1 h2 h3 m hm w) rx ry w len 0 b h; rw [Op.equalIn]; simp only [Sem.run_bind,AF hd,Result.andThen_ok,A8 hs,Std.Legacy.Range.forIn_eq_forIn_range',Std.Legacy.Range.size,Nat.sub_zero,Nat.add_sub_cancel,Nat.div_one]; rw [this]
    cases b <;> simp
   ·cases h
  ·rename_i k1 a k2 b2; rw [cond_eq_ite] at h
   split at h
   ·rename_i hk; have hk:k1=k2:=by simpa using hk
    subst hk
    cases h; cases hx; cases hy
    rw [Op.equalIn]; simp only [Sem.run_bind,AF hd,Result.andThen_ok,if_true,Sem.run_pure]
   ·cases h
  ·rename_i a b2
   cases h; cases hx; cases hy
   rw [Op.equalIn]; simp only [Sem.run_bind,AF hd,Result.andThen_ok,Sem.run_pure,OW,beq_toListBytes]
  ·exact OX hd h hx hy w m
theorem P2 {op:BinOp} {t:TypeId} {x y:Operand} {xs ys:Array Value} (OY:op=.eql∨op=.neq) (hg:P.eqGuardType P.depth t=false) (w:World) :
  (eqGuard op t x y (.agg xs) (.agg ys)).run P w=.ok () w:=by
 rw [P1 t x y _ _ op OY]; simp only [Sem.run_bind,run_program,Result.andThen_ok,hg,Bool.not_false,if_true,Sem.run_pure]
theorem Uq (t:TypeId) (xs ys:Array Value):binOp .eql t (.agg xs) (.agg ys)=(do pure (.bool (←Op.equal t (.agg xs) (.agg ys))))∧binOp .neq t (.agg xs) (.agg ys)=(do pure (.bool (!(←Op.equal t (.agg xs) (.agg ys))))):=⟨rfl,rfl⟩
theorem P3 {t:TypeId} {m:Array (String × TypeId)} (ht:P.underlying t=some (.interface m)) (n:Nat) (w:World):(Op.equalIn (n+1) t .nilIface .nilIface).run P w=.ok true w:=by
 rw [Op.equalIn]; simp only [Sem.run_bind,AF ht,Result.andThen_ok,Sem.run_pure]
theorem Ur (t:TypeId):binOp .eql t .nilIface .nilIface=(do pure (.bool (←Op.equal t .nilIface .nilIface)))∧binOp .neq t .nilIface .nilIface=(do pure (.bool (!(←Op.equal t .nilIface .nilIface)))):=⟨rfl,rfl⟩
theorem aV {op:BinOp} {t:TypeId} {x y:Operand} {vx vy PZ vy' v:Value} (h:AQ P op t (isConst x || isConst y) vx vy=some v) (hx:AM ρ vx PZ) (hy:AM ρ vy vy') (w:World) :
  ∃ v',(do eqGuard op t x y PZ vy'; binOp op t PZ vy':Sem Value).run P w=.ok v' w∧AM ρ v v':=by
 unfold AQ at h
 split at h
 ·rw [cond_eq_ite] at h
  split at h
  ·cases h
  ·rename_i hb
   cases h
   cases hx; cases hy
   simp only [decide_eq_true_eq] at hb; exact ⟨_,by simp only [Sem.run_bind,Gg (op:=.shl) (by simp) (by simp),Result.andThen_ok,binOp,Op.shift,hb,if_false,Sem.run_pure],.int _ _⟩
 ·rw [cond_eq_ite] at h
  split at h
  ·cases h
  ·rename_i hb
   cases h
   cases hx; cases hy
   simp only [decide_eq_true_eq] at hb; exact ⟨_,by simp only [Sem.run_bind,Gg (op:=.shr) (by simp) (by simp),Result.andThen_ok,binOp,Op.shift,hb,if_false,Sem.run_pure],.int _ _⟩
 ·rename_i k a k' b h1 h2; rw [cond_eq_ite] at h
  split at h
  ·rename_i hk; have hk:k=k':=by simpa using hk
   subst hk
   cases hx; cases hy
   obtain ⟨hr,hv⟩:=aS (P:=P) (ρ:=ρ) (t:=t) h w; refine ⟨v,?_,hv⟩
   have hg:(eqGuard op t x y (.int k a) (.int k b)).run P w=.ok () w:=by
    by_cases e1:op=.eql
    ·exact Dr (.inl e1) (fun u v h=>by simp at h) (.inl fun h=>by simp at h) w
    ·by_cases e2:op=.neq
     ·exact Dr (.inr e2) (fun u v h=>by simp at h) (.inl fun h=>by simp at h) w
     ·exact Gg e1 e2 w
   simp only [Sem.run_bind,hg,Result.andThen_ok,hr]
  ·cases h
 ·rename_i a b
  cases hx; cases hy
  obtain ⟨hr,hv⟩:=aU (P:=P) (ρ:=ρ) (t:=t) h w; refine ⟨v,?_,hv⟩
  have hg:(eqGuard op t x y (.string a) (.string b)).run P w=.ok () w:=by
   by_cases e1:op=.eql
   ·exact Dr (.inl e1) (fun u v h=>by simp at h) (.inl fun h=>by simp at h) w
   ·by_cases e2:op=.neq
    ·exact Dr (.inr e2) (fun u v h=>by simp at h) (.inl fun h=>by simp at h) w
    ·exact Gg e1 e2 w
  simp only [Sem.run_bind,hg,Result.andThen_ok,hr]
 ·rw [cond_eq_ite] at h
  split at h
  ·cases h
  ·rename_i hg; have hg:P.eqGuardType P.depth t=false:=by simpa using hg
   rw [Option.map_eq_some_iff] at h; obtain ⟨b,hb,rfl⟩:=h; obtain ⟨M9,rfl,_⟩:=hx.Ep; obtain ⟨Q9,rfl,_⟩:=hy.Ep; refine ⟨.bool b,?_,.bool _⟩; simp only [Sem.run_bind,P2 (.inl rfl) hg,Result.andThen_ok,(Uq t M9 Q9).1,GS,Mr 20 _ _ _ _ _ _ hb hx hy 10000 (by omega),Sem.run_pure]
 ·rw [cond_eq_ite] at h
  split at h
  ·cases h
  ·rename_i hg; have hg:P.eqGuardType P.depth t=false:=by simpa using hg
   rw [Option.map_eq_some_iff] at h; obtain ⟨b,hb,rfl⟩:=h; obtain ⟨M9,rfl,_⟩:=hx.Ep; obtain ⟨Q9,rfl,_⟩:=hy.Ep; refine ⟨.bool (!b),?_,.bool _⟩; simp only [Sem.run_bind,P2 (.inr rfl) hg,Result.andThen_ok,(Uq t M9 Q9).2,GS,Mr 20 _ _ _ _ _ _ hb hx hy 10000 (by omega),Sem.run_pure]
 ·split at h
  ·rename_i m hm; rw [cond_eq_ite] at h
   split at h
   ·rename_i hc
    cases h
    cases hx; cases hy
    refine ⟨.bool true,?_,.bool _⟩; simp only [Sem.run_bind,Dr (a:=.nilIface) (b:=.nilIface) (.inl rfl) (fun u v h=>by simp at h) (.inr hc),Result.andThen_ok,(Ur t).1,GS,P3 hm,Sem.run_pure]
   ·cases h
  ·cases h
 ·split at h
  ·rename_i m hm; rw [cond_eq_ite] at h
   split at h
   ·rename_i hc
    cases h
    cases hx; cases hy
    refine ⟨.bool false,?_,.bool _⟩; simp only [Sem.run_bind,Dr (a:=.nilIface) (b:=.nilIface) (.inr rfl) (fun u v h=>by simp at h) (.inr hc),Result.andThen_ok,(Ur t).2,GS,P3 hm,Sem.run_pure]; rfl
   ·cases h
  ·cases h
 ·split at h
  ·rename_i d hd; rw [Option.map_eq_some_iff] at h; obtain ⟨b,hb,rfl⟩:=h; obtain ⟨s1,s2⟩:=Uo hb hx hy; refine ⟨.bool b,?_,.bool _⟩; simp only [Sem.run_bind,Dr (.inl rfl) s1 (.inl s2),Result.andThen_ok,(Up (t:=t) hb hx hy).1,GS,OX hd hb hx hy,Sem.run_pure]
  ·cases h
 ·split at h
  ·rename_i d hd; rw [Option.map_eq_some_iff] at h; obtain ⟨b,hb,rfl⟩:=h; obtain ⟨s1,s2⟩:=Uo hb hx hy; refine ⟨.bool (!b),?_,.bool _⟩; simp only [Sem.run_bind,Dr (.inr rfl) s1 (.inl s2),Result.andThen_ok,(Up (t:=t) hb hx hy).2,GS,OX hd hb hx hy,Sem.run_pure]
  ·cases h
 ·cases h
theorem je {op:BinOp} {t t2:TypeId} {x y:Operand} (ho:o.op=.binOp op t x y t2) (h:BD P o e W=some outs) (hw:AW P w0 ρ W w) (hx:AM ρ (e x) (e' x)) (hy:AM ρ (e y) (e' y)) :
  Az P w0 ρ W ((execOp e' o).run P w) outs:=by
 simp only [BD,ho] at h; obtain ⟨v,hv,rfl⟩:=Dy h; obtain ⟨v',hr,F7⟩:=aV hv hx hy w; refine .value hw ?_ F7; simp only [execOp,ho]; exact A5 hr
end
end Go.Ce
namespace Go.Ce
open Go.RowKit (Below)
section
variable {P:Program} {w0:World} {ρ:BX} {W:CW} {w:World} {o:Oper} {e e':Operand→Value} {outs:List (BM × CW)}
theorem Aj.set {c c':Array Value} (h:Aj ρ c.toList c'.toList) {v v':Value} (hv:AM ρ v v') (i:Nat):Aj ρ (c.setIfInBounds i v).toList (c'.setIfInBounds i v').toList:=by
 rw [Aj.arr] at h ⊢; refine ⟨by simp [h.1],fun j hj=>?_⟩; rw [Array.size_setIfInBounds] at hj; have hj':j<c'.size:=h.1 ▸ hj; have h2:=h.2 j hj; simp only [Array.getD_eq_getD_getElem?] at h2 ⊢; rw [Array.getElem?_setIfInBounds,Array.getElem?_setIfInBounds]
 by_cases e:i=j
 ·rw [if_pos e,if_pos e,if_pos (by omega),if_pos (by omega)]; exact hv
 ·rw [if_neg e,if_neg e]; exact h2
theorem UH (off:Nat):∀ (vs vs':List Value) (k:Nat) (c c':Array Value),Aj ρ vs vs'→Aj ρ c.toList c'.toList →
  Aj ρ ((vs.zipIdx k).foldl (fun cs (p:Value × Nat)=>cs.setIfInBounds (off+p.2) p.1) c).toList ((vs'.zipIdx k).foldl (fun cs (p:Value × Nat)=>cs.setIfInBounds (off+p.2) p.1) c').toList:=by
 intro vs
 induction vs with
 | nil =>
  intro vs' k c c' h hc
  cases vs' with
  | nil=>exact hc
  | cons y ys=>have:=h.1; simp at this
 | cons x xs ih =>
  intro vs' k c c' h hc
  cases vs' with
  | nil=>have:=h.1; simp at this
  | cons y ys =>
   simp only [List.zipIdx_cons,List.foldl_cons]; exact ih ys (k+1) _ _ h.tail (hc.set h.head _)
inductive V3 (ρ:BX):List (Nat × Value)→List (Nat × Value)→Prop
 | nil:V3 ρ [] []
 | cons (i:Nat) {v v':Value} {xs ys:List (Nat × Value)}:AM ρ v v'→V3 ρ xs ys→V3 ρ ((i,v)::xs) ((i,v')::ys)
theorem V3.map (xs:List (Nat × Operand)) (h:∀ p,p ∈ xs→AM ρ (e p.2) (e' p.2)):V3 ρ (xs.map fun (i,x)=>(i,e x)) (xs.map fun (i,x)=>(i,e' x)):=by
 induction xs with
 | nil=>exact .nil
 | cons p xs ih=>exact .cons _ (h p (by simp)) (ih fun q hq=>h q (by simp [hq]))
theorem R4 (place:Nat→Option (Nat × Nat)):∀ {xs ys:List (Nat × Value)},V3 ρ xs ys→∀ {c c' r:Array Value},Aj ρ c.toList c'.toList→Instr.fill place c xs=some r →
  ∃ r',Instr.fill place c' ys=some r'∧Aj ρ r.toList r'.toList:=by
 intro xs ys h
 induction h with
 | nil =>
  intro c c' r hc hr; simp only [Instr.fill,Option.some.injEq] at hr; subst hr; exact ⟨c',rfl,hc⟩
 | @cons i v v' xs ys hv hp ih =>
  intro c c' r hc hr; rw [Instr.fill] at hr ⊢
  cases Z7:place i with
  | none=>rw [Z7] at hr; cases hr
  | some q =>
   obtain ⟨off,size⟩:=q; rw [Z7] at hr; simp only at hr ⊢; have Kr:=hv.cells; have e1:v'.cells.size=v.cells.size:=by have:=Kr.1; simpa using this.symm
   have e2:c'.size=c.size:=by have:=hc.1; simpa using this.symm
   rw [e1,e2]
   split at hr
   ·cases hr
   ·rename_i BE; rw [if_neg BE]; refine ih ?_ hr; rw [←Array.foldl_toList,←Array.foldl_toList,Array.toList_zipIdx,Array.toList_zipIdx]; exact UH off _ _ 0 _ _ Kr hc
theorem X4 {fs:List Field} {pl:List (Nat × Nat)} (h:(fs.mapM fun f=>(DC P f.type).map fun s=>(f.offset,s))=some pl) (w:World) :
  (fs.mapM fun f=>(do pure (f.offset,←sizeOf f.type):Sem (Nat × Nat))).run P w=.ok pl w:=by
 induction fs generalizing pl with
 | nil=>simp only [List.mapM_nil,Option.pure_def,Option.some.injEq] at h; subst h; simp
 | cons f fs ih =>
  rw [List.mapM_cons] at h
  cases hs:DC P f.type with
  | none=>simp [hs] at h
  | some s =>
   simp only [hs,Option.map_some,Option.bind_eq_bind,Option.bind_some] at h
   cases hr:(fs.mapM fun f=>(DC P f.type).map fun s=>(f.offset,s)) with
   | none=>simp [hr] at h
   | some pl2 =>
    simp only [hr,Option.bind_some,Option.pure_def,Option.some.injEq] at h; subst h; rw [List.mapM_cons]; simp only [Sem.run_bind,A8 hs,Result.andThen_ok,Sem.run_pure,ih hr]
theorem jf (hz:ZP P) {t:TypeId} {parts:Array (Nat × Operand)} (ho:o.op=.build t parts) (h:BD P o e W=some outs) (hw:AW P w0 ρ W w) (hp:∀ p,p ∈ parts.toList→AM ρ (e p.2) (e' p.2)) :
  Az P w0 ρ W ((execOp e' o).run P w) outs:=by
 simp only [BD,ho] at h; obtain ⟨v,hv,rfl⟩:=Dy h
 split at hv
 ·rename_i z fields JY ht
  split at hv
  ·rename_i Mn Z7; rw [Option.map_eq_some_iff] at hv; obtain ⟨r,hr,rfl⟩:=hv; obtain ⟨r',H5,CJ⟩:=R4 _ (V3.map (e:=e) (e':=e') parts.toList hp) (hz.rel JY ρ).cells hr; refine .value hw (v':=.agg r') ?_ (.Xy CJ); simp only [execOp,ho]; refine A5 ?_
   have hm:(fields.mapM fun f=>(do pure (f.offset,←sizeOf f.type):Sem (Nat × Nat))).run P w=.ok Mn.toArray w:=by
    have:=X4 Z7 w; rw [←Array.toArray_toList (xs:=fields),List.mapM_toArray]; simp only [Sem.run_map,this,Result.andThen_ok]
   simp only [Instr.build,Sem.run_bind,BO JY,Result.andThen_ok,AF ht,hm]; have:(fun i:Nat=>Mn.toArray[i]?)=(fun i:Nat=>Mn[i]?):=by funext i; simp
   rw [this,Array.toList_map,H5]; rfl
  ·cases hv
 ·rename_i z n elem JY ht
  split at hv
  ·rename_i s hs; rw [Option.map_eq_some_iff] at hv; obtain ⟨r,hr,rfl⟩:=hv; obtain ⟨r',H5,CJ⟩:=R4 _ (V3.map (e:=e) (e':=e') parts.toList hp) (hz.rel JY ρ).cells hr; refine .value hw (v':=.agg r') ?_ (.Xy CJ); simp only [execOp,ho]; refine A5 ?_; simp only [Instr.build,Sem.run_bind,BO JY,Result.andThen_ok,AF ht,A8 hs]; rw [Array.toList_map,H5]; rfl
  ·cases hv
 ·cases hv
theorem LZ (hz:ZP P) {t:TypeId} {z:Value} (JY:GP P t=some z) (n:Nat) (hn:n=0∨0<z.cells.size) (k:Nat) (hk:k<n) :
  AM ρ (cellAt .nil z.cells k) (((Array.range n).map (z.cells[· % z.cells.size]!)).getD k undef):=by
 have Mq:0<z.cells.size:=by omega
 have Ax:k % z.cells.size<z.cells.size:=Nat.mod_lt _ Mq; have h1:cellAt .nil z.cells k=z.cells.getD (k % z.cells.size) undef:=rfl
 have h2:((Array.range n).map (z.cells[· % z.cells.size]!)).getD k undef=z.cells.getD (k % z.cells.size) undef:=by
  simp [Array.getD_eq_getD_getElem?,hk,Ax]
 rw [h1,h2]; have hc:=(hz.rel JY ρ).cells.2 (k % z.cells.size) (by simpa using Ax)
 simpa [Array.getD_eq_getD_getElem?,List.getD_eq_getElem?_getD] using hc
theorem UI (hz:ZP P) {t:TypeId} {len:Nat} {parts:Array (Nat × Operand)} (ho:o.op=.buildSlice t len parts) (h:BD P o e W=some outs) (hw:AW P w0 ρ W w) (hp:∀ p,p ∈ parts.toList→AM ρ (e p.2) (e' p.2)) :
  Az P w0 ρ W ((execOp e' o).run P w) outs:=by
 simp only [BD,ho] at h; obtain ⟨v,W1,hv,rfl⟩:=LY h
 split at hv
 ·rename_i elem ht; obtain ⟨s,hs,hv⟩:=AX hv; obtain ⟨z,JY,hv⟩:=AX hv; rw [cond_eq_ite] at hv
  split at hv
  ·rename_i BE; simp only [Bool.and_eq_true] at BE; have hle:=Nat.le_of_ble_eq_true BE.1; have HV:=Nat.eq_of_beq_eq_true BE.2
   split at hv
   ·rename_i cs xz; simp only [Option.some.injEq,Prod.mk.injEq] at hv; obtain ⟨rfl,rfl⟩:=hv
    have hzero:len*s=0∨0<z.cells.size:=by
     rw [HV]
     rcases Nat.eq_zero_or_pos s with h0 | h0
     ·left; rw [h0]; rfl
     ·exact .inr h0
    have x4:Aj ρ ((BJ .nil z.cells (len*s) 0).toArray).toList ((Array.range (len*s)).map (z.cells[· % z.cells.size]!)).toList:=by
     refine ⟨by simp [Au],fun i hi=>?_⟩; have hi:i<len*s:=by simpa [Au] using hi
     have:=LZ (ρ:=ρ) hz JY (len*s) hzero i hi; have e1:=FI .nil z.cells (len*s) 0 i hi; rw [Nat.zero_add] at e1; simp only [e1]; rw [Array.getD_eq_getD_getElem?,←Array.getElem?_toList] at this; rw [List.getD_eq_getElem?_getD]; exact this
    obtain ⟨r',H5,CJ⟩:=R4 _ (V3.map (e:=e) (e':=e') parts.toList hp) x4 xz
    obtain ⟨ρ',CU,_,HI,ha⟩:=NS hw (c:=Tr.nil.AZ 0 cs.toList) (z:=#[]) (n:=cs.size) (c':=r') hs (by simpa using CJ.1.symm) (fun k hk=>by
     rw [CV _ _ _ (by simpa using hk)]; have:=CJ.2 k (by simpa using hk)
     simpa [Array.getD_eq_getD_getElem?,List.getD_eq_getElem?_getD] using this)
    refine ⟨_,_,ρ',List.mem_singleton.2 rfl,CU,.value (w:={ w with heap:=w.heap.push (.cells r' elem) }) ?_ (.slice _ ha (.inl rfl)) HI⟩; simp only [execOp,ho]; refine A5 ?_; have X5:¬len*s>2 ^ 24:=by omega
    have aW:∀ f g:Nat→Value,len*s=0→(Array.range (len*s)).map f=(Array.range (len*s)).map g:=fun f g h0=>by simp [h0]
    simp only [Instr.buildSlice,Sem.run_bind,AF ht,Result.andThen_ok,A8 hs]; rw [if_neg X5]
    by_cases h0:len*s=0
    ·rw [if_pos h0]; simp only [Sem.run_bind,Sem.run_pure,Result.andThen_ok]; rw [aW _ (z.cells[· % z.cells.size]!) h0,Array.toList_map,H5]; simp [newRow]
    ·rw [if_neg h0]; simp only [Sem.run_bind,BO JY,Sem.run_pure,Result.andThen_ok]; rw [Array.toList_map,H5]; simp [newRow]
   ·cases hv
  ·cases hv
 ·cases hv
theorem MN {t elem:TypeId} {k1 k2:IntKind} {ln cp:Int} {s:Nat} {z:Value} (ht:P.underlying t=some (.slice elem)) (hs:DC P elem=some s) (JY:GP P elem=some z) (c1:0≤ln) (c2:ln≤cp) (c3:cp≤2000000)
  (c4:(P.info? elem).map (·.bytes) |>.getD 0 |> (·≤1024)) (w:World) :
  (Instr.makeSlice t (.int k1 ln) (.int k2 cp)).run P w=.ok (.slice (some ⟨w.heap.size,0,none⟩) ln.toNat cp.toNat) { w with heap:=w.heap.push (.cells ((Array.range (cp.toNat*s)).map (z.cells[· % z.cells.size]!)) elem) }:=by
 obtain ⟨info,X6⟩:∃ i,P.info? elem=some i:=by
  unfold DC at hs
  cases hi:P.info? elem with
  | none=>simp [hi] at hs
  | some i=>exact ⟨i,rfl⟩
 have hb:info.bytes≤1024:=by simpa [X6] using c4
 have w1:IntKind.i64.wrap ln=ln:=by unfold IntKind.wrap; simp [IntKind.bits,IntKind.signed]; omega
 have w2:IntKind.i64.wrap cp=cp:=by unfold IntKind.wrap; simp [IntKind.bits,IntKind.signed]; omega
 have X5:(info.bytes:Int)*cp≤2 ^ 48:=by
  have h1:(info.bytes:Int)*cp≤1024*cp:=Int.mul_le_mul_of_nonneg_right (by omega) (by omega); omega
 have t1:(decide (cp<0) || decide ((info.bytes:Int)*cp>2 ^ 48))=false:=by simp; omega
 simp only [Instr.makeSlice,Sem.run_bind,AF ht,Result.andThen_ok,asInt,asIntOf,Sem.run_pure,Gf X6,w1,w2,Bool.or_eq_true,decide_eq_true_eq]; rw [if_neg (by omega)]; simp only [Sem.run_bind,run_askRoom,Result.andThen_ok,A8 hs]; have aW:∀ f g:Nat→Value,cp.toNat*s=0→(Array.range (cp.toNat*s)).map f=(Array.range (cp.toNat*s)).map g:=fun f g h0=>by simp [h0]
 by_cases h0:cp.toNat*s=0
 ·rw [if_pos h0]; simp only [Sem.run_bind,Sem.run_pure,Result.andThen_ok]; rw [aW _ (z.cells[· % z.cells.size]!) h0]; simp [newRow]
 ·rw [if_neg h0]; simp only [Sem.run_bind,BO JY,Sem.run_pure,Result.andThen_ok,newRow,run_newObj]
theorem V4 (hz:ZP P) {t:TypeId} {l c:Operand} (ho:o.op=.makeSlice t l c) (h:BD P o e W=some outs) (hw:AW P w0 ρ W w) (hl:AM ρ (e l) (e' l)) (hc:AM ρ (e c) (e' c)) :
  Az P w0 ρ W ((execOp e' o).run P w) outs:=by
 simp only [BD,ho] at h; obtain ⟨v,W1,hv,rfl⟩:=LY h
 split at hv
 ·rename_i elem k1 ln k2 cp ht h1 h2; rw [h1] at hl; rw [h2] at hc; generalize e1:e' l=vl at hl; generalize e2:e' c=vc at hc
  cases hl
  cases hc
  obtain ⟨s,hs,hv⟩:=AX hv; obtain ⟨z,JY,hv⟩:=AX hv; rw [cond_eq_ite] at hv
  split at hv
  ·rename_i BE; simp only [Bool.and_eq_true,decide_eq_true_eq] at BE; obtain ⟨⟨⟨⟨⟨c1,c2⟩,c3⟩,c4⟩,c5⟩,c6⟩:=BE; have c4:=Nat.le_of_ble_eq_true c4; have c5:=Nat.eq_of_beq_eq_true c5; have c6:0<s:=by have:=Nat.le_of_ble_eq_true c6; omega
   simp only [Option.some.injEq,Prod.mk.injEq] at hv; obtain ⟨rfl,rfl⟩:=hv; obtain ⟨ρ',CU,_,HI,ha⟩:=NS hw (c:=.nil) (z:=z.cells) (n:=cp.toNat*s) (c':=(Array.range (cp.toNat*s)).map (z.cells[· % z.cells.size]!)) hs (by simp) (fun k hk=>LZ hz JY _ (.inr (by omega)) k hk); refine ⟨_,_,ρ',List.mem_singleton.2 rfl,CU,.value (w:={ w with heap:=w.heap.push (.cells ((Array.range (cp.toNat*s)).map (z.cells[· % z.cells.size]!)) elem) }) ?_ (.slice _ ha (.inl rfl)) HI⟩; simp only [execOp,ho,e1,e2]; exact A5 (MN ht hs JY c1 c2 c3 c4 w)
  ·cases hv
 ·cases hv
end
end Go.Ce
namespace Go.Ce
open Go.RowKit (Below)
section
variable {P:Program} {w0:World} {ρ:BX} {W:CW} {w:World} {o:Oper} {e e':Operand→Value} {outs:List (BM × CW)}
theorem X7 {f:FuncId} {first cap:Array Operand} (ho:o.op=.makeFunc (.func f) first cap) (h:BD P o e W=some outs) (hw:AW P w0 ρ W w)
  (hf:∀ x,x ∈ first.toList→AM ρ (e x) (e' x)) (hc:∀ x,x ∈ cap.toList→AM ρ (e x) (e' x)):Az P w0 ρ W ((execOp e' o).run P w) outs:=by
 simp only [BD,ho] at h
 cases h
 have h1:=Aj.arr.1 (by simpa using Aj.map (ρ:=ρ) first.toList e e' hf:Aj ρ (first.map e).toList (first.map e').toList); have h2:=Aj.arr.1 (by simpa using Aj.map (ρ:=ρ) cap.toList e e' hc:Aj ρ (cap.map e).toList (cap.map e').toList); refine .value hw ?_ (.func (.func f) h1.1 h1.2 h2.1 h2.2); simp only [execOp,ho]; exact A5 (by simp [Instr.makeFunc])
theorem aX {t:TypeId} (ho:o.op=.makeMap t none) (h:BD P o e W=some outs) (hw:AW P w0 ρ W w):Az P w0 ρ W ((execOp e' o).run P w) outs:=by
 simp only [BD,ho] at h
 cases h
 obtain ⟨CU,HI⟩:=hw.new (o:=.map [] 0) (o':=.map #[] 0) ⟨w.heap.size,0,0,0,0⟩ rfl (.map rfl trivial); refine ⟨_,_,_,List.mem_singleton.2 rfl,CU,.value (v':=.map (some w.heap.size)) (w:={ w with heap:=w.heap.push (.map #[] 0) }) ?_ (.map ⟨⟨w.heap.size,0,0,0,0⟩,by simp,rfl⟩) HI⟩; simp only [execOp,ho]; exact A5 (by simp [Instr.makeMap])
theorem V5 {t:TypeId} {x:Operand} {i:Nat} (ho:o.op=.fieldAddr t x i) (h:BD P o e W=some outs) (hw:AW P w0 ρ W w) (hx:AM ρ (e x) (e' x)) :
  Az P w0 ρ W ((execOp e' o).run P w) outs:=by
 simp only [BD,ho] at h; obtain ⟨v,hv,rfl⟩:=Dy h
 split at hv
 ·rename_i fs a ht hc; rw [hc] at hx; generalize D5:e' x=PZ at hx
  cases hx with
  | @ptr _ a' ha =>
   split at hv
   ·rename_i fd jg
    split at hv
    ·rename_i m hm; rw [cond_eq_ite] at hv
     split at hv
     ·cases hv
     ·rename_i jY; have jY:m≠0:=by simpa using jY
      cases hv
      refine .value hw (v':=.pointer (some (a'.add fd.offset))) ?_ (.ptr (NQ ha _)); simp only [execOp,ho,D5]; refine A5 ?_; simp only [Instr.fieldAt,Sem.run_bind,AF ht,Result.andThen_ok,jg,Instr.sureAddr,Sem.run_pure,fieldPlace,A8 hm,if_neg jY]
    ·cases hv
   ·cases hv
 ·cases hv
theorem Aj.extract {c c':Array Value} (h:Aj ρ c.toList c'.toList) (i j:Nat):Aj ρ (c.extract i j).toList (c'.extract i j).toList:=by
 rw [Aj.arr] at h ⊢; refine ⟨by simp [h.1],fun k hk=>?_⟩; have hk:k<min j c.size-i:=by simpa using hk
 have h2:=h.2 (i+k) (by omega); have l1:i+k<c.size:=by omega
 have l2:i+k<c'.size:=by omega
 simp only [Array.getD_eq_getD_getElem?] at h2 ⊢; have g1:(c.extract i j)[k]?=c[i+k]?:=by rw [Array.getElem?_extract,if_pos (by omega)]
 have g2:(c'.extract i j)[k]?=c'[i+k]?:=by rw [Array.getElem?_extract,if_pos (by omega)]
 rw [g1,g2]; exact h2
theorem X8 {t:TypeId} {cs T9:Array Value} {off:Nat} {v:Value} (hl:Aj ρ cs.toList T9.toList)
  (h:(agg? P t=some true∧∃ m,DC P t=some m∧v=.agg (cs.extract off (off+m)))∨(agg? P t=some false∧cs[off]?=some v)) :
  ∃ v',(part t T9 off).run P w=.ok v' w∧AM ρ v v':=by
 rcases h with ⟨ha,m,hm,rfl⟩ | ⟨ha,hv⟩
 ·refine ⟨.agg (T9.extract off (off+m)),?_,.Xy (hl.extract _ _)⟩; simp only [part,Sem.run_bind,Eg ha,Result.andThen_ok,if_true,A8 hm,Sem.run_pure]
 ·obtain ⟨y,hy,hr⟩:=hl.get (x:=v) (i:=off) (by simpa using hv); have hy:T9[off]?=some y:=by simpa using hy
  refine ⟨y,?_,hr⟩; simp only [part,Sem.run_bind,Eg ha,Result.andThen_ok,Bool.false_eq_true,if_false,hy,Sem.run_pure]
theorem jh {t:TypeId} {x:Operand} {i:Nat} (ho:o.op=.field t x i) (h:BD P o e W=some outs) (hw:AW P w0 ρ W w) (hx:AM ρ (e x) (e' x)) :
  Az P w0 ρ W ((execOp e' o).run P w) outs:=by
 simp only [BD,ho] at h; obtain ⟨v,hv,rfl⟩:=Dy h
 split at hv
 ·rename_i fs cs ht hc; rw [hc] at hx; generalize D5:e' x=PZ at hx; obtain ⟨T9,rfl,hl⟩:=hx.Ep
  split at hv
  ·rename_i fd jg
   obtain ⟨v',hr,F7⟩:=X8 (P:=P) (w:=w) (t:=fd.type) (off:=fd.offset) (v:=v) hl (by
    split at hv
    ·rename_i m ha hm
     cases hv
     exact .inl ⟨ha,m,hm,rfl⟩
    ·rename_i ha; exact .inr ⟨ha,hv⟩
    ·cases hv)
   refine .value hw ?_ F7; simp only [execOp,ho,D5]; refine A5 ?_; simp only [Instr.field,Sem.run_bind,AF ht,Result.andThen_ok,jg,asAgg,Sem.run_pure,hr]
  ·cases hv
 ·cases hv
theorem V6 {t:TypeId} {x ix:Operand} (ho:o.op=.indexAddr t x ix) (h:BD P o e W=some outs) (hw:AW P w0 ρ W w) (hx:AM ρ (e x) (e' x)) (hi:AM ρ (e ix) (e' ix)) :
  Az P w0 ρ W ((execOp e' o).run P w) outs:=by
 simp only [BD,ho] at h; obtain ⟨v,hv,rfl⟩:=Dy h
 split at hv
 ·rename_i k i ji; rw [ji] at hi; generalize D5:e' ix=vi' at hi
  cases hi
  split at hv
  ·rename_i len elem a ht hc; rw [hc] at hx; generalize OL:e' x=PZ at hx
   cases hx with
   | @ptr _ a' ha =>
    obtain ⟨s,hs,hv⟩:=AX hv; rw [cond_eq_ite] at hv
    split at hv
    ·rename_i BE; simp only [Bool.and_eq_true,decide_eq_true_eq] at BE
     cases hv
     refine .value hw (v':=.pointer (some (a'.add (i.toNat*s)))) ?_ (.ptr (NQ ha _)); simp only [execOp,ho,D5,OL]; refine A5 ?_; simp only [Instr.indexAt,Sem.run_bind,asIntOf,Sem.run_pure,Result.andThen_ok,AF ht,Instr.sureAddr,if_pos BE,A8 hs]
    ·cases hv
  ·rename_i elem a len cp ht hc; rw [hc] at hx; generalize OL:e' x=PZ at hx
   have:∃ a' c',PZ=.slice (some a') len c'∧(len=0∨Jc ρ a a'):=by
    cases hx with
    | slice _ ha _=>exact ⟨_,_,rfl,.inr ha⟩
    | Ig _ _ _ _ _=>exact ⟨_,_,rfl,.inl rfl⟩
    | HH _=>exact ⟨_,_,rfl,.inl rfl⟩
   obtain ⟨a',c',rfl,aY⟩:=this; obtain ⟨s,hs,hv⟩:=AX hv; rw [cond_eq_ite] at hv
   split at hv
   ·rename_i BE; simp only [Bool.and_eq_true,decide_eq_true_eq] at BE
    cases hv
    have ha:Jc ρ a a':=aY.resolve_left (by omega); refine .value hw (v':=.pointer (some (a'.add (i.toNat*s)))) ?_ (.ptr (NQ ha _)); simp only [execOp,ho,D5,OL]; refine A5 ?_; simp only [Instr.indexAt,Sem.run_bind,asIntOf,Sem.run_pure,Result.andThen_ok,AF ht,if_pos BE,A8 hs]
   ·cases hv
  ·cases hv
 ·cases hv
theorem jj {t:TypeId} {x ix:Operand} (ho:o.op=.index t x ix) (h:BD P o e W=some outs) (hw:AW P w0 ρ W w) (hx:AM ρ (e x) (e' x)) (hi:AM ρ (e ix) (e' ix)) :
  Az P w0 ρ W ((execOp e' o).run P w) outs:=by
 simp only [BD,ho] at h; obtain ⟨v,hv,rfl⟩:=Dy h
 split at hv
 ·rename_i k i ji; rw [ji] at hi; generalize D5:e' ix=vi' at hi
  cases hi
  split at hv
  ·rename_i len elem cs ht hc; rw [hc] at hx; generalize OL:e' x=PZ at hx; obtain ⟨T9,rfl,hl⟩:=hx.Ep; rw [cond_eq_ite] at hv
   split at hv
   ·rename_i BE; simp only [Bool.and_eq_true,decide_eq_true_eq] at BE
    have:∃ m,DC P elem=some m∧((agg? P elem=some true∧∃ n,DC P elem=some n∧v=.agg (cs.extract (i.toNat*m) (i.toNat*m+n)))∨(agg? P elem=some false∧cs[i.toNat*m]?=some v)):=by
     split at hv
     ·rename_i m ha hm
      cases hv
      exact ⟨m,hm,.inl ⟨ha,m,hm,rfl⟩⟩
     ·rename_i m ha hm; exact ⟨m,hm,.inr ⟨ha,hv⟩⟩
     ·cases hv
    obtain ⟨m,hm,hp⟩:=this; obtain ⟨v',hr,F7⟩:=X8 (P:=P) (w:=w) hl hp; refine .value hw ?_ F7; simp only [execOp,ho,D5,OL]; refine A5 ?_; simp only [Instr.index,Sem.run_bind,asIntOf,Sem.run_pure,Result.andThen_ok,AF ht,if_pos BE,A8 hm,hr]
   ·cases hv
  ·rename_i s ht hc; rw [hc] at hx; generalize OL:e' x=PZ at hx
   cases hx
   rw [cond_eq_ite] at hv
   split at hv
   ·rename_i BE; have BE:0≤i:=by simpa using BE
    cases hs:s[i.toNat]? with
    | none=>rw [hs] at hv; cases hv
    | some b =>
     rw [hs] at hv
     cases hv
     refine .value hw ?_ (.int _ _); simp only [execOp,ho,D5,OL]; refine A5 ?_; simp only [Instr.index,Sem.run_bind,asIntOf,Sem.run_pure,Result.andThen_ok,AF ht,if_pos BE,hs]
   ·cases hv
  ·cases hv
 ·cases hv
theorem jk {t:TypeId} {x:Operand} {lo hi mx:Option Operand} (ho:o.op=.slice t x lo hi mx) (h:BD P o e W=some outs) (hw:AW P w0 ρ W w) (hx:AM ρ (e x) (e' x))
  (hl:∀ y,lo=some y→AM ρ (e y) (e' y)) (hh:∀ y,hi=some y→AM ρ (e y) (e' y)) (hm:∀ y,mx=some y→AM ρ (e y) (e' y)):Az P w0 ρ W ((execOp e' o).run P w) outs:=by
 simp only [BD,ho] at h; obtain ⟨v,hv,rfl⟩:=Dy h; have rl:=KE.map (ρ:=ρ) (f:=e) (g:=e') lo hl; have rh:=KE.map (ρ:=ρ) (f:=e) (g:=e') hi hh; have rm:=KE.map (ρ:=ρ) (f:=e) (g:=e') mx hm
 split at hv
 ·rename_i s ht hc; rw [hc] at hx; generalize OL:e' x=PZ at hx
  cases hx
  obtain ⟨h',hh',hv⟩:=AX hv; obtain ⟨l',UJ,hv⟩:=AX hv; rw [cond_eq_ite] at hv
  split at hv
  ·cases hv
  ·rename_i i_
   cases hv
   have i_:mx=none:=by cases mx <;> simp_all
   subst i_; have hb:=Je (P:=P) (ρ:=ρ) (mx:=none) (sG:=none) (cap:=s.size) (cap':=s.size) (m:=s.size) false rfl hh' UJ rl rh trivial (Nat.le_refl _) (by simp); obtain ⟨m',hr,_,_⟩:=hb; refine .value hw ?_ (.string _); simp only [execOp,ho,OL]; refine A5 ?_; simp only [Instr.sliceAt,Sem.run_bind,AF ht,Result.andThen_ok,Instr.slice,Option.map_none,Option.isSome_none,Bool.false_eq_true,if_false,Sem.run_pure,hr]
 ·obtain ⟨v',hr,F7⟩:=V0 hw hv hx rl rh rm; refine .value hw ?_ F7; simp only [execOp,ho]; exact A5 hr
theorem UK (hz:ZP P) {x:Operand} {xt t:TypeId} {ok:Bool} (ho:o.op=.typeAssert x xt t ok) (h:BD P o e W=some outs) (hw:AW P w0 ρ W w) (hx:AM ρ (e x) (e' x)) :
  Az P w0 ρ W ((execOp e' o).run P w) outs:=by
 simp only [BD,ho] at h; obtain ⟨v,hv,rfl⟩:=Dy h
 split at hv
 ·cases hv
 ·rename_i d u y h1 h2 x5; have hc:P.underlying t=some d:=by first | exact h1 | exact h2
  have ht:∀ m,d=.interface m→False:=by first | exact h1 | exact h2
  rw [x5] at hx; generalize OL:e' x=PZ at hx
  cases hx with
  | @iface _ _ y' hy =>
   rw [cond_eq_ite] at hv; have Dp:∀ m,d≠.interface m:=fun m hm=>ht m hm
   have run:∀ {v':Value},((t=u∧v'=(if ok=true then .tuple #[y',.bool true] else y'))∨(t≠u∧ok=true∧∃ z,GP P t=some z∧v'=.tuple #[z,.bool false])) →
     (Instr.typeAssert (.iface u y') xt t ok).run P w=.ok v' w:=by
    intro v' hr; simp only [Instr.typeAssert,Sem.run_bind,AF hc,Result.andThen_ok]
    rcases hr with ⟨Z8,rfl⟩ | ⟨Z8,rfl,z,JY,rfl⟩
    ·cases d <;> first | (exact (Dp _ rfl).elim) | (simp [Z8])
    ·cases d <;> first | (exact (Dp _ rfl).elim) | (simp [Ne.symm Z8,BO JY])
   split at hv
   ·rename_i Z8; have Z8:t=u:=by simpa using Z8
    cases hv
    refine .value hw (v':=if ok=true then .tuple #[y',.bool true] else y') ?_ ?_
    ·simp only [execOp,ho,OL]; exact A5 (run (.inl ⟨Z8,rfl⟩))
    ·cases ok
     ·simpa using hy
     ·simp only [cond_true,if_true]; exact .tuple' (.cons hy (.cons (.bool _) (.nil _)))
   ·rename_i Z8; have Z8:¬t=u:=by simpa using Z8
    cases ok
    ·cases hv
    ·simp only [cond_true] at hv; rw [Option.map_eq_some_iff] at hv; obtain ⟨z,JY,rfl⟩:=hv; refine .value hw (v':=.tuple #[z,.bool false]) ?_ (.tuple' (.cons (hz.rel JY ρ) (.cons (.bool _) (.nil _)))); simp only [execOp,ho,OL]; exact A5 (run (.inr ⟨Z8,rfl,z,JY,rfl⟩))
 ·cases hv
theorem jl {x:Operand} (ho:o.op=.panic x) (h:BD P o e W=some outs) (hw:AW P w0 ρ W w) (hx:AM ρ (e x) (e' x)):Az P w0 ρ W ((execOp e' o).run P w) outs:=by
 simp only [BD,ho] at h
 split at h
 ·rename_i t y hc
  cases h
  rw [hc] at hx; generalize OL:e' x=PZ at hx
  cases hx with
  | @iface _ _ y' hy =>
   refine ⟨_,_,ρ,List.mem_singleton.2 rfl,.refl _,.panic (v':=.iface t y') (w:=w) ?_ (.iface _ hy) hw⟩; simp [execOp,ho,OL,Instr.panic]
 ·cases h
theorem jm {c:Call} {f:Operand} (ho:o.op=.defer c) (hf:c.callee=.value f) (h:BD P o e W=some outs) (hw:AW P w0 ρ W w) (hx:AM ρ (e f) (e' f))
  (ha:∀ x,x ∈ c.args.toList→AM ρ (e x) (e' x)):Az P w0 ρ W ((execOp e' o).run P w) outs:=by
 simp only [BD,ho,hf] at h; have CN:Aj ρ (c.args.map e).toList (c.args.map e').toList:=by simpa using Aj.map (ρ:=ρ) c.args.toList e e' ha
 split at h
 ·rename_i fn first cap hc
  cases h
  rw [hc] at hx; generalize OL:e' f=PZ at hx
  cases hx with
  | @func _ f' _ x' _ y' V7 h1 h2 h3 h4 =>
   cases V7
   refine ⟨_,_,ρ,List.mem_singleton.2 rfl,.refl _,.defer (w:=w) (d':={ target:=.fn (.func fn) y',args:=x'++c.args.map e' }) ?_ (.fn ?_ ?_) hw⟩
   ·simp only [execOp,ho,resolve,hf,OL,Deferred.ofValue,Sem.run_bind,Sem.run_pure,Result.andThen_ok]
   ·exact Aj.arr.2 ⟨h3,h4⟩
   ·have e1:=Aj.arr.2 ⟨h1,h2⟩
    simpa using e1.append CN
 ·cases h
end
end Go.Ce
namespace Go.Ce
open Go.RowKit (Below)
section
variable {P:Program} {w0:World} {ρ:BX} {W:CW} {w:World} {o:Oper} {e e':Operand→Value} {outs:List (BM × CW)}
theorem Am {r:Nat} {u:Obj} (h:w.heap[r]?=some u) (hc:∀ c e z,u≠.cells c e z):(getObj r).run P w=.ok u w:=by
 cases u <;> first | exact (hc _ _ _ rfl).elim | simp [getObj,Sem.run,h]
theorem CX {r:Nat} {u:Obj} (h:w.heap[r]?=some u) (hc:∀ c e z,u≠.cells c e z) (v:Obj):(setObj r v).run P w=.ok () { w with heap:=w.heap.setIfInBounds r v }:=by
 cases u <;> first | exact (hc _ _ _ rfl).elim | simp [setObj,Sem.run,h]
theorem X9 {d:TypeDesc} {k k' v v':Value} {b:Bool} (h:Instr.sameNow d k v=some b) (hk:AM ρ k k') (hv:AM ρ v v'):Instr.sameNow d k' v'=some b:=by
 unfold Instr.sameNow at h ⊢; split at h <;> first | (cases h; done) | skip
 all_goals
  cases hk
  cases hv
  exact h
theorem X' {d:TypeDesc} {k k':Value} (hk:AM ρ k k'):∀ {es By:List MapEntry},Bc ρ es By→∀ {i:Nat} {r:Option (Nat × Value)},Instr.findNow d k es i=some r →
  ∃ r',Instr.findNow d k' By i=some r'∧((r=none∧r'=none)∨∃ j v v' en,r=some (j,v)∧r'=some (j,v')∧AM ρ v v'∧i≤j∧By[j-i]?=some en∧Instr.sameNow d k' en.key=some true):=by
 intro es
 induction es with
 | nil =>
  intro By jn i r h
  cases By with
  | nil=>simp only [Instr.findNow,Option.some.injEq] at h; subst h; exact ⟨none,rfl,.inl ⟨rfl,rfl⟩⟩
  | cons _ _=>exact jn.elim
 | cons en es ih =>
  intro By jn i r h
  cases By with
  | nil=>exact jn.elim
  | cons Xe By =>
   obtain ⟨h1,h2⟩:=jn
   cases h1 with
   | @mk k1 v1 w_ oH born hkk jo =>
    rw [Instr.findNow] at h ⊢; simp only at h ⊢
    cases hs:Instr.sameNow d k k1 with
    | none=>rw [hs] at h; cases h
    | some b =>
     have L5:=X9 hs hk hkk; rw [hs] at h; rw [L5]
     cases b with
     | true =>
      cases h
      exact ⟨_,rfl,.inr ⟨i,v1,oH,⟨w_,oH,born⟩,rfl,rfl,jo,Nat.le_refl _,by simp,L5⟩⟩
     | false =>
      obtain ⟨r',H5,A0⟩:=ih h2 h; refine ⟨r',H5,A0.imp id ?_⟩; rintro ⟨j,v,v',en2,e1,e2,e3,e4,e5,e6⟩; refine ⟨j,v,v',en2,e1,e2,e3,by omega,?_,e6⟩; have:j-i=(j-(i+1))+1:=by omega
      rw [this]; simpa using e5
theorem X_ {d:TypeDesc} {k v:Value} (h:Instr.sameNow d k v=some true):Instr.sameBits 10000 v k=true:=by
 unfold Instr.sameNow at h
 split at h <;> first | (cases h; done) | skip
 ·rename_i k1 a k2 b
  split at h
  ·rename_i hk; subst hk; have:a=b:=by simpa using h
   subst this; simp [Instr.sameBits]
  ·cases h
 ·rename_i a b; have h:(a == b)=true:=by simpa using h
  have:a=b:=by
   cases a; cases b
   have h:(_ == _)=true:=h; exact congrArg ByteArray.mk (Array.eq_of_isEqv _ _ (show Array.isEqv _ _ (fun a b=>a == b)=true from h))
  subst this; exact h
 ·rename_i a b; have:a=b:=by simpa using h
  subst this; simp [Instr.sameBits]
theorem V8 {b:Bool} {t:TypeId} {d:TypeDesc} {k:Value} (hu:P.underlying t=some d) (hs:HU d=true) (w:World):(Instr.checkKey b 10000 t k).run P w=.ok () w:=by
 rw [Instr.checkKey]; simp only [Sem.run_bind,AF hu,Result.andThen_ok]
 cases d <;> first | (cases hs; done) | rfl
theorem jq (d:TypeDesc) (k v:Value):MK d k v=Instr.sameNow d k v:=by
 unfold MK
 split
 ·rename_i a b; simp only [Instr.sameNow,OW,beq_toListBytes]
 ·rfl
theorem P4 (d:TypeDesc) (k:Value):∀ (es:List MapEntry) (i:Nat),Iy d k es i=Instr.findNow d k es i
 | [],_=>rfl
 | e::es,i=>by simp only [Iy,Instr.findNow,jq,P4 d k es]; rfl
theorem R5 {x y x' y':Value} (h:Mm x y=true) (hx:AM ρ x x') (hy:AM ρ y y'):x'=y'∧∀ n,Instr.sameBits n y' x'=true:=by
 unfold Mm at h
 split at h
 ·simp only [Bool.and_eq_true,decide_eq_true_eq] at h; obtain ⟨rfl,rfl⟩:=h
  cases hx; cases hy
  exact ⟨rfl,fun n=>by cases n <;> simp [Instr.sameBits]⟩
 ·have:=Ks h; subst this
  cases hx; cases hy
  exact ⟨rfl,fun n=>by cases n <;> simp [Instr.sameBits,beq_toListBytes]⟩
 ·have:=eq_of_beq h; subst this
  cases hx; cases hy
  exact ⟨rfl,fun n=>by cases n <;> simp [Instr.sameBits]⟩
 ·cases h
theorem NT:∀ {xs ys M9 Q9:List Value},NH xs ys=true→Aj ρ xs M9→Aj ρ ys Q9→M9=Q9∧∀ n,((Q9.zip M9).all fun (x,y)=>Instr.sameBits n x y)=true
 | [],[],M9,Q9,_,hx,hy=>by
  have h1:M9=[]:=List.length_eq_zero_iff.1 hx.1.symm; have h2:Q9=[]:=List.length_eq_zero_iff.1 hy.1.symm; subst h1 h2; exact ⟨rfl,fun _=>rfl⟩
 | x::xs,y::ys,[],_,_,hx,_=>by have:=hx.1; simp at this
 | x::xs,y::ys,_::_,[],_,_,hy=>by have:=hy.1; simp at this
 | x::xs,y::ys,x'::M9,y'::Q9,h,hx,hy=>by
  simp only [NH,Bool.and_eq_true] at h; obtain ⟨e1,e2⟩:=R5 h.1 hx.head hy.head; obtain ⟨e3,e4⟩:=NT h.2 hx.tail hy.tail; exact ⟨by rw [e1,e3],fun n=>by simp only [List.zip_cons_cons,List.all_cons,e2 n,e4 n,Bool.and_self]⟩
 | [],_::_,_,_,h,_,_=>by cases h
 | _::_,[],_,_,h,_,_=>by cases h
theorem YA {k v k' v':Value} (h:Vq k v=true) (hk:AM ρ k k') (hv:AM ρ v v'):Instr.sameBits 10000 v' k'=true:=by
 unfold Vq at h
 split at h
 ·obtain ⟨M9,rfl,hx⟩:=hk.Ep; obtain ⟨Q9,rfl,hy⟩:=hv.Ep; obtain ⟨e1,e2⟩:=NT h hx hy; have e:M9=Q9:=Array.ext' e1; rw [show (10000:Nat)=9999+1 from rfl,Instr.sameBits]; rw [e2 9999,e]; simp
 ·cases h
theorem QN {b:Bool} {n:Nat} {cs T9:Array Value} (hc:Aj ρ cs.toList T9.toList) (w:World):∀ (fs:List Field),
  (fs.all fun f=>!(f.name == "_") && (match P.underlying f.type with | some d=>HU d | none=>false) && (PS P f.type cs f.offset).isSome)=true →
  (forIn fs PUnit.unit (fun f _=>do
   if f.name≠"_" then do Instr.checkKey b (n+1) f.type (←part f.type T9 f.offset); pure (ForInStep.yield PUnit.unit) else pure (ForInStep.yield PUnit.unit)):Sem PUnit).run P w=.ok PUnit.unit w:=by
 intro fs
 induction fs with
 | nil=>intro _; simp
 | cons f fs ih =>
  intro h; simp only [List.all_cons,Bool.and_eq_true] at h; obtain ⟨⟨⟨h1,h2⟩,h3⟩,h4⟩:=h; have hn:f.name≠"_":=by simpa using h1
  obtain ⟨v,hv⟩:=Option.isSome_iff_exists.1 h3; obtain ⟨v',F7,_⟩:=I1 hv hc w
  have KW:(Instr.checkKey b (n+1) f.type v').run P w=.ok () w:=by
   split at h2
   ·rename_i d hd; rw [Instr.checkKey]; simp only [Sem.run_bind,AF hd,Result.andThen_ok]
    cases d <;> first | (cases h2; done) | rfl
   ·cases h2
  simp only [List.forIn_cons,if_pos hn,Sem.run_bind,F7,Result.andThen_ok,KW,Sem.run_pure]; exact ih h4
theorem fe {t:TypeId} {k k':Value} (hk:AM ρ k k'):∀ {es By:List MapEntry},Bc ρ es By→∀ {i:Nat} {r:Option (Nat × Value)},Xt P t k es i=some r →
  ∃ r',(∀ w:World,(Instr.findAsking t k' By i).run P w=.ok r' w)∧((r=none∧r'=none)∨∃ j v v' en,r=some (j,v)∧r'=some (j,v')∧AM ρ v v'∧i≤j∧By[j-i]?=some en∧Instr.sameBits 10000 en.key k'=true):=by
 intro es
 induction es with
 | nil =>
  intro By he i r h
  cases By with
  | cons=>exact he.elim
  | nil =>
   simp only [Xt,Option.some.injEq] at h; subst h; exact ⟨none,fun w=>by simp [Instr.findAsking],.inl ⟨rfl,rfl⟩⟩
 | cons en es ih =>
  intro By he i r h
  cases By with
  | nil=>exact he.elim
  | cons Xe By =>
   obtain ⟨h1,h2⟩:=he
   cases h1 with
   | @mk k1 v1 w_ oH b hkk jo =>
    simp only [Xt] at h
    have run:∀ (b:Bool),Xs P 20 t k k1=some b→∀ w:World,(Op.equal t k' w_).run P w=.ok b w:=fun b hb w=>by
     rw [GS]; exact Mr 20 _ _ _ _ _ _ hb hk hkk 10000 (by omega) w
    split at h
    ·rename_i R6; rw [cond_eq_ite] at h
     split at h
     ·rename_i x6
      cases h
      refine ⟨some (i,oH),fun w=>by simp only [Instr.findAsking,Sem.run_bind,run true R6,Result.andThen_ok,if_true,Sem.run_pure],.inr ⟨i,v1,oH,_,rfl,rfl,jo,Nat.le_refl _,by simp; rfl,?_⟩⟩; exact YA x6 hk hkk
     ·cases h
    ·rename_i R6; obtain ⟨r',H5,A0⟩:=ih h2 h; refine ⟨r',fun w=>by simp only [Instr.findAsking,Sem.run_bind,run false R6,Result.andThen_ok,Bool.false_eq_true,if_false,H5],A0.imp id ?_⟩; rintro ⟨j,v,v',en,e1,e2,e3,e4,e5,e6⟩; refine ⟨j,v,v',en,e1,e2,e3,by omega,?_,e6⟩; have:j-i=(j-(i+1))+1:=by omega
     rw [this]; simpa using e5
    ·cases h
theorem Kt {t:TypeId} {k k':Value} {es By:List MapEntry} {r:Option (Nat × Value)} (h:ML P t k es=some r) (hk:AM ρ k k') (he:Bc ρ es By) :
  ∃ r',(∀ (b:Bool) (w:World),(Instr.checkKey b 10000 t k').run P w=.ok () w)∧(∀ w:World,(Instr.findKey t k' By).run P w=.ok r' w) ∧
   ((r=none∧r'=none)∨∃ j v v' en,r=some (j,v)∧r'=some (j,v')∧AM ρ v v'∧By[j]?=some en∧Instr.sameBits 10000 en.key k'=true):=by
 unfold ML at h
 cases hd:P.underlying t with
 | none=>rw [hd] at h; cases h
 | some d =>
  rw [hd] at h; simp only [cond_eq_ite] at h
  split at h
  ·rename_i hs; rw [P4] at h; obtain ⟨r',H5,A0⟩:=X' hk he h
   refine ⟨r',fun b w=>V8 hd hs w,fun w=>?_,A0.imp id ?_⟩
   ·simp only [Instr.findKey,Sem.run_bind,AF hd,Result.andThen_ok,H5,Sem.run_pure]
   ·rintro ⟨j,v,v',en,e1,e2,e3,_,e5,e6⟩; exact ⟨j,v,v',en,e1,e2,e3,by simpa using e5,X_ e6⟩
  ·split at h
   ·rename_i hf; unfold df at hf; rw [hd] at hf
    split at hf
    ·rename_i fs cs dm
     cases dm
     simp only [Bool.and_eq_true] at hf; obtain ⟨YB,V9⟩:=hf; obtain ⟨T9,rfl,hc⟩:=hk.Ep; obtain ⟨r',H5,A0⟩:=fe hk he h
     refine ⟨r',fun b w=>?_,fun w=>?_,A0.imp id ?_⟩
     ·have:=QN (P:=P) (b:=b) (n:=9998) hc w fs.toList V9; rw [show (10000:Nat)=9999+1 from rfl,Instr.checkKey]; simp only [Sem.run_bind,AF hd,Result.andThen_ok]; rw [←Array.forIn_toList,this]; rfl
     ·have ABS:Instr.findNow (.struct fs) (.agg T9) By 0=(match By with | []=>some none | _::_=>none):=by
       cases By with
       | nil=>rfl
       | cons e By=>simp [Instr.findNow,Instr.sameNow]
      simp only [Instr.findKey,Sem.run_bind,AF hd,Result.andThen_ok,ABS]
      cases By with
      | nil=>have:=H5 w; simpa [Instr.findAsking] using this
      | cons e By=>exact H5 w
     ·rintro ⟨j,v,v',en,e1,e2,e3,_,e5,e6⟩; exact ⟨j,v,v',en,e1,e2,e3,by simpa using e5,e6⟩
    ·cases hf
   ·cases h
theorem AW.P5 (h:AW P w0 ρ W w) {r r':Nat} (hr:Kn ρ r r') {es:List MapEntry} {Dq:Nat} (ho:W.obj r=some (.map es Dq)) :
  ∃ x By,ρ r=some x∧r'=x.b∧x.o=0∧w.heap[r']?=some (.map By Dq)∧Bc ρ es By.toList:=by
 obtain ⟨x,hx,rfl⟩:=hr; obtain ⟨o',G5,hr⟩:=h.obj ho (by simp) hx rfl
 cases hr with
 | map h1 h2=>exact ⟨x,_,hx,rfl,h1,G5,h2⟩
theorem fg (hz:ZP P) {t:TypeId} {x k:Operand} {ok:Bool} (ho:o.op=.lookup t x k ok) (h:BD P o e W=some outs) (hw:AW P w0 ρ W w) (hx:AM ρ (e x) (e' x)) (hk:AM ρ (e k) (e' k)) :
  Az P w0 ρ W ((execOp e' o).run P w) outs:=by
 simp only [BD,ho] at h; obtain ⟨v,hv,rfl⟩:=Dy h
 split at hv
 ·rename_i kt elem ht; obtain ⟨z,JY,hv⟩:=AX hv; obtain ⟨es,jn,hv⟩:=AX hv; obtain ⟨r,hr,hv⟩:=AX hv
  have:∃ By:Array MapEntry,Bc ρ es By.toList∧((e' x=.map none∧By=#[])∨∃ r Dq,e' x=.map (some r)∧w.heap[r]?=some (.map By Dq)):=by
   generalize e' x=PZ at *
   split at jn
   ·rename_i hc; rw [hc] at hx
    cases hx
    cases jn
    exact ⟨#[],trivial,.inl ⟨rfl,rfl⟩⟩
   ·rename_i r0 hc; rw [hc] at hx
    cases hx with
    | map hb =>
     split at jn
     ·rename_i es0 Dq BS
      cases jn
      obtain ⟨x,By,_,_,_,hh,CJ⟩:=hw.P5 hb BS; exact ⟨By,CJ,.inr ⟨_,_,rfl,hh⟩⟩
     ·cases jn
   ·cases jn
  obtain ⟨By,CJ,sJ⟩:=this; obtain ⟨r',KW,II,A0⟩:=Kt hr hk CJ
  have G7:∀ y:Value × Bool,((r'=none∧y=(z,false))∨∃ j,r'=some (j,y.1)∧y.2=true) →
    (Instr.lookup t (e' x) (e' k) ok).run P w=.ok (if ok then .tuple #[y.1,.bool y.2] else y.1) w:=by
   intro y hy
   rcases sJ with ⟨hc,rfl⟩ | ⟨r,Dq,hc,hh⟩ <;> rcases hy with ⟨rfl,rfl⟩ | ⟨j,rfl,h2⟩
   ·simp only [Instr.lookup,Sem.run_bind,AF ht,Result.andThen_ok,hc,Sem.run_pure,KW,II,BO JY]
   ·simp only [Instr.lookup,Sem.run_bind,AF ht,Result.andThen_ok,hc,Sem.run_pure,KW,II,h2]
   ·simp only [Instr.lookup,Sem.run_bind,AF ht,Result.andThen_ok,hc,Am hh (by simp),Sem.run_pure,KW,II,BO JY]
   ·simp only [Instr.lookup,Sem.run_bind,AF ht,Result.andThen_ok,hc,Am hh (by simp),Sem.run_pure,KW,II,h2]
  rcases A0 with ⟨rfl,rfl⟩ | ⟨j,x1,x7,en,rfl,rfl,sK,_,_⟩
  ·cases hv
   refine .value hw ?_ ?_ (v':=if ok then .tuple #[z,.bool false] else z)
   ·simp only [execOp,ho]; exact A5 (G7 (z,false) (.inl ⟨rfl,rfl⟩))
   ·cases ok
    ·exact hz.rel JY ρ
    ·exact .tuple' (.cons (hz.rel JY ρ) (.cons (.bool _) (.nil _)))
  ·cases hv
   refine .value hw ?_ ?_ (v':=if ok then .tuple #[x7,.bool true] else x7)
   ·simp only [execOp,ho]; exact A5 (G7 (x7,true) (.inr ⟨j,rfl,rfl⟩))
   ·cases ok
    ·exact sK
    ·exact .tuple' (.cons sK (.cons (.bool _) (.nil _)))
 ·cases hv
theorem Bc.push:∀ {es By:List MapEntry},Bc ρ es By→∀ {a b:MapEntry},Vx ρ a b→Bc ρ (es++[a]) (By++[b])
 | [],[],_,_,_,h=>⟨h,trivial⟩
 | _::_,_::_,h,_,_,k=>⟨h.1,h.2.push k⟩
 | [],_::_,h,_,_,_=>h.elim
 | _::_,[],h,_,_,_=>h.elim
theorem Bc.ID:∀ {es By:List MapEntry},Bc ρ es By→∀ {v v' k k':Value},AM ρ v v'→AM ρ k k'→∀ i,Bc ρ (ID v k i es) (By.modify i fun en=>{ en with key:=k',val:=v' })
 | [],[],_,_,_,_,_,_,_,i=>by cases i <;> simp [Ce.ID,Bc]
 | en::es,Xe::By,h,_,_,_,_,hv,hk,0=>by
  cases h.1 with
  | mk b _ _=>simp only [Ce.ID,List.modify_zero_cons]; exact ⟨.mk b hk hv,h.2⟩
 | en::es,Xe::By,h,_,_,_,_,hv,hk,i+1=>by
  simp only [Ce.ID,List.modify_succ_cons]; exact ⟨h.1,Bc.ID h.2 hv hk i⟩
 | [],_::_,h,_,_,_,_,_,_,_=>h.elim
 | _::_,[],h,_,_,_,_,_,_,_=>h.elim
theorem Bc.Ja:∀ {es By:List MapEntry},Bc ρ es By→∀ i,Bc ρ (Ja i es) (By.eraseIdx i)
 | [],[],_,i=>by cases i <;> simp [Ce.Ja,Bc]
 | en::es,Xe::By,h,0=>by simp only [Ce.Ja,List.eraseIdx_cons_zero]; exact h.2
 | en::es,Xe::By,h,i+1=>by simp only [Ce.Ja,List.eraseIdx_cons_succ]; exact ⟨h.1,Bc.Ja h.2 i⟩
 | [],_::_,h,_=>h.elim
 | _::_,[],h,_=>h.elim
theorem Bc.length:∀ {es By:List MapEntry},Bc ρ es By→es.length=By.length
 | [],[],_=>rfl
 | _::_,_::_,h=>by simp [Bc.length h.2]
 | [],_::_,h=>h.elim
 | _::_,[],h=>h.elim
theorem NU {t:TypeId} {m k x:Operand} (ho:o.op=.mapUpdate t m k x∨o.op=.insert t m k x) (h:BD P o e W=some outs) (hw:AW P w0 ρ W w) (hm:AM ρ (e m) (e' m)) (hk:AM ρ (e k) (e' k)) (hx:AM ρ (e x) (e' x)) :
  Az P w0 ρ W ((execOp e' o).run P w) outs:=by
 rcases ho with ho | ho
 all_goals
  simp only [BD,ho] at h; obtain ⟨W1,hv,rfl⟩:=dh h
  split at hv
  ·rename_i kt elem r ht hc; rw [hc] at hm; generalize D5:e' m=vm' at hm
   cases hm with
   | @map _ r' hb =>
    split at hv
    ·rename_i es Dq BS; obtain ⟨y,By,hy,rfl,nT,hh,CJ⟩:=hw.P5 hb BS; obtain ⟨f,hf,hv⟩:=AX hv; obtain ⟨r',KW,II,A0⟩:=Kt hf hk CJ
     rcases A0 with ⟨rfl,rfl⟩ | ⟨j,x1,x7,en,rfl,rfl,sK,GI,P6⟩
     ·cases hv
      refine ⟨_,_,ρ,List.mem_singleton.2 rfl,.refl _,.skip (w:={ w with heap:=w.heap.setIfInBounds y.b (.map (By.push { key:=e' k,val:=e' x,born:=Dq }) (Dq+1)) }) ?_ ?_⟩
      ·simp only [execOp,ho,D5]; refine aQ ?_; simp only [Instr.mapUpdate,Sem.run_bind,AF ht,Result.andThen_ok,Am hh (by simp),KW,II,CX hh (by simp)]
      ·refine hw.A4 BS rfl hy (.map nT ?_); rw [Array.toList_push]; exact CJ.push (.mk Dq hk hx)
     ·cases hv
      refine ⟨_,_,ρ,List.mem_singleton.2 rfl,.refl _,.skip (w:={ w with heap:=w.heap.setIfInBounds y.b (.map (By.modify j fun en=>{ en with key:=e' k,val:=e' x }) Dq) }) ?_ ?_⟩
      ·simp only [execOp,ho,D5]; refine aQ ?_; have sL:By[j]?=some en:=by simpa using GI
       simp only [Instr.mapUpdate,Sem.run_bind,AF ht,Result.andThen_ok,Am hh (by simp),KW,II,Instr.keyThatStays,sL,Option.map_some,Option.getD_some,P6,if_true,Sem.run_pure,CX hh (by simp)]
      ·refine hw.A4 BS rfl hy (.map nT ?_); rw [Array.toList_modify]; exact CJ.ID hx hk j
    ·cases hv
  ·cases hv
theorem jr {t:TypeId} {x:Operand} (ho:o.op=.range t x) (h:BD P o e W=some outs) (hw:AW P w0 ρ W w) (hx:AM ρ (e x) (e' x)) :
  Az P w0 ρ W ((execOp e' o).run P w) outs:=by
 simp only [BD,ho] at h; obtain ⟨v,W1,hv,rfl⟩:=LY h; generalize D5:e' x=PZ at *
 split at hv
 ·rename_i kt elem ht hc; rw [hc] at hx
  cases hx
  simp only [Option.some.injEq,Prod.mk.injEq] at hv; obtain ⟨rfl,rfl⟩:=hv; obtain ⟨CU,HI⟩:=hw.new (o:=.iter none 0 [] 0) (o':=.mapIter none 0 #[] 0) ⟨w.heap.size,0,0,0,0⟩ rfl (.NO rfl); refine ⟨_,_,_,List.mem_singleton.2 rfl,CU,.value (v':=.pointer (some ⟨w.heap.size,0,none⟩)) (w:={ w with heap:=w.heap.push (.mapIter none 0 #[] 0) }) ?_ (.ptr ⟨rfl,⟨w.heap.size,0,0,0,0⟩,by simp,by simp⟩) HI⟩; simp only [execOp,ho,D5]; refine A5 ?_; simp [Instr.range,AF ht]
 ·rename_i kt elem r ht hc; rw [hc] at hx
  cases hx with
  | @map _ r' hb =>
   split at hv
   ·rename_i es Dq BS; simp only [Option.some.injEq,Prod.mk.injEq] at hv; obtain ⟨rfl,rfl⟩:=hv; obtain ⟨y,By,hy,rfl,nT,hh,CJ⟩:=hw.P5 hb BS; have Ax:=hw.Q_ r y hy; obtain ⟨CU,HI⟩:=hw.new (o:=.iter (some r) Dq [] Dq) (o':=.mapIter (some y.b) Dq [].toArray Dq) ⟨w.heap.size,0,0,0,0⟩ rfl (.iter rfl ⟨y,by simp [show r≠W.sz by omega,hy],rfl⟩); refine ⟨_,_,_,List.mem_singleton.2 rfl,CU,.value (v':=.pointer (some ⟨w.heap.size,0,none⟩)) (w:={ w with heap:=w.heap.push (.mapIter (some y.b) Dq [].toArray Dq) }) ?_ (.ptr ⟨rfl,⟨w.heap.size,0,0,0,0⟩,by simp,by simp⟩) HI⟩; simp only [execOp,ho,D5]; refine A5 ?_; simp [Instr.range,AF ht,Am hh (by simp)]
   ·cases hv
 ·cases hv
theorem Bc.filter (p:Nat→Bool):∀ {es By:List MapEntry},Bc ρ es By→Bc ρ (es.filter fun e=>p e.born) (By.filter fun e=>p e.born)
 | [],[],_=>trivial
 | en::es,Xe::By,h=>by
  cases h.1 with
  | mk b hk hv =>
   simp only [List.filter_cons]
   cases p b
   ·simpa using Bc.filter p h.2
   ·simpa using ⟨.mk b hk hv,Bc.filter p h.2⟩
 | [],_::_,h=>h.elim
 | _::_,[],h=>h.elim
theorem Bc.append:∀ {es By us us':List MapEntry},Bc ρ es By→Bc ρ us us'→Bc ρ (es++us) (By++us')
 | [],[],_,_,_,h=>h
 | _::_,_::_,_,_,h,k=>⟨h.1,h.2.append k⟩
 | [],_::_,_,_,h,_=>h.elim
 | _::_,[],_,_,h,_=>h.elim
theorem Bc.get:∀ {es By:List MapEntry},Bc ρ es By→∀ {i:Nat} {b:MapEntry},By[i]?=some b→∃ a,es[i]?=some a∧Vx ρ a b
 | [],[],_,i,_,h=>by simp at h
 | a::es,a'::By,h,0,b,hb=>by simp at hb; subst hb; exact ⟨a,rfl,h.1⟩
 | _::es,_::By,h,i+1,b,hb=>by simpa using Bc.get h.2 (by simpa using hb)
 | [],_::_,h,_,_,_=>h.elim
 | _::_,[],h,_,_,_=>h.elim
theorem Bc.all (p:Nat→Bool):∀ {es By:List MapEntry},Bc ρ es By→(es.all fun e=>p e.born)=(By.all fun e=>p e.born)
 | [],[],_=>rfl
 | en::es,Xe::By,h=>by cases h.1 with | mk b _ _=>simp only [List.all_cons,Bc.all p h.2]
 | [],_::_,h=>h.elim
 | _::_,[],h=>h.elim
theorem AW.js (h:AW P w0 ρ W w) {a a':Addr} (ha:Jc ρ a a') {m s l:Nat} {seen:List Nat} (ho:W.obj a.block=some (.iter (some m) s seen l)) :
  ∃ x m',ρ a.block=some x∧a'=⟨x.b,a.off,none⟩∧x.o=0∧Kn ρ m m'∧w.heap[x.b]?=some (.mapIter (some m') s seen.toArray l):=by
 obtain ⟨_,x,hx,rfl⟩:=ha; obtain ⟨o',G5,hr⟩:=h.obj ho (by simp) hx rfl
 cases hr with
 | iter h1 h2=>exact ⟨x,_,hx,by rw [h1]; rfl,h1,h2,G5⟩
theorem Bc.find (n:Nat):∀ {es By:List MapEntry},Bc ρ es By→∀ {a:MapEntry},es.find? (fun e=>Nat.beq e.born n)=some a→∃ b,By.find? (fun e=>e.born == n)=some b∧Vx ρ a b
 | [],[],_,_,h=>by simp at h
 | en::es,Xe::By,h,a,ha=>by
  have hb:Xe.born=en.born:=by cases h.1 with | mk b _ _=>rfl
  rw [List.find?_cons] at ha ⊢; rw [hb]; have e1:Nat.beq en.born n=(en.born == n):=by rw [Bool.eq_iff_iff]; simp
  rw [e1] at ha
  cases hx:(en.born == n)
  ·rw [hx] at ha; exact Bc.find n h.2 ha
  ·rw [hx] at ha; cases ha; exact ⟨Xe,rfl,h.1⟩
 | [],_::_,h,_,_=>h.elim
 | _::_,[],h,_,_=>h.elim
theorem jt {x:Operand} (ho:o.op=.entry x) (h:BD P o e W=some outs) (hw:AW P w0 ρ W w) (hx:AM ρ (e x) (e' x)):Az P w0 ρ W ((execOp e' o).run P w) outs:=by
 simp only [BD,ho] at h; obtain ⟨v,hv,rfl⟩:=Dy h; generalize D5:e' x=PZ at *
 split at hv
 ·rename_i a hc; rw [hc] at hx
  cases hx with
  | @ptr _ a' ha =>
   rw [cond_eq_ite] at hv
   split at hv
   ·cases hv
   rename_i QO; have QO:a.off=0:=by simpa using QO
   split at hv
   ·rename_i r since seen Q7 BS; obtain ⟨y,m',hy,rfl,_,hm,hh⟩:=hw.js ha BS
    split at hv
    ·rename_i st es Dq P7 ju; obtain ⟨y2,By,sM,rfl,_,sN,CJ⟩:=hw.P5 hm ju; rw [cond_eq_ite] at hv
     split at hv
     ·rename_i sO; have sO:=Nat.eq_of_beq_eq_true sO; subst sO; rw [Option.map_eq_some_iff] at hv; obtain ⟨en,GI,rfl⟩:=hv; obtain ⟨Xe,sL,hr⟩:=CJ.find st GI; have hf:By.find? (fun e=>e.born == st)=some Xe:=by rw [←Array.find?_toList]; exact sL
      have hl:seen.toArray.back?=some st:=by simpa [Array.back?_eq_getElem?,List.getLast?_eq_getElem?] using P7
      refine .value hw (v':=.tuple #[Xe.key,Xe.val]) ?_ ?_
      ·simp only [execOp,ho,D5]; refine A5 ?_; simp [Instr.entry,QO,Am hh (by simp),Am sN (by simp),hl,hf]
      ·cases hr with
       | mk b h1 h2=>exact .tuple' (.cons h1 (.cons h2 (.nil _)))
     ·cases hv
    ·cases hv
   ·cases hv
 ·cases hv
theorem fh {es By:List MapEntry} (h:Bc ρ es By) (since:Nat) (seen:List Nat) {c:Option MapEntry} (hc:c ∈ PT By since seen) :
  ∃ c0,c0 ∈ PT es since seen∧((c0=none∧c=none)∨∃ a b,c0=some a∧c=some b∧Vx ρ a b):=by
 unfold PT at hc ⊢; have hl:=h.filter (fun b=>!seen.contains b); have ho:=hl.filter (fun b=>decide (b<since)); have hn:=hl.filter (fun b=>!decide (b<since)); simp only [List.mem_append,List.mem_map] at hc
 rcases hc with hc | ⟨b,hb,rfl⟩
 ·have hlen:=ho.length
  refine ⟨none,?_,?_⟩
  ·simp only [List.mem_append]; left
   cases hx:(List.filter (fun e=>decide (e.born<since)) (List.filter (fun e=>!seen.contains e.born) By)) with
   | nil =>
    rw [hx] at hlen; have:(List.filter (fun e=>decide (e.born<since)) (List.filter (fun e=>!seen.contains e.born) es))=[]:=List.length_eq_zero_iff.1 (by simpa using hlen); rw [this]; simp
   | cons y ys=>rw [hx] at hc; simp at hc
  ·left; refine ⟨rfl,?_⟩; rw [cond_eq_ite] at hc
   split at hc
   ·simpa using hc
   ·simp at hc
 ·rw [←List.mem_append] at hb; obtain ⟨i,hi,hbi⟩:=List.getElem_of_mem hb; obtain ⟨a,ha,hr⟩:=(ho.append hn).get (i:=i) (b:=b) (by rw [List.getElem?_eq_getElem hi,hbi]); refine ⟨some a,?_,.inr ⟨a,b,rfl,rfl,hr⟩⟩; simp only [List.mem_append]; right; exact List.mem_map_of_mem (List.mem_of_getElem? ha)
theorem oI {x:Operand} (ho:o.op=.next x false) (h:BD P o e W=some outs) (hw:AW P w0 ρ W w) (hx:AM ρ (e x) (e' x)):Az P w0 ρ W ((execOp e' o).run P w) outs:=by
 simp only [BD,ho] at h; generalize D5:e' x=PZ at *
 split at h
 ·rename_i a hc; rw [hc] at hx
  cases hx with
  | @ptr _ a' ha =>
   rw [cond_eq_ite] at h
   split at h
   ·cases h
   rename_i QO; have QO:a.off=0:=by simpa using QO
   split at h
   ·rename_i s1 s2 s3 BS
    cases h
    obtain ⟨_,y,hy,rfl⟩:=ha; obtain ⟨o',G5,hr⟩:=hw.obj BS (by simp) hy rfl
    cases hr with
    | NO h0 =>
     refine .value hw ?_ (.tuple' (.cons (.bool _) (.nil _))) (v':=.tuple #[.bool false]); simp only [execOp,ho,D5]; refine A5 ?_; simp [Instr.next,QO,h0,Am G5 (by simp)]
   ·rename_i r since seen last BS; obtain ⟨y,m',hy,rfl,nT,hm,hh⟩:=hw.js ha BS
    split at h
    ·rename_i es Dq ju; obtain ⟨y2,By,sM,rfl,_,sN,CJ⟩:=hw.P5 hm ju; rw [cond_eq_ite] at h
     split at h
     ·cases h
     ·rename_i BE; simp only [Option.some.injEq] at h; subst h
      have jv:(!seen.toArray.isEmpty && !By.isEmpty && By.all (fun e=>decide (e.born≥last)))=false:=by
       have e1:seen.toArray.isEmpty=seen.isEmpty:=by cases seen <;> rfl
       have e2:By.isEmpty=es.isEmpty:=by
        have:=CJ.length
        cases es with
        | nil=>have:By.size=0:=(by simpa using this.symm); simp [Array.isEmpty,this]
        | cons y ys=>have:By.size=ys.length+1:=(by simpa using this.symm); simp [Array.isEmpty,this]
       have e3:By.all (fun e=>decide (e.born≥last))=es.all (fun e=>!decide (e.born<last)):=by
        rw [←Array.all_toList,CJ.all (fun b=>!decide (b<last))]; congr 1; funext en
        by_cases hb:en.born<last
        ·simp [hb]
        ·simp [hb]; omega
       rw [e1,e2,e3]
       simpa using BE
      generalize hC:((if ((By.filter fun e=>!seen.toArray.contains e.born).filter fun e=>decide (e.born<since)).isEmpty then #[none] else #[])++(((By.filter fun e=>!seen.toArray.contains e.born).filter fun e=>decide (e.born<since))++((By.filter fun e=>!seen.toArray.contains e.born).filter fun e=>decide (e.born≥since))).map some:Array (Option MapEntry))=C
      have jw:C.toList=PT By.toList since seen:=by
       have e1:∀ n:Nat,seen.toArray.contains n=seen.contains n:=fun n=>by simp
       have e2:(fun e:MapEntry=>!decide (e.born<since))=(fun e:MapEntry=>decide (e.born≥since)):=by
        funext en
        by_cases hb:en.born<since
        ·simp [hb]
        ·simp [hb]; omega
       rw [←hC]; simp only [PT,e1,e2,Array.toList_append,Array.toList_map,Array.toList_filter,cond_eq_ite]; congr 1; have e3:∀ A:Array MapEntry,A.isEmpty=A.toList.isEmpty:=fun A=>by rw [Bool.eq_iff_iff]; simp [Array.isEmpty_iff]
       rw [e3]; simp only [Array.toList_filter]; split <;> rfl
      have Mq:0<C.size:=by
       rw [←Array.length_toList,jw]; unfold PT
       cases hx:(List.filter (fun e=>decide (e.born<since)) (List.filter (fun e=>!seen.contains e.born) By.toList)) with
       | nil=>simp only [hx,List.isEmpty_nil,cond_true,List.length_append,List.length_cons]; omega
       | cons y ys=>simp only [hx,List.length_append,List.length_map,List.length_cons]; omega
      obtain ⟨i,w2,Gp,hi,Er,jx⟩:∃ i w2,(choose (.mapNext C.size)).run P w=.ok i w2∧i<C.size∧AW P w0 ρ W w2∧w2.heap=w.heap:=by
       rw [run_choose]
       split
       ·exact ⟨0,w,rfl,Mq,hw,rfl⟩
       ·exact ⟨_,_,rfl,by simp only [Question.cut]; exact Nat.mod_lt _ Mq,hw.drew _,rfl⟩
      have ji:C[i]?=some C[i]:=by simp [hi]
      obtain ⟨c0,xA,A0⟩:=fh (c:=C[i]) CJ since seen (by rw [←jw]; simp); rw [←jx] at hh sN
      rcases A0 with ⟨rfl,hcn⟩ | ⟨en,Xe,rfl,hcn,hr⟩
      ·refine ⟨.value (.tuple #[.bool false]),W,ρ,?_,.refl _,.value (v':=.tuple #[.bool false]) (w:=w2) ?_ (.tuple' (.cons (.bool _) (.nil _))) Er⟩
       ·exact List.mem_map.2 ⟨none,xA,rfl⟩
       ·simp only [execOp,ho,D5]; refine A5 ?_; rw [hcn] at ji; rw [jx] at hh sN; simp only [Instr.next,QO,Sem.run_bind,Am hh (by simp),Am sN (by simp),Result.andThen_ok,jv,hC,Gp,ji,Sem.run_pure,Bool.false_eq_true,if_false]
      ·refine ⟨.value (.tuple #[.bool true,en.key,en.val]),W.A4 a.block (.iter (some r) since (seen++[en.born]) Dq),ρ,?_,.refl _,
        .value (v':=.tuple #[.bool true,Xe.key,Xe.val]) (w:={ w2 with heap:=w2.heap.setIfInBounds y.b (.mapIter (some y2.b) since (seen++[en.born]).toArray Dq) }) ?_ ?_ (Er.A4 BS rfl hy (.iter nT hm))⟩
       ·exact List.mem_map.2 ⟨some en,xA,rfl⟩
       ·simp only [execOp,ho,D5]; refine A5 ?_; rw [hcn] at ji; have x8:Xe.born=en.born:=by cases hr with | mk b _ _=>rfl
        have jy:=CX (P:=P) hh (by simp) (.mapIter (some y2.b) since (seen++[en.born]).toArray Dq); rw [jx] at hh sN; have x9:seen.toArray.push en.born=(seen++[en.born]).toArray:=by simp
        simp only [Instr.next,QO,Sem.run_bind,Am hh (by simp),Am sN (by simp),Result.andThen_ok,jv,hC,Gp,ji,x8,x9,jy,Sem.run_pure,Bool.false_eq_true,if_false]
       ·cases hr with
        | mk b h1 h2=>exact .tuple' (.cons (.bool _) (.cons h1 (.cons h2 (.nil _))))
    ·cases h
   ·cases h
 ·cases h
end
end Go.Ce
namespace Go.Ce
open Go.RowKit (Below)
section
variable {P:Program} {w0:World} {ρ:BX} {W:CW} {w:World} {o:Oper} {e e':Operand→Value} {outs:List (BM × CW)}
theorem AM.Fp {a:Option Addr} {n c:Nat} {v:Value} (h:AM ρ (.slice a n c) v):∃ a' c',v=.slice a' n c'∧((a=none∧a'=none∧c'=c)∨∃ b b',a=some b∧a'=some b' ∧
  ((Jc ρ b b'∧OU ρ b c c')∨(n=0∧c=0∧b.spot=none∧∃ x,ρ b.block=some x∧b'.block=x.b∧b'.spot=none∧(c'=0∨(0<x.sz∧b'.off+c'*x.sz=x.n')))∨(n=0∧c=0∧c'=0∧b.spot=some 0))):=by
 cases h with
 | Xx=>exact ⟨_,_,rfl,.inl ⟨rfl,rfl,rfl⟩⟩
 | slice _ ha hc=>exact ⟨_,_,rfl,.inr ⟨_,_,rfl,rfl,.inl ⟨ha,hc⟩⟩⟩
 | Ig h0 h1 h2 h3 h4=>exact ⟨_,_,rfl,.inr ⟨_,_,rfl,rfl,.inr (.inl ⟨rfl,rfl,h0,_,h1,h2,h3,h4⟩)⟩⟩
 | HH h0=>exact ⟨_,_,rfl,.inr ⟨_,_,rfl,rfl,.inr (.inr ⟨rfl,rfl,rfl,h0⟩)⟩⟩
theorem Ku (a:Addr) (w:World):(loadCells a 0).run P w=.ok #[] w:=by simp [loadCells,loadCellsFrom]
theorem Jf (hw:AW P w0 ρ W w) {b:Option Addr} {n c k size:Nat} {v:Value} {l:List Value} (hv:AM ρ (.slice b n c) v) (hk:k≤n) (h:FA b (k*size) W=some l) :
  ∃ l':Array Value,(∀ d,(Builtin.firstCells size k v).run P { w with drawn:=d }=.ok l' { w with drawn:=d })∧Aj ρ l l'.toList:=by
 obtain ⟨a',c',rfl,A0⟩:=hv.Fp
 rcases A0 with ⟨rfl,rfl,_⟩ | ⟨b,b',rfl,rfl,A0⟩
 ·cases h
  exact ⟨#[],fun _=>rfl,.nil _⟩
 ·simp only [FA,cond_eq_ite] at h
  split at h
  ·rename_i h0; have h0:=Nat.eq_of_beq_eq_true h0
   cases h
   refine ⟨#[],?_,.nil _⟩; intro d; simp only [Builtin.firstCells,h0]; exact Ku _ _
  rename_i h0; have h0:k*size≠0:=fun hh=>h0 (by rw [hh]; rfl); have hk0:k≠0:=fun hh=>h0 (by rw [hh]; omega)
  have ha:Jc ρ b b':=by
   rcases A0 with ⟨ha,_⟩ | ⟨h1,_⟩ | ⟨h1,_⟩
   ·exact ha
   ·omega
   ·omega
  split at h
  ·rename_i cc kk zz ee BS
   split at h
   ·rename_i hle; have hle:=Nat.le_of_ble_eq_true hle
    cases h
    obtain ⟨x,c2,fr,hx,rfl,hb,_,_,hn,hs,aO,_,hc⟩:=hw.cells ha BS; refine ⟨(C4 c2 (k*size) (b.off+x.o)).toArray,?_,by simpa using X0 hc (k*size) b.off hle⟩; intro d; simp only [Builtin.firstCells]; exact run_loadCells (w:={ w with drawn:=d }) hb _ _ (by omega)
   ·cases h
  ·rename_i ff kk ee BS
   split at h
   ·rename_i hle; have hle:=Nat.le_of_ble_eq_true hle
    cases h
    obtain ⟨x,c2,_,fr,hx,rfl,hb,hn,hs,aO,_,hc⟩:=hw.fixed ha BS; refine ⟨(C4 c2 (k*size) (b.off+x.o)).toArray,?_,by simpa using PX hc (k*size) b.off hle⟩; intro d; simp only [Builtin.firstCells]; exact run_loadCells (w:={ w with drawn:=d }) hb _ _ (by omega)
   ·cases h
  ·cases h
theorem Us (hw:AW P w0 ρ W w) {x x':Value} {n k size:Nat} {l:List Value} (hx:AM ρ x x') (hn:aJ x=some n) (hk:k≤n) (h:Gl x k size W=some l) :
  ∃ l':Array Value,(∀ d,(Builtin.firstCells size k x').run P { w with drawn:=d }=.ok l' { w with drawn:=d })∧Aj ρ l l'.toList∧∀ w:World,(Builtin.lenOf x').run P w=.ok n w:=by
 unfold aJ at hn
 split at hn
 ·rename_i b m c
  cases hn
  simp only [Gl] at h; obtain ⟨l',h1,h2⟩:=Jf hw hx hk h; obtain ⟨b',c',rfl,_⟩:=hx.Fp; exact ⟨l',h1,h2,fun _=>rfl⟩
 ·rename_i s
  cases hn
  cases hx
  simp only [Gl,cond_eq_ite] at h
  split at h
  ·cases h
   refine ⟨(s.extract 0 k).data.map fun b=>.int .u8 b.toNat,fun d=>rfl,?_,fun _=>rfl⟩
   have:((s.extract 0 k).data.map fun b=>Value.int .u8 b.toNat).toList=DL ((sb s).take k):=by
    simp [DL,sb,ByteArray.data_extract]
   rw [this]; exact Aj.map (ρ:=ρ) _ (fun b:UInt8=>Value.int .u8 b.toNat) (fun b:UInt8=>Value.int .u8 b.toNat) (fun _ _=>.int _ _)
  ·cases h
 ·cases hn
theorem Aj.V':∀ {xs ys:List Value},Aj ρ xs ys→xs.all BB=true→ys.all BB=true
 | [],[],_,_=>rfl
 | x::xs,y::ys,h,hx=>by
  simp only [List.all_cons,Bool.and_eq_true] at hx ⊢; exact ⟨by rw [h.head.one]; exact hx.1,Aj.V' h.tail hx.2⟩
 | [],_::_,h,_=>by have:=h.1; simp at this
 | _::_,[],h,_=>by have:=h.1; simp at this
theorem AW.kill (h:AW P w0 ρ W w) {i:Nat} {o:As} (ho:W.obj i=some o):AW P w0 ρ (W.A4 i .dead) w:=by
 have get:∀ j v,(W.A4 i .dead).h.get j=some v→v≠.dead→W.h.get j=some v∧j≠i:=fun j v hv KU=>by
  simp only [CW.A4,Tr.BV] at hv
  split at hv
  ·cases hv; exact (KU rfl).elim
  ·rename_i e; exact ⟨hv,e⟩
 refine ⟨h.Q_,?_,?_,?_,h.below⟩
 ·intro j v hv; simp only [CW.A4,Tr.BV] at hv
  split at hv
  ·rename_i e; subst e; exact h.top j o ho
  ·exact h.top j v hv
 ·intro j v y hv KU hy; exact h.live j v y (get j v hv KU).1 KU hy
 ·intro j k u v y z hu iw hv KU hy hz jX; exact h.inj j k u v y z (get j u hu (As.Hl iw)).1 iw (get k v hv (As.Hl KU)).1 KU hy hz jX
theorem AW.rename (h:AW P w0 ρ W w) {i:Nat} {o u:As} {u':Obj} {x y:Info} (ho:W.obj i=some o) (hd:o.mut=true) (hx:ρ i=some x) (hb:y.b=x.b)
  (hr:G4 P (fun i=>if i=W.sz then some y else ρ i) y u u') (hm:u.mut=true:=by rfl) :
  Dc W ρ ((W.A4 i .dead).new u) (fun i=>if i=W.sz then some y else ρ i)∧AW P w0 (fun i=>if i=W.sz then some y else ρ i) ((W.A4 i .dead).new u) { w with heap:=w.heap.setIfInBounds x.b u' }:=by
 obtain ⟨o',G5,_,Z5,_⟩:=h.live i o x ho (As.Hl hd) hx; have Z5:=Z5 hd; have Ax:=(Array.getElem?_eq_some_iff.1 G5).1; have hi:=h.top i o ho
 have CU:Ext ρ (fun i=>if i=W.sz then some y else ρ i):=fun j z hz=>by
  have:=h.Q_ j z hz; show (if j=W.sz then some y else ρ j)=some z; rw [if_neg (by omega)]; exact hz
 have get:∀ j v,((W.A4 i .dead).new u).h.get j=some v→v≠.dead→(j=W.sz∧v=u)∨(j≠W.sz∧j≠i∧W.h.get j=some v):=fun j v hv KU=>by
  simp only [CW.new,CW.A4,Tr.BV] at hv
  split at hv
  ·rename_i e; cases hv; exact .inl ⟨e,rfl⟩
  ·rename_i e
   split at hv
   ·cases hv; exact (KU rfl).elim
   ·rename_i e2; exact .inr ⟨e,e2,hv⟩
 refine ⟨⟨CU,fun j hj=>by show (if j=W.sz then some y else ρ j)=ρ j; rw [if_neg (by omega)],Nat.le_succ _⟩,?_,?_,?_,?_,?_⟩
 ·intro j z hz; show j<W.sz+1
  by_cases e:j=W.sz
  ·omega
  ·have:ρ j=some z:=by simpa [e] using hz
   have:=h.Q_ j z this; omega
 ·intro j v hv; show j<W.sz+1; simp only [CW.new,CW.A4,Tr.BV] at hv
  split at hv
  ·rename_i e; have e:j=W.sz:=e; omega
  ·split at hv
   ·omega
   ·have:=h.top j v hv; omega
 ·intro j v z hv KU hz
  rcases get j v hv KU with ⟨rfl,rfl⟩ | ⟨e1,e2,hg⟩
  ·have hz:some y=some z:=by simpa using hz
   cases hz
   refine ⟨u',?_,hr,fun _=>by rw [hb]; exact Z5,fun hf=>by rw [hm] at hf; cases hf⟩; show (w.heap.setIfInBounds x.b u')[y.b]?=_; rw [hb]; simp [Ax]
  ·have hz:ρ j=some z:=by simpa [e1] using hz
   obtain ⟨v',F7,sF,iz⟩:=h.live j v z hg KU hz; refine ⟨v',?_,sF.mono CU,iz⟩
   have Dp:x.b≠z.b:=fun Ut=>by
    cases aK:v.mut with
    | true=>exact e2 (h.inj j i v o z x hg aK ho hd hz hx Ut.symm)
    | false=>have:=iz.2 aK; omega
   show (w.heap.setIfInBounds x.b u')[z.b]?=_; rw [Array.getElem?_setIfInBounds_ne Dp]; exact F7
 ·intro j k v v' z z' hv KU F7 Xz hz xB JY
  rcases get j v hv (As.Hl KU) with ⟨rfl,rfl⟩ | ⟨e1,e2,hg⟩ <;> rcases get k v' F7 (As.Hl Xz) with ⟨rfl,rfl⟩ | ⟨f1,f2,hg'⟩
  ·rfl
  ·simp only [if_true,Option.some.injEq] at hz; simp only [if_neg f1] at xB; subst hz; exact (f2 (h.inj k i v' o z' x hg' Xz ho hd xB hx (by rw [←JY,hb]))).elim
  ·simp only [if_true,Option.some.injEq] at xB; simp only [if_neg e1] at hz; subst xB; exact (e2 (h.inj j i v o z x hg KU ho hd hz hx (by rw [JY,hb]))).elim
  ·simp only [if_neg e1] at hz; simp only [if_neg f1] at xB; exact h.inj j k v v' z z' hg KU hg' Xz hz xB JY
 ·exact ⟨h.below.os,h.below.tape,h.below.output,by show w0.heap.size≤(w.heap.setIfInBounds x.b u').size; rw [Array.size_setIfInBounds]; exact h.below.size,fun k hk=>by
   show (w.heap.setIfInBounds x.b u')[k]?=_
   rw [Array.getElem?_setIfInBounds_ne (by omega)]; exact h.below.block k hk⟩
theorem Uu (m:Nat):∀ (r c:Nat),c≤m+m / 4+200→Builtin.growBy m r c≤m+m / 4+200
 | 0,c,h=>h
 | r+1,c,h=>by
  rw [Builtin.growBy]
  split
  ·exact h
  ·exact Uu m r _ (by omega)
theorem nextslicecap_le (m c:Nat) (h:c<m):Builtin.nextslicecap m c≤2*m+200:=by
 unfold Builtin.nextslicecap
 split
 ·omega
 ·split
  ·omega
  ·have:=Uu m 4 c (by omega); omega
theorem aZ (w:World) {ts:Array TypeId} {t u ty:TypeId} {elem:TypeId} {size:Nat} {z:Value} {info:TypeInfo} {base:Option Addr} {sLen sCap n:Nat} {x:Value} {news:Array Value}
  (h0:ts[0]?=some t) (h1:ts[1]?=some u) (hu:G' P u=true) (ht:P.underlying t=some (.slice elem)) (hs:DC P elem=some size) (hz:GP P elem=some z)
  (hi:P.info? elem=some info) (hb:info.bytes≤1024) (hn:sLen+n≤1000000)
  (F9:∀ d,(Builtin.firstCells size n x).run P { w with drawn:=d }=.ok news { w with drawn:=d }) (hlen:∀ w:World,(Builtin.lenOf x).run P w=.ok n w) :
  (sLen+n≤sCap→(Builtin.append_ ts ty #[.slice base sLen sCap,x]).run P w =
   (do
       if let some a:=base then storeCells (a.add (sLen*size)) news.toList
       pure (.slice base (sLen+n) sCap):Sem Value).run P w) ∧
  (sCap<sLen+n→∀ old:Array Value,(∀ d,(Builtin.firstCells size sLen (.slice base sLen sCap)).run P { w with drawn:=d }=.ok old { w with drawn:=d }) →
   ∃ nc d,sLen+n≤nc∧(Builtin.append_ ts ty #[.slice base sLen sCap,x]).run P w =
    .ok (.slice (some ⟨w.heap.size,0,none⟩) (sLen+n) nc) { w with drawn:=d,heap:=w.heap.push (.cells (old++news++Builtin.zeroCells z.cells (nc-(sLen+n))) elem) }):=by
 refine ⟨fun hle=>?_,fun Ax old hold=>?_⟩
 ·cases hd:P.underlying u with
  | none=>simp [G',hd] at hu
  | some d =>
   cases d <;> first | (simp [G',hd] at hu; done) | skip
   all_goals
    simp only [Builtin.append_,h0,h1,List.getElem?_toArray,List.getElem?_cons_zero,List.getElem?_cons_succ,Sem.run_bind,AF ht,AF hd,Result.andThen_ok,A8 hs,Sem.run_pure,Bool.false_eq_true,if_false,hlen,if_pos hle,Bool.not_false,if_true,F9 w.drawn]
    cases base <;> rfl
 ·have qZ:Builtin.nextslicecap (sLen+n) sCap*info.bytes≤2 ^ 48:=by
   have h2:=nextslicecap_le (sLen+n) sCap Ax
   calc Builtin.nextslicecap (sLen+n) sCap*info.bytes≤2000200*1024:=Nat.mul_le_mul (by omega) hb
    _≤2 ^ 48:=by decide
  refine ⟨sLen+n+(w.tape w.drawn (.appendCap (sLen+n) sCap elem)) % (2 ^ 63-(sLen+n)),w.drawn+1,by omega,?_⟩
  have X5:¬((sLen+n:Nat):Int)>IntKind.i64.max:=by
   have:IntKind.i64.max=9223372036854775807:=by decide
   omega
  have UL:¬Builtin.nextslicecap (sLen+n) sCap*info.bytes>2 ^ 48:=by omega
  cases hd:P.underlying u with
  | none=>simp [G',hd] at hu
  | some d =>
   cases d <;> first | (simp [G',hd] at hu; done) | skip
   all_goals
    simp only [Builtin.append_,h0,h1,List.getElem?_toArray,List.getElem?_cons_zero,List.getElem?_cons_succ,Sem.run_bind,AF ht,AF hd,Result.andThen_ok,A8 hs,Sem.run_pure,Bool.false_eq_true,if_false,hlen,if_neg (Nat.not_le.2 Ax),Bool.not_false,if_true,Gf hi,X5,false_and,UL,run_choose,Question.forced,run_askRoom,Question.cut,BO hz]; have e1:=hold (w.drawn+1); have e2:=F9 (w.drawn+1); simp only [e1,e2,Result.andThen_ok,BO hz,newRow,Sem.run_bind,run_newObj,Sem.run_pure]
theorem P8 {old news:List Value} {old' D6 rest:Array Value} (h1:Aj ρ old old'.toList) (h2:Aj ρ news D6.toList) (k:Nat) (hk:k<old.length+news.length) :
  AM ρ (cellAt (Tr.nil.AZ 0 (old++news)) #[] k) ((old'++D6++rest).getD (k+0) undef):=by
 rw [CV _ _ _ (by simpa using hk)]; have h:=(h1.append h2).2 k (by simpa using hk); have hl:=(h1.append h2).1; have hk':k<(old'.toList++D6.toList).length:=by rw [←hl]; simpa using hk
 rw [List.getD_eq_getElem?_getD (l:=old'.toList++D6.toList)] at h
 have e:(old'++D6++rest).getD (k+0) undef=((old'.toList++D6.toList)[k]?).getD undef:=by
  rw [Array.getD_eq_getD_getElem?,←Array.getElem?_toList]; simp only [Array.toList_append,Nat.add_zero]; rw [List.getElem?_append_left hk']
 rw [e]; exact h
theorem Kv (z:Array Value) (n:Nat):(Builtin.zeroCells z n).size=n*z.size:=by simp [Builtin.zeroCells]
theorem UM (hw:AW P w0 ρ W w) {ts:Array TypeId} {t u ty:TypeId} {s s' x x' v:Value} {W1:CW} (h0:ts[0]?=some t) (h1:ts[1]?=some u) (hu:G' P u=true)
  (h:F4 P t s x W=some (v,W1)) (hs:AM ρ s s') (hx:AM ρ x x') :
  ∃ v' w' ρ',Dc W ρ W1 ρ'∧(Builtin.append_ ts ty #[s',x']).run P w=.ok v' w'∧AM ρ' v v'∧AW P w0 ρ' W1 w':=by
 unfold F4 at h
 split at h
 ·rename_i elem base sLen sCap n ht qc; obtain ⟨size,HV,h'⟩:=AX h; clear h; obtain ⟨z,JY,h⟩:=AX h'; clear h'; obtain ⟨news,F9,h'⟩:=AX h; clear h; have h:=h'; clear h'; rw [cond_eq_ite] at h; split at h
  rotate_left
  ·cases h
  rename_i BE; simp only [Bool.and_eq_true] at BE; obtain ⟨⟨⟨⟨⟨c1,c2⟩,c3⟩,c4⟩,c5⟩,c6⟩:=BE; have c2:=Nat.eq_of_beq_eq_true c2; have c3:0<size:=by have:=Nat.le_of_ble_eq_true c3; omega
  have c4:=Nat.eq_of_beq_eq_true c4; have c5:=Nat.le_of_ble_eq_true c5; have c6:=Nat.le_of_ble_eq_true c6
  obtain ⟨info,X6⟩:∃ i,P.info? elem=some i:=by
   unfold DC at HV
   cases hi:P.info? elem with
   | none=>simp [hi] at HV
   | some i=>exact ⟨i,rfl⟩
  have hb:info.bytes≤1024:=by simpa [X6] using c6
  have Mp:(P.info? elem).map (·.size)=some size:=HV; obtain ⟨D6,oJ,CJ,x_⟩:=Us hw hx qc (Nat.le_refl n) F9; have sP:=hs; obtain ⟨MO,HA,rfl,A0⟩:=hs.Fp; obtain ⟨R1,R2⟩:=aZ (P:=P) (ty:=ty) (base:=MO) (sLen:=sLen) (sCap:=HA) w h0 h1 hu ht HV JY X6 hb c5 oJ x_; have qd:D6.size=n*size:=by have:=CJ.1; simp at this; omega
  have UL:sCap≤HA:=by
   rcases A0 with ⟨_,_,h⟩ | ⟨b,b',_,_,⟨_,h⟩ | ⟨_,h,_⟩ | ⟨_,h,_⟩⟩
   ·omega
   ·rcases h with h | ⟨_,_,_,_,_,h⟩ <;> omega
   ·omega
   ·omega
  rw [cond_eq_ite] at h
  split at h
  ·rename_i hle; have hle:=Nat.le_of_ble_eq_true hle; have R1:=R1 (by omega); rw [cond_eq_ite] at h
   split at h
   ·rename_i R7; have R7:n=0:=Nat.eq_of_beq_eq_true R7; subst R7; simp only [Option.some.injEq,Prod.mk.injEq] at h; obtain ⟨rfl,rfl⟩:=h; refine ⟨.slice MO sLen HA,w,ρ,.refl _,?_,sP,hw⟩; rw [R1]
    have:D6.toList=[]:=by
     have:D6.size=0:=by omega
     simpa using this
    rw [this]
    cases MO <;> simp [storeCells]
   ·rename_i R7; have R7:n≠0:=fun h=>R7 (by rw [h]; rfl)
    rcases A0 with ⟨rfl,rfl,rfl⟩ | ⟨b,b',rfl,rfl,A0⟩
    ·simp only [Option.some.injEq,Prod.mk.injEq] at h; obtain ⟨rfl,rfl⟩:=h; exact ⟨.slice none (sLen+n) HA,w,ρ,.refl _,by rw [R1]; simp,.Xx _ _,hw⟩
    ·rcases A0 with ⟨ha,hc⟩ | ⟨_,h0',_⟩ | ⟨_,h0',_⟩
     ·simp only at h
      split at h
      ·rename_i c m zz e BS; rw [cond_eq_ite] at h
       split at h
       ·rename_i oK; have oK:=Nat.le_of_ble_eq_true oK; simp only [Option.some.injEq,Prod.mk.injEq] at h; obtain ⟨rfl,rfl⟩:=h; obtain ⟨x,YC,fr,UN,rfl,dn,aN,hr,hn,ae,aO,_,D5⟩:=hw.cells ha BS; have Er:=hw.A4 BS rfl UN (hr.write (vs:=news) (vs':=D6.toList) CJ (k:=b.off+sLen*size) (by omega)); refine ⟨_,_,ρ,.refl _,?_,.slice _ ha hc,Er⟩; rw [R1]; simp only [Sem.run_bind,Ko]; rw [Ef (P:=P) (b.off+x.o+sLen*size) D6.toList 0 w YC dn aN (by simp; omega) (CJ.V' c1)]; simp only [Result.andThen_ok,Sem.run_pure,Nat.add_zero]; have:b.off+x.o+sLen*size=b.off+sLen*size+x.o:=by omega
        rw [this]
       ·cases h
      ·cases h
     ·omega
     ·omega
  ·rename_i hle
   have hle:sCap<sLen+n:=by
    have:¬sLen+n≤sCap:=fun hh=>hle (Nat.ble_eq_true_of_le hh); omega
   have V_:sLen=0→(∀ d,(Builtin.firstCells size sLen (.slice MO sLen HA)).run P { w with drawn:=d }=.ok #[] { w with drawn:=d })→HA<sLen+n →
     v=.slice (some ⟨W.sz,0,none⟩) (sLen+n) (sLen+n)→W1=W.new (.cells (Tr.nil.AZ 0 news) ((sLen+n)*size) #[] elem) →
     ∃ v' w' ρ',Dc W ρ W1 ρ'∧(Builtin.append_ ts ty #[.slice MO sLen HA,x']).run P w=.ok v' w'∧AM ρ' v v'∧AW P w0 ρ' W1 w':=by
    intro Uv hold Ax hv hW; subst hv hW Uv; obtain ⟨nc,d,qZ,G7⟩:=R2 Ax #[] hold; have Df:=hw.drew d
    have sQ:((#[]:Array Value)++D6++Builtin.zeroCells z.cells (nc-(0+n))).size=nc*size:=by
     simp only [Array.size_append,Kv,qd,c4,List.size_toArray,List.length_nil]; obtain ⟨k,rfl⟩:∃ k,nc=0+n+k:=⟨nc-(0+n),by omega⟩
     have:0+n+k-(0+n)=k:=by omega
     rw [this,Nat.add_mul,Nat.zero_add n]; omega
    have CU:Ext ρ (fun i=>if i=W.sz then some ⟨w.heap.size,0,size,(0+n)*size,nc*size⟩ else ρ i):=fun i y hy=>by
     have:=hw.Q_ i y hy; show (if i=W.sz then _ else ρ i)=some y; rw [if_neg (by omega)]; exact hy
    obtain ⟨hg,Er⟩:=Df.new (o:=.cells (Tr.nil.AZ 0 news) ((0+n)*size) #[] elem) (o':=.cells (#[]++D6++Builtin.zeroCells z.cells (nc-(0+n))) elem (0,0))
     ⟨w.heap.size,0,size,(0+n)*size,nc*size⟩ rfl (by
      refine .cells Mp sQ ?_ (fun k hk=>?_) ⟨NF.zero _,fun h=>(h rfl).elim⟩
      ·simp only [Nat.zero_add]; exact Nat.mul_le_mul_right _ (by omega)
      ·have:=P8 (ρ:=ρ) (old:=[]) (old':=#[]) (rest:=Builtin.zeroCells z.cells (nc-(0+n))) (.nil _) CJ k (by simp [c2]; simpa using hk)
       exact this.mono CU)
    refine ⟨_,_,_,hg,G7,?_,Er⟩; refine .slice _ ⟨rfl,⟨w.heap.size,0,size,(0+n)*size,nc*size⟩,by simp,by simp⟩ (.inr ⟨⟨w.heap.size,0,size,(0+n)*size,nc*size⟩,by simp,c3,by simp,by simp,qZ⟩)
   rcases A0 with ⟨rfl,rfl,rfl⟩ | ⟨b,b',rfl,rfl,A0⟩
   ·simp only [cond_eq_ite] at h
    split at h
    ·rename_i Uv; have Uv:=Nat.eq_of_beq_eq_true Uv; simp only [Option.some.injEq,Prod.mk.injEq] at h; obtain ⟨hv,hW⟩:=h; exact V_ Uv (fun _=>rfl) (by omega) hv.symm hW.symm
    ·cases h
   ·simp only [cond_eq_ite] at h
    split at h
    ·rename_i KM
     split at h
     ·rename_i Uv; simp only [Bool.and_eq_true] at Uv; have WA:=Nat.eq_of_beq_eq_true Uv.1; have Xf:=Nat.eq_of_beq_eq_true Uv.2; simp only [Option.some.injEq,Prod.mk.injEq] at h; obtain ⟨hv,hW⟩:=h
      have xA:HA=0:=by
       rcases A0 with ⟨ha,_⟩ | ⟨_,_,hq,_⟩ | ⟨_,_,h1,_⟩
       ·rw [ha.1] at KM; cases KM
       ·rw [hq] at KM; cases KM
       ·exact h1
      refine V_ WA (fun d=>?_) (by omega) hv.symm hW.symm; rw [WA]; simp only [Builtin.firstCells,Nat.zero_mul]; exact Ku _ _
     ·cases h
    rename_i KM
    have A0:(Jc ρ b b'∧OU ρ b sCap HA)∨(sLen=0∧sCap=0∧∃ x,ρ b.block=some x∧b'.block=x.b∧b'.spot=none∧(HA=0∨(0<x.sz∧b'.off+HA*x.sz=x.n'))):=by
     rcases A0 with h1 | ⟨h1,h2,_,h3⟩ | ⟨_,_,_,h1⟩
     ·exact .inl h1
     ·exact .inr ⟨h1,h2,h3⟩
     ·rw [h1] at KM; exact (KM rfl).elim
    clear V_; split at h
    rotate_left
    ·cases h
    rename_i c m zz e BS; split at h
    rotate_left
    ·cases h
    rename_i BE; simp only [Bool.and_eq_true] at BE; have oK:=Nat.le_of_ble_eq_true BE.1; have hee:=Nat.eq_of_beq_eq_true BE.2; subst hee; simp only [Option.some.injEq,Prod.mk.injEq] at h; obtain ⟨rfl,rfl⟩:=h
    obtain ⟨x,YC,q,fr,UN,hq,dn,aN,hr,ae,QO,Kr⟩:∃ x YC q fr,ρ b.block=some x∧b'=⟨x.b,q,none⟩∧w.heap[x.b]?=some (.cells YC e fr)∧NF fr YC.size∧G4 P ρ x (.cells c m zz e) (.cells YC e fr)∧YC.size=x.n' ∧
      (HA=sCap∨(x.sz=size∧q+HA*size=x.n'))∧(∀ k,k<sLen*size→AM ρ (cellAt c zz (b.off+k)) (YC.getD (q+k) undef)):=by
     rcases A0 with ⟨ha,hc⟩ | ⟨Uv,xA,x,UN,nU,Ut,hc⟩
     ·obtain ⟨x,YC,fr,UN,rfl,dn,aN,hr,hn,ae,aO,he,D5⟩:=hw.cells ha BS
      refine ⟨x,YC,b.off+x.o,fr,UN,rfl,dn,aN,hr,ae,?_,fun k hk=>?_⟩
      ·rcases hc with hc | ⟨y,hy,_,_,h2,_⟩
       ·exact .inl hc
       ·rw [UN] at hy; cases hy; have:=Vz HV he; rw [this] at h2; exact .inr ⟨this,h2⟩
      ·have:=D5 (b.off+k) (by omega); have e1:b.off+k+x.o=b.off+x.o+k:=by omega
       rwa [e1] at this
     ·obtain ⟨o',G5,hr⟩:=hw.obj BS (by simp) UN rfl
      cases hr with
      | cells he Xf aO D5 hq =>
       refine ⟨x,_,b'.off,_,UN,?_,G5,hq.1,.cells he Xf aO D5 hq,Xf,?_,fun k hk=>?_⟩
       ·cases b'; simp_all
       ·rcases hc with hc | ⟨_,hc⟩
        ·left; omega
        ·have:=Vz HV he; rw [this] at hc; exact .inr ⟨this,hc⟩
       ·rw [Uv] at hk; omega
    subst hq
    by_cases QP:sLen+n≤HA
    ·have QO:=QO.resolve_left (by omega); have R1:=R1 QP
     have yA:q+(sLen+n)*size≤x.n':=by
      have:=Nat.mul_le_mul_right size QP; omega
     have hmul:(sLen+n)*size=sLen*size+n*size:=Nat.add_mul _ _ _; have fi:news.length=D6.toList.length:=CJ.1
     have CU:Ext ρ (fun i=>if i=W.sz then some ⟨x.b,q,size,(sLen+n)*size,x.n'⟩ else ρ i):=fun i y hy=>by
      have:=hw.Q_ i y hy; show (if i=W.sz then _ else ρ i)=some y; rw [if_neg (by omega)]; exact hy
     obtain ⟨hg,Er⟩:=hw.rename (u:=.cells (Tr.nil.AZ 0 (BJ c zz (sLen*size) b.off++news)) ((sLen+n)*size) #[] e) (u':=.cells (FT YC (q+sLen*size) D6.toList) e fr)
      (y:=⟨x.b,q,size,(sLen+n)*size,x.n'⟩) BS rfl UN rfl (by
       refine .cells Mp (by rw [F8]; exact ae) yA (fun k hk=>?_) ⟨by rw [F8]; exact aN,fun h=>(h rfl).elim⟩; have hk:k<(sLen+n)*size:=hk; refine AM.mono (ρ:=ρ) ?_ CU; rw [CV _ _ _ (by simp [Au,c2]; omega),PW _ _ _ _ (by rw [←fi]; omega)]; rw [←fi]; show AM ρ _ (if q+sLen*size≤k+q∧k+q<q+sLen*size+news.length then D6.toList.getD (k+q-(q+sLen*size)) undef else YC.getD (k+q) undef)
       by_cases jA:k<sLen*size
       ·rw [if_neg (by omega)]; rw [List.getD_eq_getElem?_getD,List.getElem?_append_left (by rw [Au]; exact jA),←List.getD_eq_getElem?_getD,FI _ _ _ _ _ jA,Nat.add_comm k q]; exact Kr k jA
       ·rw [if_pos (by omega)]; rw [List.getD_eq_getElem?_getD,List.getElem?_append_right (by rw [Au]; omega),←List.getD_eq_getElem?_getD,Au]; have e1:k+q-(q+sLen*size)=k-sLen*size:=by omega
        rw [e1]
        exact CJ.2 _ (by omega))
     refine ⟨.slice (some ⟨x.b,q,none⟩) (sLen+n) HA,_,_,hg,?_,?_,Er⟩
     ·rw [R1]; simp only [Sem.run_bind,Ko]; rw [Ef (P:=P) (q+sLen*size) D6.toList 0 w YC dn aN (by rw [←fi]; omega) (CJ.V' c1)]; simp only [Result.andThen_ok,Sem.run_pure,Nat.add_zero]
     ·refine .slice _ ⟨rfl,⟨x.b,q,size,(sLen+n)*size,x.n'⟩,by simp,by simp⟩ (.inr ⟨⟨x.b,q,size,(sLen+n)*size,x.n'⟩,by simp,c3,by simp,?_,QP⟩); show 0+q+HA*size=x.n'; omega
    ·have hN:FA (some b) (sLen*size) W=some (BJ c zz (sLen*size) b.off):=by
      simp only [FA,BS,cond_eq_ite]; rw [if_pos (Nat.ble_eq_true_of_le oK)]
      split
      ·rename_i h0; rw [Nat.eq_of_beq_eq_true h0]; rfl
      ·rfl
     obtain ⟨old',G5,aY⟩:=Jf hw sP (Nat.le_refl sLen) hN; obtain ⟨nc,d,qZ,G7⟩:=R2 (by omega) old' G5; have Df:=(hw.kill BS).drew d; have yB:old'.size=sLen*size:=by have:=aY.1; rw [Au] at this; simpa using this.symm
     have sQ:(old'++D6++Builtin.zeroCells z.cells (nc-(sLen+n))).size=nc*size:=by
      simp only [Array.size_append,Kv,qd,c4,yB]; obtain ⟨k,rfl⟩:∃ k,nc=sLen+n+k:=⟨nc-(sLen+n),by omega⟩
      have:sLen+n+k-(sLen+n)=k:=by omega
      rw [this,Nat.add_mul,Nat.add_mul]
     have CU:Ext ρ (fun i=>if i=W.sz then some ⟨w.heap.size,0,size,(sLen+n)*size,nc*size⟩ else ρ i):=fun i y hy=>by
      have:=hw.Q_ i y hy; show (if i=W.sz then _ else ρ i)=some y; rw [if_neg (by omega)]; exact hy
     obtain ⟨hg,Er⟩:=Df.new (o:=.cells (Tr.nil.AZ 0 (BJ c zz (sLen*size) b.off++news)) ((sLen+n)*size) #[] e) (o':=.cells (old'++D6++Builtin.zeroCells z.cells (nc-(sLen+n))) e (0,0))
      ⟨w.heap.size,0,size,(sLen+n)*size,nc*size⟩ rfl (by
       refine .cells Mp sQ ?_ (fun k hk=>?_) ⟨NF.zero _,fun h=>(h rfl).elim⟩
       ·simp only [Nat.zero_add]; exact Nat.mul_le_mul_right _ (by omega)
       ·have hk:k<(sLen+n)*size:=hk; rw [Nat.add_mul] at hk
        exact (P8 (ρ:=ρ) aY CJ k (by rw [Au]; omega)).mono CU)
     refine ⟨_,_,_,hg,G7,?_,Er⟩
     refine .slice _ ⟨rfl,⟨w.heap.size,0,size,(sLen+n)*size,nc*size⟩,?_,by simp⟩ (.inr ⟨⟨w.heap.size,0,size,(sLen+n)*size,nc*size⟩,?_,c3,by simp,by simp,qZ⟩)
     ·show (if W.sz=W.sz then _ else _)=_; rw [if_pos rfl]
     ·show (if W.sz=W.sz then _ else _)=_; rw [if_pos rfl]
 ·cases h
end
end Go.Ce
namespace Go.Ce
open Go.RowKit (Below)
section
variable {P:Program} {w0:World} {ρ:BX} {W:CW} {w:World} {o:Oper} {e e':Operand→Value} {outs:List (BM × CW)}
theorem UO (hz:ZP P) {f:FuncId} {as:List Value} {as':Array Value} {v:Value} {W1:CW} (h:IF P f as W=some (v,W1)) (hw:AW P w0 ρ W w) (ha:Aj ρ as as'.toList) :
  ∃ v' w' ρ',(callFunc f as').run P w=.ok (.value v') w'∧Dc W ρ W1 ρ'∧AM ρ' v v'∧AW P w0 ρ' W1 w':=by
 unfold IF at h; split at h
 rotate_left
 ·cases h
 rename_i fn V7; rw [cond_eq_ite] at h; split at h
 rotate_left
 ·cases h
 rename_i hb; rw [cond_eq_ite] at h; split at h
 rotate_left
 ·cases h
 rename_i hn; split at h
 rotate_left
 ·cases h
 rename_i t r; split at h
 rotate_left
 ·cases h
 rename_i es Dq BS
 cases h
 obtain ⟨y,hy,hv⟩:=ha.get (i:=0) (x:=.iface t (.map (some r))) rfl
 have hl:as'=#[y]:=by
  have h1:=ha.1; apply Array.ext'
  cases hq:as'.toList with
  | nil=>rw [hq] at h1; cases h1
  | cons z l =>
   rw [hq] at h1 hy; have:l=[]:=by simpa using h1.symm
   subst this
   simpa using hy
 subst hl
 cases hv with
 | iface _ hv =>
  cases hv with
  | @map _ r' qe =>
   obtain ⟨x,hx,rfl⟩:=qe; obtain ⟨o',G5,hr⟩:=hw.obj BS (by simp) hx rfl
   cases hr with
   | @map _ By _ h1 h2 =>
    have CU:Ext ρ (fun i=>if i=W.sz then some ⟨w.heap.size,0,0,0,0⟩ else ρ i):=fun i y hy=>by
     have:=hw.Q_ i y hy; show (if i=W.sz then _ else ρ i)=some y; rw [if_neg (by omega)]; exact hy
    obtain ⟨hg,HI⟩:=hw.new (o:=.map es Dq) (o':=.map By Dq) ⟨w.heap.size,0,0,0,0⟩ rfl (.map rfl (h2.mono CU))
    have G7:(Extern.MapsClone.clone #[.iface t (.map (some x.b))]).run P w=.ok (.iface t (.map (some w.heap.size))) { w with heap:=w.heap.push (.map By Dq) }:=by
     have e1:Extern.MapsClone.clone #[.iface t (.map (some x.b))]=(getObj x.b >>= fun o=>match o with
       | .map entries clock=>(newObj (.map entries clock) >>= fun n=>pure (.iface t (.map (some n))))
       | _=>stuck "maps.clone: a map expected"):=rfl
     have hgo:(getObj x.b).run P w=.ok (.map By Dq) w:=Am G5 (by simp); rw [e1]; simp only [Sem.run_bind,hgo,Result.andThen_ok,run_newObj,Sem.run_pure]
    exact ⟨_,_,_,hz.2 f fn V7 hb hn _ _ _ _ G7,hg,.iface _ (.map ⟨⟨w.heap.size,0,0,0,0⟩,by simp,rfl⟩),HI⟩
theorem WB (hz:ZP P) {c:Call} {f:Operand} (ho:o.op=.call c) (hf:c.callee=.value f) (h:BD P o e W=some outs) (hw:AW P w0 ρ W w) (hx:AM ρ (e f) (e' f))
  (ha:∀ x,x ∈ c.args.toList→AM ρ (e x) (e' x)):Az P w0 ρ W ((execOp e' o).run P w) outs:=by
 simp only [BD,ho,hf] at h; have CN:Aj ρ (c.args.toList.map e) (c.args.map e').toList:=by simpa using Aj.map (ρ:=ρ) c.args.toList e e' ha
 generalize hn:G_ (e f) (c.args.toList.map e)=n at h; unfold G_ at hn
 split at hn
 ·rename_i fn first cap hc; rw [hc] at hx; generalize OL:e' f=PZ at hx
  cases hx with
  | @func _ f' _ x' _ y' V7 h1 h2 h3 h4 =>
   cases V7
   have hA:Aj ρ (first.toList++c.args.toList.map e++cap.toList) (x'++c.args.map e'++y').toList:=by
    have e1:=Aj.arr.2 ⟨h1,h2⟩; have e2:=Aj.arr.2 ⟨h3,h4⟩
    simpa using (e1.append CN).append e2
   have hE:(execOp e' o).run P w=(callFunc fn (x'++c.args.map e'++y')).run P w:=by
    simp only [execOp,ho,resolve,hf,OL,Deferred.ofValue,Sem.run_bind,Sem.run_pure,Result.andThen_ok,invoke]
   subst hn; simp only at h
   split at h
   ·rename_i v W1 CU
    cases h
    obtain ⟨v',w',ρ',G7,hg,hv,HI⟩:=UO hz CU hw hA; exact ⟨_,_,ρ',List.mem_singleton.2 rfl,hg,.value (w:=w') (by rw [hE,G7]) hv HI⟩
   ·cases h
    exact ⟨_,_,ρ,List.mem_singleton.2 rfl,.refl _,.enter (args':=x'++c.args.map e'++y') (w:=w) hE hA hw⟩
 ·rename_i l first cap hc; subst hn
  cases h
  rw [hc] at hx; generalize OL:e' f=PZ at hx
  cases hx with
  | @func _ f' _ x' _ y' V7 h1 h2 h3 h4 =>
   cases V7 with
   | yield hb =>
    refine ⟨_,_,ρ,List.mem_singleton.2 rfl,.refl _,.round (args':=x'++c.args.map e') (w:=w) ?_ hb ?_ hw⟩
    ·simp only [execOp,ho,resolve,hf,OL,Deferred.ofValue,Sem.run_bind,Sem.run_pure,Result.andThen_ok,invoke]
    ·have e1:=Aj.arr.2 ⟨h1,h2⟩
     simpa using e1.append CN
 ·subst hn
  cases h
theorem MP:∀ {l:List Value} {m:List UInt8},HT l=some m→m.length=l.length∧∀ l',Aj ρ l l'→∃ ns:List Int,l'=ns.map (Value.int .u8)∧m=ns.map fun n=>UInt8.ofNat n.toNat
 | [],m,h=>by cases h; exact ⟨rfl,fun l' hl=>⟨[],List.length_eq_zero_iff.1 hl.1.symm,rfl⟩⟩
 | v::l,m,h=>by
  unfold HT at h
  split at h
  ·cases ‹_::_=[]›
  ·rename_i n l2 heq
   cases heq
   split at h
   ·rename_i m2 hm
    cases h
    obtain ⟨h1,h2⟩:=MP hm; refine ⟨by simp [h1],fun l' hl=>?_⟩
    cases l' with
    | nil=>have:=hl.1; simp at this
    | cons y l' =>
     obtain ⟨ns,e1,e2⟩:=h2 l' hl.tail; have hv:=hl.head
     cases hv
     exact ⟨n::ns,by rw [e1]; rfl,by rw [e2]; rfl⟩
   ·cases h
  ·cases h
theorem ag (hw:AW P w0 ρ W w) {s d el:TypeId} {x x' v:Value} (hs:P.underlying s=some (.slice el)) (hd:P.underlying d=some .string) (h:jV P el x W=some v) (hx:AM ρ x x') :
  (convert s d x').run P w=.ok v w∧AM ρ v v:=by
 unfold jV at h; split at h
 rotate_left
 ·cases h
 rename_i b n c Mp; obtain ⟨l,hl,h⟩:=AX h; obtain ⟨m,hm,h⟩:=AX h
 cases h
 refine ⟨?_,.string _⟩; obtain ⟨b',c',rfl,A0⟩:=hx.Fp; rw [run_convert_bytes_string w s d el b' n c' hs Mp hd]; have UJ:FA b (n*1) W=some l:=by rw [Nat.mul_one]; exact hl
 obtain ⟨l',hr,CJ⟩:=Jf hw hx (Nat.le_refl n) UJ; obtain ⟨_,hb⟩:=MP (ρ:=ρ) hm; obtain ⟨ns,e1,e2⟩:=hb _ CJ
 rcases A0 with ⟨rfl,rfl,_⟩ | ⟨a,a',rfl,rfl,_⟩
 ·have Gq:l=[]:=by cases hl; rfl
  subst Gq
  cases hm
  simp [Conv.bytesToString]; rfl
 ·have hr:=hr w.drawn; simp only [Builtin.firstCells,Nat.mul_one] at hr; have e3:l'=(ns.map (Value.int .u8)).toArray:=by apply Array.ext'; rw [e1]
  rw [e3] at hr; rw [run_bytesToString w a' n c' ns hr,foldl_push_bytes,e2]; simp
theorem aj (hw:AW P w0 ρ W w) {s d el:TypeId} {b:ByteArray} {v:Value} {W1:CW} (hs:P.underlying s=some .string) (hd:P.underlying d=some (.slice el)) (h:n9 P el b W=some (v,W1)) :
  ∃ v' w' ρ',(convert s d (.string b)).run P w=.ok v' w'∧Dc W ρ W1 ρ'∧AM ρ' v v'∧AW P w0 ρ' W1 w':=by
 unfold n9 at h; split at h
 rotate_left
 ·cases h
 rename_i Mp HV
 cases h
 let cap:=grownCap w b.size 0 el
 have sR:b.size≤cap:=by
  show b.size≤grownCap w b.size 0 el; simp only [grownCap,Question.cut]; omega
 have Df:=hw.drew (w.drawn+1)
 have CU:Ext ρ (fun i=>if i=W.sz then some ⟨w.heap.size,0,1,b.size,cap⟩ else ρ i):=fun i y hy=>by
  have:=hw.Q_ i y hy; show (if i=W.sz then _ else ρ i)=some y; rw [if_neg (by omega)]; exact hy
 have hbs:b.data.size=b.size:=rfl
 have fj:(bytesRow b cap).size=cap:=by
  simp [bytesRow,hbs]; omega
 obtain ⟨hg,Er⟩:=Df.new (o:=.cells (Tr.nil.AZ 0 (DL (sb b))) b.size #[] el) (o':=.cells (bytesRow b cap) el ((bytesRow b cap).size,(bytesRow b cap).size+1)) ⟨w.heap.size,0,1,b.size,cap⟩ rfl (by
  refine .cells HV fj (by show 0+b.size≤cap; omega) (fun k hk=>?_) ⟨fun k hk=>by simp; omega,fun h=>(h rfl).elim⟩; have hk:k<b.size:=hk; have jA:k<b.data.size:=hk; have hlen:(DL (sb b)).length=b.size:=by simp [DL,sb,hbs]
  rw [CV _ _ _ (by omega)]
  have e1:(bytesRow b cap).getD (k+0) undef=.int .u8 b.data[k].toNat:=by
   rw [Array.getD_eq_getD_getElem?,Nat.add_zero,bytesRow,Array.getElem?_append_left (by simpa using jA)]; simp [Array.getElem?_eq_getElem jA]
  have e2:(DL (sb b)).getD k undef=.int .u8 b.data[k].toNat:=by
   simp [DL,sb,List.getD_eq_getElem?_getD,Array.getElem?_eq_getElem jA]
  rw [e1,e2]
  exact .int _ _)
 refine ⟨.slice (some ⟨w.heap.size,0,none⟩) b.size cap,_,_,?_,hg,.slice _ ⟨rfl,⟨w.heap.size,0,1,b.size,cap⟩,by simp,by simp⟩ (.inr ⟨⟨w.heap.size,0,1,b.size,cap⟩,by simp,by show 0<1; omega,by simp,by simp,sR⟩),Er⟩; exact run_bytes_of_string w s d el b hs hd Mp
theorem aw {s d:TypeId} {x:Operand} (ho:o.op=.convert s d x) (h:BD P o e W=some outs) (hw:AW P w0 ρ W w) (hx:AM ρ (e x) (e' x)) :
  Az P w0 ρ W ((execOp e' o).run P w) outs:=by
 simp only [BD,ho] at h
 split at h
 ·rename_i ud k k0 n hs hd hc
  cases h
  rw [hc] at hx; generalize D5:e' x=PZ at hx
  cases hx
  refine .value hw ?_ (.int _ _); simp only [execOp,ho,D5]; refine A5 ?_; simp only [convert,Sem.run_bind,AF hs,AF hd,Result.andThen_ok,Conv.intToInt,Sem.run_pure]
 ·rename_i ud s0 hs hd hc
  cases h
  rw [hc] at hx; generalize D5:e' x=PZ at hx
  cases hx
  refine .value hw ?_ (.string _); simp only [execOp,ho,D5]; refine A5 ?_
  cases ud <;> simp [convert,AF hs,AF hd]
 ·rename_i el s0 hs hd hc; obtain ⟨v,W1,hv,rfl⟩:=LY h; rw [hc] at hx; generalize D5:e' x=PZ at hx
  cases hx
  obtain ⟨v',w',ρ',hr,hg,jo,HI⟩:=aj hw hs hd hv; refine ⟨_,_,ρ',List.mem_singleton.2 rfl,hg,.value (w:=w') ?_ jo HI⟩; simp only [execOp,ho,D5]; exact A5 hr
 ·rename_i el _ hs hd _; obtain ⟨v,hv,rfl⟩:=Dy h; obtain ⟨hr,jo⟩:=ag hw hs hd hv hx; refine .value hw ?_ jo; simp only [execOp,ho]; exact A5 hr
 ·cases h
theorem YD (hw:AW P w0 ρ W w) {ts:Array TypeId} {t ty:TypeId} {d d' s s' v:Value} {W1:CW} (h0:ts[0]?=some t)
  (h:Xu P t d s W=some (v,W1)) (hd:AM ρ d d') (hs:AM ρ s s'):∃ v' w',(Builtin.copy_ ts ty #[d',s']).run P w=.ok v' w'∧AM ρ v v'∧AW P w0 ρ W1 w':=by
 unfold Xu at h
 split at h
 ·rename_i elem base Xv ADr sLen ht qc; obtain ⟨size,HV,h2⟩:=AX h; clear h; obtain ⟨news,F9,h⟩:=AX h2; clear h2; have ABT:Nat.min sLen Xv≤sLen:=Nat.min_le_left _ _; obtain ⟨D6,oJ,CJ,hl⟩:=Us hw hs qc ABT F9; obtain ⟨MO,yC,rfl,A0⟩:=hd.Fp
  have G7:(Builtin.copy_ ts ty #[.slice MO Xv yC,s']).run P w=(do
      if let some a:=MO then storeCells a D6.toList
      pure (goInt (Nat.min sLen Xv)):Sem Value).run P w:=by
   simp only [Builtin.copy_,h0,List.getElem?_toArray,List.getElem?_cons_zero,List.getElem?_cons_succ,Sem.run_bind,AF ht,Result.andThen_ok,hl,A8 HV,oJ w.drawn]
   cases MO <;> rfl
  rw [cond_eq_ite] at h
  split at h
  ·rename_i R7; have R7:=Nat.eq_of_beq_eq_true R7; simp only [Option.some.injEq,Prod.mk.injEq] at h; obtain ⟨rfl,rfl⟩:=h; refine ⟨_,w,?_,.int _ _,hw⟩; rw [G7]
   have Gq:D6.toList=[]:=by
    have hlen:=CJ.1
    have:news=[]:=by
     rw [R7] at F9; unfold Gl at F9
     split at F9
     ·rw [Nat.zero_mul] at F9; unfold FA at F9
      split at F9
      ·cases F9; rfl
      ·cases F9; rfl
     ·rw [cond_eq_ite] at F9
      split at F9
      ·cases F9; rfl
      ·cases F9
     ·cases F9
    rw [this] at hlen; exact List.length_eq_zero_iff.1 hlen.symm
   rw [Gq]
   cases MO <;> simp [storeCells,goInt]
  ·rename_i R7
   rcases A0 with ⟨rfl,_,_⟩ | ⟨b,b',rfl,rfl,A0⟩
   ·cases h
   ·simp only at h
    split at h
    ·rename_i c m zz ee BS; rw [cond_eq_ite] at h
     split at h
     ·rename_i BE; simp only [Bool.and_eq_true] at BE; have hle:=Nat.le_of_ble_eq_true BE.2; simp only [Option.some.injEq,Prod.mk.injEq] at h; obtain ⟨rfl,rfl⟩:=h
      rcases A0 with ⟨ha,_⟩ | ⟨hd0,_,_⟩ | ⟨hd0,_,_⟩
      ·obtain ⟨x,YC,fr,UN,rfl,dn,aN,hr,hn,ae,aO,_,D5⟩:=hw.cells ha BS; have Er:=hw.A4 BS rfl UN (hr.write (vs:=news) (vs':=D6.toList) CJ (k:=b.off) (by omega)); refine ⟨_,_,?_,.int _ _,Er⟩; rw [G7]; simp only [Sem.run_bind]; rw [Ef (P:=P) (b.off+x.o) D6.toList 0 w YC dn aN (by have:=CJ.1; omega) (CJ.V' BE.1)]; simp only [Result.andThen_ok,Sem.run_pure,Nat.add_zero]; rfl
      ·exact (R7 (by rw [hd0]; simp)).elim
      ·exact (R7 (by rw [hd0]; simp)).elim
     ·cases h
    ·cases h
 ·cases h
theorem a6 (hw:AW P w0 ρ W w) {ts:Array TypeId} {t ty:TypeId} {x x' v:Value} (h0:ts[0]?=some t) (h:AY P t x W=some v) (hx:AM ρ x x') :
  ∃ v',(Builtin.len_ ts ty #[x']).run P w=.ok v' w∧AM ρ v v':=by
 unfold AY at h
 split at h
 ·rename_i s ht
  cases h; cases hx
  exact ⟨_,by simp [Builtin.len_,h0,AF ht,goInt],.int _ _⟩
 ·rename_i el a0 n c ht
  cases h
  obtain ⟨a',c',rfl,_⟩:=hx.Fp; exact ⟨_,by simp [Builtin.len_,h0,AF ht,goInt],.int _ _⟩
 ·rename_i kt el ht
  cases h; cases hx
  exact ⟨_,by simp [Builtin.len_,h0,AF ht,goInt],.int _ _⟩
 ·rename_i kt el r ht
  cases hx with
  | map hb =>
   split at h
   ·rename_i es Dq BS
    cases h
    obtain ⟨y,By,hy,rfl,_,hh,CJ⟩:=hw.P5 hb BS; have hl:=CJ.length; refine ⟨.int .i64 By.size,by simp [Builtin.len_,h0,AF ht,goInt,Am hh (by simp)],?_⟩; rw [hl]
    simpa using AM.int .i64 _
   ·cases h
 ·cases h
theorem a7 (hw:AW P w0 ρ W w) {ts:Array TypeId} {t ty:TypeId} {x x' v:Value} (h0:ts[0]?=some t) (h:r7 P t x W=some v) (hx:AM ρ x x') :
  ∃ v',(Builtin.cap_ ts ty #[x']).run P w=.ok v' w∧AM ρ v v':=by
 unfold r7 at h
 split at h
 ·rename_i el n c ht
  cases h
  cases hx
  refine ⟨_,?_,.int _ _⟩; simp [Builtin.cap_,h0,AF ht,goInt]
 ·rename_i el a n c ht
  split at h
  ·rename_i cc m z e BS; rw [cond_eq_ite] at h
   split at h
   ·cases h
   ·rename_i hz; simp only [Bool.or_eq_true,Nat.beq_eq,not_or] at hz
    cases h
    cases hx with
    | @slice _ a' _ _ c' ha hc =>
     have:c'=c:=by
      rcases hc with hc | ⟨x,hx,hp,h1,h2,_⟩
      ·exact hc
      ·obtain ⟨_,y,hy,rfl⟩:=ha; rw [hx] at hy; cases hy; obtain ⟨o',G5,hr⟩:=hw.obj BS (by simp) hx rfl
       cases hr with
       | cells _ _ _ _ hq =>
        obtain ⟨e1,e2⟩:=hq.2 hz.1; have:c*x.sz=c'*x.sz:=by omega
        exact (Nat.eq_of_mul_eq_mul_right hp this).symm
     subst this; refine ⟨_,?_,.int _ _⟩; simp [Builtin.cap_,h0,AF ht,goInt]
    | Ig=>exact (hz.2 rfl).elim
    | HH=>exact (hz.2 rfl).elim
  ·cases h
 ·cases h
theorem UP (hw:AW P w0 ρ W w) {ts:Array TypeId} {t ty:TypeId} {m m' k k':Value} {W1:CW} (h0:ts[0]?=some t) (h:NI P t m k W=some W1) (hm:AM ρ m m') (hk:AM ρ k k') :
  ∃ w',(Builtin.delete_ ts ty #[m',k']).run P w=.ok (.tuple #[]) w'∧AW P w0 ρ W1 w':=by
 unfold NI at h
 split at h
 ·rename_i kt el r ht
  cases hm with
  | @map _ r' hb =>
   split at h
   ·rename_i es Dq BS; obtain ⟨f,hf,h2⟩:=AX h; clear h; have h:=h2; obtain ⟨y,By,hy,rfl,nT,hh,CJ⟩:=hw.P5 hb BS; obtain ⟨r',KW,II,A0⟩:=Kt hf hk CJ
    rcases A0 with ⟨rfl,rfl⟩ | ⟨j,x1,x7,en,rfl,rfl,sK,GI,P6⟩
    ·cases h
     refine ⟨{ w with heap:=w.heap.setIfInBounds y.b (.map By Dq) },?_,hw.A4 BS rfl hy (.map nT CJ)⟩; simp [Builtin.delete_,h0,AF ht,Am hh (by simp),KW,II,CX hh (by simp)]
    ·cases h
     refine ⟨{ w with heap:=w.heap.setIfInBounds y.b (.map (By.eraseIdxIfInBounds j) Dq) },?_,hw.A4 BS rfl hy (.map nT ?_)⟩
     ·simp [Builtin.delete_,h0,AF ht,Am hh (by simp),KW,II,CX hh (by simp)]
     ·have:=CJ.Ja j; have e1:(By.eraseIdxIfInBounds j).toList=By.toList.eraseIdx j:=by simp
      rw [e1]; exact this
   ·cases h
 ·cases h
theorem WC (hz:ZP P) (hw:AW P w0 ρ W w) {ts:Array TypeId} {t ty:TypeId} {x x':Value} {W1:CW} (h0:ts[0]?=some t) (h:Rv P t x W=some W1) (hx:AM ρ x x') :
  ∃ w',(Builtin.clear_ ts ty #[x']).run P w=.ok (.tuple #[]) w'∧AW P w0 ρ W1 w':=by
 unfold Rv at h
 split at h
 ·rename_i kt el r ht
  split at h
  ·rename_i es Dq BS
   cases h
   cases hx with
   | @map _ r' hb =>
    obtain ⟨y,By,hy,rfl,nT,hh,CJ⟩:=hw.P5 hb BS; refine ⟨{ w with heap:=w.heap.setIfInBounds y.b (.map #[] Dq) },?_,hw.A4 BS rfl hy (.map nT trivial)⟩; simp [Builtin.clear_,h0,AF ht,Am hh (by simp),CX hh (by simp)]
  ·cases h
 ·rename_i kt el ht
  cases h; cases hx
  exact ⟨w,by simp [Builtin.clear_,h0,AF ht],hw⟩
 ·rename_i el a n c ht; obtain ⟨size,HV,h2⟩:=AX h; clear h; obtain ⟨z0,JY,h⟩:=AX h2; clear h2; obtain ⟨a',c',rfl,A0⟩:=hx.Fp; rw [cond_eq_ite] at h
  split at h
  ·rename_i R7; have R7:=Nat.eq_of_beq_eq_true R7; subst R7
   cases h
   refine ⟨w,?_,hw⟩
   cases a' <;> simp [Builtin.clear_,h0,AF ht]
  ·rename_i R7; have R7:n≠0:=fun h=>R7 (by rw [h]; rfl)
   split at h
   ·rename_i cc m zz ee BS; rw [cond_eq_ite] at h
    split at h
    ·rename_i BE; simp only [Bool.and_eq_true] at BE; have hle:=Nat.le_of_ble_eq_true BE.1
     cases h
     rcases A0 with ⟨h1,_⟩ | ⟨b,b',nU,rfl,A0⟩
     ·cases h1
     ·cases nU
      rcases A0 with ⟨ha,_⟩ | ⟨h1,_⟩ | ⟨h1,_⟩
      ·obtain ⟨x,YC,fr,UN,rfl,dn,aN,hr,hn,ae,aO,_,D5⟩:=hw.cells ha BS
       have nV:Aj ρ (BJ .nil z0.cells (n*z0.cells.size) 0) (Builtin.zeroCells z0.cells n).toList:=by
        refine ⟨by simp [Au,Builtin.zeroCells],fun i hi=>?_⟩; rw [Au] at hi; rw [FI _ _ _ _ _ hi,Nat.zero_add]
        have h1:=LZ (ρ:=ρ) hz JY (n*z0.cells.size) (by
         rcases Nat.eq_zero_or_pos z0.cells.size with h0 | h0
         ·left; rw [h0]; rfl
         ·exact .inr h0) i hi
        simp only [Builtin.zeroCells]; rw [Array.getD_eq_getD_getElem?,←Array.getElem?_toList] at h1; rw [List.getD_eq_getElem?_getD]; exact h1
       have Bq:(Builtin.zeroCells z0.cells n).toList.all BB=true:=by
        rw [List.all_eq_true]; intro y hy; simp only [Builtin.zeroCells,Array.toList_map,List.mem_map,Array.toList_range,List.mem_range] at hy; obtain ⟨i,hi,rfl⟩:=hy
        have Mq:0<z0.cells.size:=by
         rcases Nat.eq_zero_or_pos z0.cells.size with h0 | h0
         ·rw [h0] at hi; omega
         ·exact h0
        have Ax:i % z0.cells.size<z0.cells.size:=Nat.mod_lt _ Mq; have:=List.all_eq_true.1 BE.2 (z0.cells[i % z0.cells.size]) (by simp)
        simpa [Ax] using this
       have Er:=hw.A4 BS rfl UN (hr.write (vs:=BJ .nil z0.cells (n*z0.cells.size) 0) nV (k:=a.off) (by rw [Au]; omega)); refine ⟨_,?_,Er⟩; have Es:=Ef (P:=P) (a.off+x.o) (Builtin.zeroCells z0.cells n).toList 0 w YC dn aN (by simp [Builtin.zeroCells]; omega) Bq; obtain ⟨n,rfl⟩:∃ k,n=k+1:=⟨n-1,by omega⟩
       simp only [Builtin.clear_,h0,List.getElem?_toArray,List.getElem?_cons_zero,Sem.run_bind,AF ht,Result.andThen_ok,BO JY,Es,Sem.run_pure,Nat.add_zero]
      ·exact (R7 h1).elim
      ·exact (R7 h1).elim
    ·cases h
   ·cases h
 ·rename_i el n c ht
  cases h
  obtain ⟨a',c',rfl,A0⟩:=hx.Fp
  have:a'=none:=by
   rcases A0 with ⟨_,h,_⟩ | ⟨b,b',h,_⟩
   ·exact h
   ·cases h
  subst this; refine ⟨w,?_,hw⟩
  cases n <;> simp [Builtin.clear_,h0,AF ht]
 ·cases h
theorem jz {t:TypeId} {d s v:Value} {W1:CW} (h:Xu P t d s W=some (v,W1)):W.sz≤W1.sz:=by
 unfold Xu at h
 split at h
 ·obtain ⟨_,_,h⟩:=AX h; obtain ⟨_,_,h⟩:=AX h
  repeat' (first | (cases h; done) | (cases h; exact Nat.le_refl _) | (rw [cond_eq_ite] at h) | split at h)
 ·cases h
theorem a8 {t:TypeId} {d s:Value} {W1:CW} (h:NI P t d s W=some W1):W.sz≤W1.sz:=by
 unfold NI at h
 split at h
 ·split at h
  ·obtain ⟨_,_,h⟩:=AX h
   repeat' (first | (cases h; done) | (cases h; exact Nat.le_refl _) | (rw [cond_eq_ite] at h) | split at h)
  ·cases h
 ·cases h
theorem fk {t:TypeId} {d:Value} {W1:CW} (h:Rv P t d W=some W1):W.sz≤W1.sz:=by
 unfold Rv at h
 split at h
 ·repeat' (first | (cases h; done) | (cases h; exact Nat.le_refl _) | (rw [cond_eq_ite] at h) | split at h)
 ·cases h; exact Nat.le_refl _
 ·obtain ⟨_,_,h⟩:=AX h; obtain ⟨_,_,h⟩:=AX h
  repeat' (first | (cases h; done) | (cases h; exact Nat.le_refl _) | (rw [cond_eq_ite] at h) | split at h)
 ·cases h; exact Nat.le_refl _
 ·cases h
theorem WD {c:Call} {b:Builtin} (ho:o.op=.call c) (hf:c.callee=.builtin b) (w:World) :
  (execOp e' o).run P w=(builtin b c.argTypes o.type (c.args.map fun | .const _=>true | _=>false) (c.args.map e')).run P w:=by
 simp only [execOp,ho,resolve,hf,Sem.run_bind,Sem.run_pure,Result.andThen_ok,invoke]; rfl
theorem Uw {α:Type} {a:Array α} {x:α} {l:List α} (h:a.toList=x::l):a[0]?=some x:=by rw [←Array.getElem?_toList,h]; rfl
theorem yD {α:Type} {a:Array α} {x y:α} {l:List α} (h:a.toList=x::y::l):a[1]?=some y:=by rw [←Array.getElem?_toList,h]; rfl
theorem ofList {α:Type} {a:Array α} {l:List α} (h:a.toList=l):a=l.toArray:=by rw [←h]
theorem a_ (hz:ZP P) {c:Call} {b:Builtin} (ho:o.op=.call c) (hf:c.callee=.builtin b) (h:BD P o e W=some outs) (hw:AW P w0 ρ W w)
  (ha:∀ x,x ∈ c.args.toList→AM ρ (e x) (e' x)):Az P w0 ρ W ((execOp e' o).run P w) outs:=by
 rw [WD ho hf]; simp only [BD,ho,hf] at h; split at h
 rotate_left
 ·cases h
 rename_i r hr
 cases h
 generalize hB:c.args.map e'=B; have CN:Aj ρ (c.args.toList.map e) B.toList:=by rw [←hB]; simpa using Aj.map (ρ:=ρ) c.args.toList e e' ha
 clear hB; generalize c.args.toList.map e=A at hr CN; unfold Hj at hr
 have one:∀ {x:Value},Aj ρ [x] B.toList→∃ x',B=#[x']∧AM ρ x x':=by
  intro x hl
  cases hB:B.toList with
  | nil=>rw [hB] at hl; have:=hl.1; simp at this
  | cons y ys =>
   rw [hB] at hl; have:ys=[]:=by have:=hl.1; simp at this; first | exact this | exact this.symm | exact List.length_eq_zero_iff.1 this.symm
   subst this; exact ⟨y,ofList hB,hl.head⟩
 have two:∀ {x y:Value},Aj ρ [x,y] B.toList→∃ x' y',B=#[x',y']∧AM ρ x x'∧AM ρ y y':=by
  intro x y hl
  cases hB:B.toList with
  | nil=>rw [hB] at hl; have:=hl.1; simp at this
  | cons x' ys =>
   rw [hB] at hl; have h1:=hl.head; have hl:=hl.tail
   cases ys with
   | nil=>have:=hl.1; simp at this
   | cons y' ys =>
    have:ys=[]:=by have:=hl.1; simp at this; first | exact this | exact this.symm | exact List.length_eq_zero_iff.1 this.symm
    subst this; exact ⟨x',y',ofList hB,h1,hl.head⟩
 split at hr
 ·rename_i t ts x R8; obtain ⟨x',rfl,hx⟩:=one CN; rw [Option.map_eq_some_iff] at hr; obtain ⟨v,hv,rfl⟩:=hr; obtain ⟨v',H5,F7⟩:=a6 (ty:=o.type) hw (Uw R8) hv hx; exact .value hw (A5 H5) F7
 ·rename_i t ts x R8; obtain ⟨x',rfl,hx⟩:=one CN; rw [Option.map_eq_some_iff] at hr; obtain ⟨v,hv,rfl⟩:=hr; obtain ⟨v',H5,F7⟩:=a7 (ty:=o.type) hw (Uw R8) hv hx; exact .value hw (A5 H5) F7
 ·rename_i t u ts s x R8; obtain ⟨s',x',rfl,hs,hx⟩:=two CN; rw [cond_eq_ite] at hr
  split at hr
  ·rename_i hu; rw [Option.map_eq_some_iff] at hr; obtain ⟨⟨v,W1⟩,hv,rfl⟩:=hr; obtain ⟨v',w',ρ',CU,H5,F7,HI⟩:=UM (ty:=o.type) hw (Uw R8) (yD R8) hu hv hs hx; exact ⟨_,_,ρ',List.mem_singleton.2 rfl,CU,.value (A5 H5) F7 HI⟩
  ·cases hr
 ·rename_i t ts d s R8; obtain ⟨d',s',rfl,hd,hs⟩:=two CN; rw [Option.map_eq_some_iff] at hr; obtain ⟨⟨v,W1⟩,hv,rfl⟩:=hr; obtain ⟨v',w',H5,F7,HI⟩:=YD (ty:=o.type) hw (Uw R8) hv hd hs; exact ⟨_,_,ρ,List.mem_singleton.2 rfl,.refl _ (jz hv),.value (A5 H5) F7 HI⟩
 ·rename_i t ts x R8; obtain ⟨x',rfl,hx⟩:=one CN; rw [Option.map_eq_some_iff] at hr; obtain ⟨W1,hv,rfl⟩:=hr; obtain ⟨w',H5,HI⟩:=WC (ty:=o.type) hz hw (Uw R8) hv hx; exact ⟨_,_,ρ,List.mem_singleton.2 rfl,.refl _ (fk hv),.value (A5 H5) (.tuple' (.nil _)) HI⟩
 ·rename_i t ts m k R8; obtain ⟨m',k',rfl,hm,hk⟩:=two CN; rw [Option.map_eq_some_iff] at hr; obtain ⟨W1,hv,rfl⟩:=hr; obtain ⟨w',H5,HI⟩:=UP (ty:=o.type) hw (Uw R8) hv hm hk; exact ⟨_,_,ρ,List.mem_singleton.2 rfl,.refl _ (a8 hv),.value (A5 H5) (.tuple' (.nil _)) HI⟩
 ·rename_i k a k2 b2; obtain ⟨x',y',rfl,hx,hy⟩:=two CN
  cases hx; cases hy; cases hr
  refine .value hw (A5 (s:=Builtin.max_ c.argTypes o.type #[.int k a,.int k2 b2]) (by simp [Builtin.max_,Builtin.max2]; rfl)) ?_; simp only [cond_eq_ite,decide_eq_true_eq]; exact .int _ _
 ·rename_i k a k2 b2; obtain ⟨x',y',rfl,hx,hy⟩:=two CN
  cases hx; cases hy; cases hr
  refine .value hw (A5 (s:=Builtin.min_ c.argTypes o.type #[.int k a,.int k2 b2]) (by simp [Builtin.min_,Builtin.min2]; rfl)) ?_; simp only [cond_eq_ite,decide_eq_true_eq]; exact .int _ _
 ·cases hr
  exact ⟨_,_,ρ,List.mem_singleton.2 rfl,.refl _,.recover rfl hw⟩
 ·cases hr
theorem NV (hz:ZP P) (Ae:Rw o=true) (NW:∀ g,e (.global g)=.complex .f32 0 0) (he:∀ x,x ∈ o.op.operands→Ah x=true→AM ρ (e x) (e' x)) (hw:AW P w0 ρ W w) (h:BD P o e W=some outs):Az P w0 ρ W ((execOp e' o).run P w) outs:=by
 have al:∀ l:List Operand,(∀ x,x ∈ l→x ∈ o.op.operands)→l.all Ah=true→∀ x,x ∈ l→AM ρ (e x) (e' x):=fun l hm hl x hx=>he x (hm x hx) (List.all_eq_true.1 hl x hx); have al2:∀ l:List (Nat × Operand),(∀ x,x ∈ l→x.2 ∈ o.op.operands)→(l.all fun p=>Ah p.2)=true→∀ p,p ∈ l→AM ρ (e p.2) (e' p.2):=fun l hm hl x hx=>he x.2 (hm x hx) (List.all_eq_true.1 hl x hx); have op:∀ m:Option Operand,(∀ x,m=some x→x ∈ o.op.operands)→m.all Ah=true→∀ x,m=some x→AM ρ (e x) (e' x):=fun m Bo hm x hx=>he x (Bo x hx) (by subst hx; simpa using hm); unfold Rw at Ae; split at Ae <;> (try simp only [Bool.and_eq_true] at Ae)
 case h_1 ho=>exact di (.inl ho) h hw (he _ (by rw [ho]; simp [Op.operands]) Ae)
 case h_2 ho=>exact di (.inr ho) h hw (he _ (by rw [ho]; simp [Op.operands]) Ae)
 case h_3 ho=>exact X2 ho h hw (he _ (by rw [ho]; simp [Op.operands]) Ae)
 case h_4 ho=>exact oG ho h hw (he _ (by rw [ho]; simp [Op.operands]) Ae)
 case h_5 ho=>exact aw ho h hw (he _ (by rw [ho]; simp [Op.operands]) Ae)
 case h_6 ho=>exact OV ho h hw (he _ (by rw [ho]; simp [Op.operands]) Ae)
 case h_7 ho=>exact jh ho h hw (he _ (by rw [ho]; simp [Op.operands]) Ae)
 case h_8 ho=>exact V5 ho h hw (he _ (by rw [ho]; simp [Op.operands]) Ae)
 case h_9 ho=>exact jr ho h hw (he _ (by rw [ho]; simp [Op.operands]) Ae)
 case h_10 ho=>exact oI ho h hw (he _ (by rw [ho]; simp [Op.operands]) Ae)
 case h_11 ho=>exact jt ho h hw (he _ (by rw [ho]; simp [Op.operands]) Ae)
 case h_12 ho=>exact UK hz ho h hw (he _ (by rw [ho]; simp [Op.operands]) Ae)
 case h_13 ho=>exact aR ho h hw (he _ (by rw [ho]; simp [Op.operands]) Ae)
 case h_14 ho=>exact jl ho h hw (he _ (by rw [ho]; simp [Op.operands]) Ae)
 case h_15 ho=>exact sI ho h hw (he _ (by rw [ho]; simp [Op.operands]) Ae)
 case h_16 t x ho =>
  rw [Bool.or_eq_true] at Ae
  rcases Ae with Ae | Ae
  ·exact oF ho h hw (he _ (by rw [ho]; simp [Op.operands]) Ae)
  ·split at Ae
   ·simp only [BD,ho,NW] at h
    cases h
   ·cases Ae
 case h_17 ho=>exact oE ho h hw (he _ (by rw [ho]; simp [Op.operands]) Ae.1.1) (he _ (by rw [ho]; simp [Op.operands]) Ae.1.2) (he _ (by rw [ho]; simp [Op.operands]) Ae.2)
 case h_18 ho=>exact jb hz ho h hw
 case h_19 ho=>exact aX ho h hw
 case h_20 ho=>exact jf hz ho h hw (al2 _ (fun x hx=>by rw [ho]; simp [Op.operands]; exact ⟨x.1,by simpa using hx⟩) Ae)
 case h_21 ho=>exact UI hz ho h hw (al2 _ (fun x hx=>by rw [ho]; simp [Op.operands]; exact ⟨x.1,by simpa using hx⟩) Ae)
 case h_22 ho=>exact ja ho h hw (he _ (by rw [ho]; simp [Op.operands]) Ae.1) (he _ (by rw [ho]; simp [Op.operands]) Ae.2)
 case h_23 ho=>exact je ho h hw (he _ (by rw [ho]; simp [Op.operands]) Ae.1) (he _ (by rw [ho]; simp [Op.operands]) Ae.2)
 case h_24 ho=>exact V4 hz ho h hw (he _ (by rw [ho]; simp [Op.operands]) Ae.1) (he _ (by rw [ho]; simp [Op.operands]) Ae.2)
 case h_25 ho=>exact V6 ho h hw (he _ (by rw [ho]; simp [Op.operands]) Ae.1) (he _ (by rw [ho]; simp [Op.operands]) Ae.2)
 case h_26 ho=>exact jj ho h hw (he _ (by rw [ho]; simp [Op.operands]) Ae.1) (he _ (by rw [ho]; simp [Op.operands]) Ae.2)
 case h_27 ho=>exact fg hz ho h hw (he _ (by rw [ho]; simp [Op.operands]) Ae.1) (he _ (by rw [ho]; simp [Op.operands]) Ae.2)
 case h_28 ho=>exact X7 ho h hw (al _ (fun x hx=>by rw [ho]; simp [Op.operands]; first | exact .inl hx | exact .inr hx | exact .inl (by simpa using hx) | exact .inr (by simpa using hx)) Ae.1) (al _ (fun x hx=>by rw [ho]; simp [Op.operands]; first | exact .inl hx | exact .inr hx | exact .inl (by simpa using hx) | exact .inr (by simpa using hx)) Ae.2)
 case h_29 ho=>exact jk ho h hw (he _ (by rw [ho]; simp [Op.operands]) Ae.1.1.1) (op _ (fun x hx=>by rw [ho]; simp [Op.operands,hx]) Ae.1.1.2) (op _ (fun x hx=>by rw [ho]; simp [Op.operands,hx]) Ae.1.2) (op _ (fun x hx=>by rw [ho]; simp [Op.operands,hx]) Ae.2)
 case h_30 ho=>exact NU (.inl ho) h hw (he _ (by rw [ho]; simp [Op.operands]) Ae.1.1) (he _ (by rw [ho]; simp [Op.operands]) Ae.1.2) (he _ (by rw [ho]; simp [Op.operands]) Ae.2)
 case h_31 ho=>exact NU (.inr ho) h hw (he _ (by rw [ho]; simp [Op.operands]) Ae.1.1) (he _ (by rw [ho]; simp [Op.operands]) Ae.1.2) (he _ (by rw [ho]; simp [Op.operands]) Ae.2)
 case h_32 c ho =>
  obtain ⟨h1,h2⟩:=Ae
  split at h2
  ·rename_i f hf; exact WB hz ho hf h hw (he _ (by rw [ho]; simp [Op.operands,Call.operands,hf]) h2) (al _ (fun x hx=>by rw [ho]; simp [Op.operands,Call.operands,hf]; exact .inr (by simpa using hx)) h1)
  ·rename_i b hf; exact a_ hz ho hf h hw (al _ (fun x hx=>by rw [ho]; simp [Op.operands,Call.operands,hf]; simpa using hx) h1)
  ·cases h2
 case h_33 c ho =>
  obtain ⟨h1,h2⟩:=Ae
  split at h2
  ·rename_i f hf; exact jm ho hf h hw (he _ (by rw [ho]; simp [Op.operands,Call.operands,hf]) h2) (al _ (fun x hx=>by rw [ho]; simp [Op.operands,Call.operands,hf]; exact .inr (by simpa using hx)) h1)
  ·cases h2
 case h_34=>cases Ae
end
end Go.Ce
