/- A part of the proof: Ca, Cb, Cc, Cd, Ce, Cf, Cg, Ch, Ci, Cj, Ck, Cl, Cm, Cn. -/
import Derived.OrdersIn
import Derived.RangeFuncIn
import Derived.DefersIn
import Derived.RecoverIn
import Derived.KernelRfl
import Derived.Below
import Derived.Laws.StructEq
import Derived.Laws.Concat
import Derived.MapKept
import Derived.Laws.BytesArg
import Derived.Laws.IdiomStrings
set_option linter.unusedSectionVars false
set_option linter.unusedVariables false
set_option linter.unusedSimpArgs false
set_option maxRecDepth 200000
namespace Go.Ce
inductive Tr (α:Type) where
 | nil
 | node (l:Tr α) (v:Option α) (r:Tr α)
def Tr.get {α:Type}:Tr α→Nat→Option α
 | .nil,_=>none
 | .node l v r,i=>cond (Nat.beq i 0) v (cond (Nat.beq (i % 2) 1) (l.get (i / 2)) (r.get (i / 2-1)))
def Tr.ZN {α:Type}:Nat→Tr α→Nat→α→Tr α
 | 0,t,_,_=>t
 | f+1,.nil,i,x=>cond (Nat.beq i 0) (.node .nil (some x) .nil) (cond (Nat.beq (i % 2) 1) (.node (Tr.ZN f .nil (i / 2) x) none .nil) (.node .nil none (Tr.ZN f .nil (i / 2-1) x)))
 | f+1,.node l v r,i,x=>cond (Nat.beq i 0) (.node l (some x) r) (cond (Nat.beq (i % 2) 1) (.node (Tr.ZN f l (i / 2) x) v r) (.node l v (Tr.ZN f r (i / 2-1) x)))
def Tr.set {α:Type} (t:Tr α) (i:Nat) (x:α):Tr α:=Tr.ZN (i+1) t i x
def Tr.Ah {α:Type} (t:Tr α) (k:Nat):List α→Tr α
 | []=>t
 | x::xs=>(t.set k x).Ah (k+1) xs
inductive Au where
 | cells (c:Tr Value) (n:Nat) (z:Array Value) (elem:TypeId)
 | map (es:List MapEntry) (clock:Nat)
 | iter (m:Option Nat) (since:Nat) (seen:List Nat) (last:Nat)
 | loop (state:LoopState) (pending:Option Code) (fn:FuncId) (tmps:Tr Value) (nt:Nat) (params:Array Tmp) (assign body:Code) (defers:Nat)
 | deferred
 | dead
 | fixed (f:Nat→Value) (n:Nat) (elem:TypeId)
def Au.mut:Au→Bool
 | .dead=>false
 | .fixed _ _ _=>false
 | _=>true
structure CW where
 h:Tr Au
 sz:Nat
structure AP where
 t:Tr Value
 nt:Nat
 defers:List Deferred
inductive BX where
 | value (v:Value)
 | skip
 | enter (f:FuncId) (args:List Value)
 | round (l:Nat) (args:List Value)
 | defer (d:Deferred)
 | recover
 | panic (v:Value)
def AP.eval (a:AP):Operand→Value
 | .tmp t=>match a.t.get t with | some v=>v | none=>undef
 | .const v=>v
 | .global _=>.complex .f32 0 0
 | .func f=>.func (.func f) #[] #[]
def AP.put (a:AP) (d:Option Tmp) (v:Value):AP :=
 match d with
 | some d=>{ a with t:=a.t.set d v }
 | none=>a
def CW.new (W:CW) (o:Au):CW:=⟨W.h.set W.sz o,W.sz+1⟩
def CW.obj (W:CW) (i:Nat):Option Au:=W.h.get i
def CW.Az (W:CW) (i:Nat) (o:Au):CW:=⟨W.h.set i o,W.sz⟩
def cellAt (c:Tr Value) (z:Array Value) (k:Nat):Value :=
 match c.get k with
 | some v=>v
 | none=>z.getD (k % z.size) undef
def BW (c:Tr Value) (z:Array Value):Nat→Nat→List Value
 | 0,_=>[]
 | m+1,k=>cellAt c z k::BW c z m (k+1)
def VZ:List UInt8→List UInt8→Bool
 | [],[]=>true
 | a::x,b::y=>Nat.beq a.toNat b.toNat && VZ x y
 | _,_=>false
def SP:List UInt8→List UInt8→Bool
 | _,[]=>false
 | [],_::_=>true
 | a::x,b::y=>Nat.blt a.toNat b.toNat || (Nat.beq a.toNat b.toNat && SP x y)
def sb (s:ByteArray):List UInt8:=s.data.toList
def uF (op:BinOp) (a b:ByteArray):Option Value :=
 match op with
 | .add=>cond (Nat.ble (a.size+b.size) 9223372036854775807) (some (.string ⟨(sb a++sb b).toArray⟩)) none
 | .eql=>some (.bool (VZ (sb a) (sb b)))
 | .neq=>some (.bool (!VZ (sb a) (sb b)))
 | .lss=>some (.bool (SP (sb a) (sb b)))
 | .leq=>some (.bool (SP (sb a) (sb b) || VZ (sb a) (sb b)))
 | .gtr=>some (.bool (!(SP (sb a) (sb b) || VZ (sb a) (sb b))))
 | .geq=>some (.bool (!SP (sb a) (sb b)))
 | _=>none
def C0 (l:List UInt8):List Value:=l.map fun b=>.int .u8 b.toNat
def Gn:List Value→Option (List UInt8)
 | []=>some []
 | .int .u8 n::l=>match Gn l with
  | some m=>some (UInt8.ofNat n.toNat::m)
  | none=>none
 | _::_=>none
def M' (d:TypeDesc) (k v:Value):Option Bool :=
 match d,k,v with
 | .string,.string a,.string b=>some (VZ (sb a) (sb b))
 | d,k,v=>Instr.sameNow d k v
def Jl (d:TypeDesc) (k:Value):List MapEntry→Nat→Option (Option (Nat × Value))
 | [],_=>some none
 | e::es,i=>match M' d k e.key with
  | some true=>some (some (i,e.val))
  | some false=>Jl d k es (i+1)
  | none=>none
def EJ (f:Nat→Value):Nat→Nat→List Value
 | 0,_=>[]
 | m+1,k=>f k::EJ f m (k+1)
section
variable (P:Program)
def Db (t:TypeId):Option Nat:=(P.info? t).map (·.size)
def Gp (t:TypeId):Option Value:=cond (Nat.blt t P.types.size) ((P.info? t).bind (·.zero)) none
def agg? (t:TypeId):Option Bool:=(P.underlying t).map fun d=>match d with | .struct _ | .array _ _=>true | _=>false
def C7 {α β:Type} (o:Option α) (f:α→Option β):Option β:=match o with | some a=>f a | none=>none
def Jm (t:TypeId) (a:Addr) (W:CW):Option Value :=
 match W.obj a.block with
 | some (.cells c n z _) =>
  match agg? P t with
  | some true=>match Db P t with
   | some m=>cond (Nat.ble (a.off+m) n) (some (.agg (BW c z m a.off).toArray)) none
   | none=>none
  | some false=>cond (Nat.blt a.off n) (some (cellAt c z a.off)) none
  | none=>none
 | some (.fixed f n _) =>
  match agg? P t with
  | some true=>match Db P t with
   | some m=>cond (Nat.ble (a.off+m) n) (some (.agg (EJ f m a.off).toArray)) none
   | none=>none
  | some false=>cond (Nat.blt a.off n) (some (f a.off)) none
  | none=>none
 | _=>none
def BO:Value→Bool
 | .agg _ | .tuple _=>false
 | _=>true
def JJ (t:TypeId) (a:Addr) (v:Value) (W:CW):Option CW :=
 match W.obj a.block with
 | some (.cells c n z e) =>
  match v with
  | .agg cs=>match Db P t with
   | some m=>cond (Nat.beq cs.size m && Nat.ble (a.off+m) n && cs.toList.all BO) (some (W.Az a.block (.cells (c.Ah a.off cs.toList) n z e))) none
   | none=>none
  | .tuple _=>none
  | v=>match Db P t with
   | some m=>cond (Nat.beq m 1 && Nat.blt a.off n) (some (W.Az a.block (.cells (c.set a.off v) n z e))) none
   | none=>none
 | _=>none
def SQ (t:TypeId) (v:Value) (W:CW):Value × CW :=
 (.pointer (some ⟨W.sz,0,none⟩),W.new (.cells (Tr.nil.Ah 0 v.cells.toList) v.cells.size #[] t))
def Mu (op:BinOp) (k:IntKind) (a b:Int):Option Value :=
 match op with
 | .add=>some (.int k (k.wrap (a+b)))
 | .sub=>some (.int k (k.wrap (a-b)))
 | .mul=>some (.int k (k.wrap (a*b)))
 | .quo=>cond (b == 0) none (some (.int k (k.wrap (a.tdiv b))))
 | .rem=>cond (b == 0) none (some (.int k (a.tmod b)))
 | .eql=>some (.bool (a == b))
 | .neq=>some (.bool (a != b))
 | .lss=>some (.bool (a<b))
 | .leq=>some (.bool (a≤b))
 | .gtr=>some (.bool (a>b))
 | .geq=>some (.bool (a≥b))
 | .and=>some (.int k (k.wrap ((BitVec.ofInt k.bits a &&& BitVec.ofInt k.bits b).toNat)))
 | .or=>some (.int k (k.wrap ((BitVec.ofInt k.bits a ||| BitVec.ofInt k.bits b).toNat)))
 | .xor=>some (.int k (k.wrap ((BitVec.ofInt k.bits a ^^^ BitVec.ofInt k.bits b).toNat)))
 | .andNot=>some (.int k (k.wrap ((BitVec.ofInt k.bits a &&& ~~~(BitVec.ofInt k.bits b)).toNat)))
 | _=>none
def p9 (d:TypeDesc) (x y:Value):Option Bool :=
 match d,x,y with
 | .bool,.bool a,.bool b=>some (a == b)
 | .pointer _,.pointer none,.pointer b=>some b.isNone
 | .pointer _,.pointer (some _),.pointer none=>some false
 | .interface _,.nilIface,.iface _ _=>some false
 | .interface _,.iface _ _,.nilIface=>some false
 | .slice _,.slice none _ _,.slice b _ _=>some b.isNone
 | .slice _,.slice (some _) _ _,.slice none _ _=>some false
 | .map _ _,.map none,.map b=>some b.isNone
 | .map _ _,.map (some _),.map none=>some false
 | .func _ _ _,.nilFunc,.nilFunc=>some true
 | .func _ _ _,.nilFunc,.func _ _ _=>some false
 | .func _ _ _,.func _ _ _,.nilFunc=>some false
 | _,_,_=>none
def RD (t:TypeId) (cs:Array Value) (off:Nat):Option Value :=
 match agg? P t,Db P t with
 | some true,some m=>some (.agg (cs.extract off (off+m)))
 | some false,_=>cs[off]?
 | _,_=>none
def ZO (eq:TypeId→Value→Value→Option Bool) (xs ys:Array Value):List Field→Option Bool
 | []=>some true
 | f::fs=>cond (f.name == "_") (ZO eq xs ys fs) (match RD P f.type xs f.offset,RD P f.type ys f.offset with
  | some u,some v=>match eq f.type u v with
   | some true=>ZO eq xs ys fs
   | some false=>some false
   | none=>none
  | _,_=>none)
def gB (eq:Value→Value→Option Bool) (elem:TypeId) (n:Nat) (xs ys:Array Value):Nat→Nat→Option Bool
 | 0,_=>some true
 | m+1,i=>match RD P elem xs (i*n),RD P elem ys (i*n) with
  | some u,some v=>match eq u v with
   | some true=>gB eq elem n xs ys m (i+1)
   | some false=>some false
   | none=>none
  | _,_=>none
def ZQ:Nat→TypeId→Value→Value→Option Bool
 | 0,_,_,_=>none
 | n+1,t,x,y=>match P.underlying t with
  | none=>none
  | some d=>match d,x,y with
   | .struct fs,.agg xs,.agg ys=>cond (P.stoodInHeld t) none (ZO P (ZQ n) xs ys fs.toList)
   | .array len elem,.agg xs,.agg ys=>match Db P elem with
    | some s=>gB P (ZQ n elem) elem s xs ys len 0
    | none=>none
   | .int _,.int k a,.int k' b=>cond (decide (k=k')) (some (a == b)) none
   | .string,.string a,.string b=>some (VZ (sb a) (sb b))
   | d,x,y=>p9 d x y
def isConst:Operand→Bool
 | .const _=>true
 | _=>false
def AH (op:BinOp) (t:TypeId) (k:Bool) (x y:Value):Option Value :=
 match op,x,y with
 | .shl,.int k a,.int _ b=>cond (decide (b<0)) none (some (.int k (k.wrap (a*2 ^ (min b.toNat k.bits)))))
 | .shr,.int k a,.int _ b=>cond (decide (b<0)) none (some (.int k (a.fdiv (2 ^ (min b.toNat k.bits)))))
 | op,.int k a,.int k' b=>cond (decide (k=k')) (Mu op k a b) none
 | op,.string a,.string b=>uF op a b
 | .eql,.agg xs,.agg ys=>cond (P.eqGuardType P.depth t) none ((ZQ P 20 t (.agg xs) (.agg ys)).map .bool)
 | .neq,.agg xs,.agg ys=>cond (P.eqGuardType P.depth t) none ((ZQ P 20 t (.agg xs) (.agg ys)).map fun b=>.bool (!b))
 | .eql,.nilIface,.nilIface=>match P.underlying t with | some (.interface _)=>cond k (some (.bool true)) none | _=>none
 | .neq,.nilIface,.nilIface=>match P.underlying t with | some (.interface _)=>cond k (some (.bool false)) none | _=>none
 | .eql,x,y=>match P.underlying t with | some d=>(p9 d x y).map .bool | none=>none
 | .neq,x,y=>match P.underlying t with | some d=>(p9 d x y).map fun b=>.bool (!b) | none=>none
 | _,_,_=>none
def bound (x:Option Value) (AC5 y:Nat):Option Nat :=
 match x with
 | some (.int _ i)=>cond (decide (0≤i) && decide (i≤y)) (some i.toNat) none
 | some _=>none
 | none=>some AC5
def TV (W:CW) (a:Option Addr) (elem:TypeId):Bool :=
 match a with
 | none=>true
 | some a=>a.spot.isSome || match W.obj a.block with
  | some (.cells _ _ _ e)=>Nat.beq e elem
  | some (.fixed _ _ e)=>Nat.beq e elem
  | _=>false
def TW (W:CW) (t:TypeId) (x:Value) (lo hi mx:Option Value):Option Value :=
 match P.underlying t,x with
 | some (.slice elem),.slice a len cap=>C7 (bound mx cap cap) fun m=>C7 (bound hi len m) fun h=>C7 (bound lo 0 h) fun l =>
   cond (mx.isSome && hi.isNone || !Nat.ble h m || !(mx.isSome || TV W a elem)) none (C7 (Db P elem) fun s =>
   some (.slice (cond (Nat.beq m l) a (a.map fun a=>⟨a.block,a.off+l*s,none⟩)) (h-l) (m-l)))
 | some (.array n elem),.pointer (some a)=>C7 (bound mx n n) fun m=>C7 (bound hi n m) fun h=>C7 (bound lo 0 h) fun l =>
   cond (mx.isSome && hi.isNone || !Nat.ble h m) none (C7 (Db P elem) fun s =>
   some (.slice (some (cond (Nat.beq m l) a ⟨a.block,a.off+l*s,none⟩)) (h-l) (m-l)))
 | _,_=>none
def IE:TypeDesc→Bool
 | .int _ | .string | .bool=>true
 | _=>false
def Iu (v k:Value):Nat→List MapEntry→List MapEntry
 | _,[]=>[]
 | 0,e::es=>{ e with key:=k,val:=v }::es
 | i+1,e::es=>e::Iu v k i es
def KE:Nat→List MapEntry→List MapEntry
 | _,[]=>[]
 | 0,_::es=>es
 | i+1,e::es=>e::KE i es
def NY:Value→Value→Bool
 | .int j a,.int k b=>decide (j=k) && decide (a=b)
 | .string a,.string b=>VZ (sb a) (sb b)
 | .bool a,.bool b=>a == b
 | _,_=>false
def N9:List Value→List Value→Bool
 | [],[]=>true
 | x::xs,y::ys=>NY x y && N9 xs ys
 | _,_=>false
def XS:Value→Value→Bool
 | .agg xs,.agg ys=>N9 xs.toList ys.toList
 | _,_=>false
def gC (t:TypeId) (k:Value):Bool :=
 match P.underlying t,k with
 | some (.struct fs),.agg cs=>!(P.stoodInHeld t) && fs.toList.all fun f=>!(f.name == "_") && (match P.underlying f.type with | some d=>IE d | none=>false) && (RD P f.type cs f.offset).isSome
 | _,_=>false
def ZR (t:TypeId) (k:Value):List MapEntry→Nat→Option (Option (Nat × Value))
 | [],_=>some none
 | e::es,i=>match ZQ P 20 t k e.key with
  | some true=>cond (XS k e.key) (some (some (i,e.val))) none
  | some false=>ZR t k es (i+1)
  | none=>none
def M_ (t:TypeId) (k:Value) (es:List MapEntry):Option (Option (Nat × Value)) :=
 match P.underlying t with
 | some d=>cond (IE d) (Jl d k es 0) (cond (gC P t k) (ZR P t k es 0) none)
 | none=>none
def Eh (b:Option Addr) (m:Nat) (W:CW):Option (List Value) :=
 match b with
 | none=>some []
 | some b=>cond (Nat.beq m 0) (some []) <| match W.obj b.block with
  | some (.cells c k z _)=>cond (Nat.ble (b.off+m) k) (some (BW c z m b.off)) none
  | some (.fixed f k _)=>cond (Nat.ble (b.off+m) k) (some (EJ f m b.off)) none
  | _=>none
def ca (x:Value):Option Nat :=
 match x with
 | .slice _ n _=>some n
 | .string s=>some s.size
 | _=>none
def G_ (x:Value) (n size:Nat) (W:CW):Option (List Value) :=
 match x with
 | .slice xb _ _=>Eh xb (n*size) W
 | .string s=>cond (Nat.beq size 1) (some (C0 ((sb s).take n))) none
 | _=>none
def GI (t:TypeId) (s x:Value) (W:CW):Option (Value × CW) :=
 match P.underlying t,s,ca x with
 | some (.slice elem),.slice base sLen sCap,some n =>
  C7 (Db P elem) fun size=>C7 (Gp P elem) fun z=>C7 (G_ x n size W) fun news =>
  cond (news.all BO && Nat.beq news.length (n*size) && Nat.blt 0 size && Nat.beq z.cells.size size && Nat.ble (sLen+n) 1000000 && Nat.ble ((P.info? elem).map (·.bytes) |>.getD 2000) 1024)
   (cond (Nat.ble (sLen+n) sCap)
    (cond (Nat.beq n 0) (some (.slice base (sLen+n) sCap,W)) (match base with
     | none=>some (.slice none (sLen+n) sCap,W)
     | some a=>match W.obj a.block with
      | some (.cells c m z e)=>cond (Nat.ble (a.off+sLen*size+n*size) m)
        (some (.slice (some a) (sLen+n) sCap,W.Az a.block (.cells (c.Ah (a.off+sLen*size) news) m z e))) none
      | _=>none))
    (match base with
     | none=>cond (Nat.beq sLen 0) (some (.slice (some ⟨W.sz,0,none⟩) (sLen+n) (sLen+n),W.new (.cells (Tr.nil.Ah 0 news) ((sLen+n)*size) #[] elem))) none
     | some a=>cond a.spot.isSome (cond (Nat.beq sLen 0 && Nat.beq sCap 0) (some (.slice (some ⟨W.sz,0,none⟩) (sLen+n) (sLen+n),W.new (.cells (Tr.nil.Ah 0 news) ((sLen+n)*size) #[] elem))) none) (match W.obj a.block with
      | some (.cells c m z e)=>cond (Nat.ble (a.off+sLen*size) m && Nat.beq e elem)
        (some (.slice (some ⟨W.sz,0,none⟩) (sLen+n) (sLen+n),(W.Az a.block .dead).new (.cells (Tr.nil.Ah 0 (BW c z (sLen*size) a.off++news)) ((sLen+n)*size) #[] elem))) none
      | _=>none)))
   none
 | _,_,_=>none
def ZS (t:TypeId) (d s:Value) (W:CW):Option (Value × CW) :=
 match P.underlying t,d,ca s with
 | some (.slice elem),.slice base ZT _,some sLen =>
  C7 (Db P elem) fun size=>C7 (G_ s (Nat.min sLen ZT) size W) fun news =>
  cond (Nat.beq (Nat.min sLen ZT) 0) (some (.int .i64 (Nat.min sLen ZT),W)) (match base with
  | none=>none
  | some a=>match W.obj a.block with
   | some (.cells c m z e)=>cond (news.all BO && Nat.ble (a.off+news.length) m) (some (.int .i64 (Nat.min sLen ZT),W.Az a.block (.cells (c.Ah a.off news) m z e))) none
   | _=>none)
 | _,_,_=>none
def TX (t:TypeId) (x:Value) (W:CW):Option CW :=
 match P.underlying t,x with
 | some (.map _ _),.map (some r)=>match W.obj r with
  | some (.map _ EE)=>some (W.Az r (.map [] EE))
  | _=>none
 | some (.map _ _),.map none=>some W
 | some (.slice elem),.slice (some a) n _=>C7 (Db P elem) fun size=>C7 (Gp P elem) fun z0 =>
  cond (Nat.beq n 0) (some W) (match W.obj a.block with
  | some (.cells c m z e)=>cond (Nat.ble (a.off+n*z0.cells.size) m && z0.cells.toList.all BO)
    (some (W.Az a.block (.cells (c.Ah a.off (BW .nil z0.cells (n*z0.cells.size) 0)) m z e))) none
  | _=>none)
 | some (.slice _),.slice none _ _=>some W
 | _,_=>none
def A8 (t:TypeId) (x:Value) (W:CW):Option Value :=
 match P.underlying t,x with
 | some .string,.string s=>some (.int .i64 s.size)
 | some (.slice _),.slice _ n _=>some (.int .i64 n)
 | some (.map _ _),.map none=>some (.int .i64 0)
 | some (.map _ _),.map (some r)=>match W.obj r with
  | some (.map es _)=>some (.int .i64 es.length)
  | _=>none
 | _,_=>none
def N' (t:TypeId) (m k:Value) (W:CW):Option CW :=
 match P.underlying t,m with
 | some (.map kt _),.map (some r)=>match W.obj r with
  | some (.map es EE)=>C7 (M_ P kt k es) fun f=>match f with
   | some (i,_)=>some (W.Az r (.map (KE i es) EE))
   | none=>some (W.Az r (.map es EE))
  | _=>none
 | _,_=>none
def HA (t:TypeId):Bool :=
 match P.underlying t with
 | some (.int _)=>false
 | some _=>true
 | none=>false
def uG (t:TypeId) (x:Value) (W:CW):Option Value :=
 match P.underlying t,x with
 | some (.slice _),.slice none _ c=>some (.int .i64 c)
 | some (.slice _),.slice (some a) _ c=>match W.obj a.block with
  | some (.cells _ _ z _)=>cond (Nat.beq z.size 0 || Nat.beq c 0) none (some (.int .i64 c))
  | _=>none
 | _,_=>none
def IL (b:Builtin) (ts:List TypeId) (args:List Value) (W:CW):Option (BX × CW) :=
 match b,ts,args with
 | .len,t::_,[x]=>(A8 P t x W).map fun v=>(.value v,W)
 | .cap,t::_,[x]=>(uG P t x W).map fun v=>(.value v,W)
 | .append,t::u::_,[s,x]=>cond (HA P u) ((GI P t s x W).map fun (v,W)=>(.value v,W)) none
 | .copy,t::_,[d,s]=>(ZS P t d s W).map fun (v,W)=>(.value v,W)
 | .clear,t::_,[x]=>(TX P t x W).map fun W=>(.value (.tuple #[]),W)
 | .delete,t::_,[m,k]=>(N' P t m k W).map fun W=>(.value (.tuple #[]),W)
 | .max,_,[.int k a,.int _ b]=>some (.value (.int k (cond (decide (b>a)) b a)),W)
 | .min,_,[.int k a,.int _ b]=>some (.value (.int k (cond (decide (b<a)) b a)),W)
 | .recover,_,[]=>some (.recover,W)
 | _,_,_=>none
def p_ (elem:TypeId) (s:ByteArray) (W:CW):Option (Value × CW) :=
 match P.underlying elem,Db P elem with
 | some (.int .u8),some 1=>some (.slice (some ⟨W.sz,0,none⟩) s.size s.size,W.new (.cells (Tr.nil.Ah 0 (C0 (sb s))) s.size #[] elem))
 | _,_=>none
def iU (elem:TypeId) (x:Value) (W:CW):Option Value :=
 match P.underlying elem,x with
 | some (.int .u8),.slice b n _=>C7 (Eh b n W) fun l=>C7 (Gn l) fun m=>some (.string ⟨m.toArray⟩)
 | _,_=>none
def Ht (d:Value) (args:List Value):Option BX :=
 match d with
 | .func (.func f) first cap=>some (.enter f (first.toList++args++cap.toList))
 | .func (.yield l) first _=>some (.round l (first.toList++args))
 | _=>none
def Iv (f:FuncId) (args:List Value) (W:CW):Option (Value × CW) :=
 match P.funcs[f]? with
 | some fn=>cond fn.body.isNone (cond (fn.name == "maps.clone") (match args with
  | [.iface t (.map (some r))]=>match W.obj r with
   | some (.map es EE)=>some (.iface t (.map (some W.sz)),W.new (.map es EE))
   | _=>none
  | _=>none) none) none
 | none=>none
def RE (es:List MapEntry) (since:Nat) (seen:List Nat):List (Option MapEntry) :=
 let left:=es.filter fun e=>!seen.contains e.born
 let old:=left.filter fun e=>e.born<since
 let new:=left.filter fun e=>!(e.born<since)
 (cond old.isEmpty [none] [])++(old++new).map some
def BS (o:Oper) (e:Operand→Value) (W:CW):Option (List (BX × CW)) :=
 let v (x:Option Value):Option (List (BX × CW)):=match x with | some v=>some [(.value v,W)] | none=>none
 let vw (x:Option (Value × CW)):Option (List (BX × CW)):=match x with | some (v,W)=>some [(.value v,W)] | none=>none
 let sw (x:Option CW):Option (List (BX × CW)):=match x with | some W=>some [(.skip,W)] | none=>none
 match o.op with
 | .move x | .assign x=>some [(.value (e x),W)]
 | .pick c a b=>match e c with | .bool b0=>some [(.value (cond b0 (e a) (e b)),W)] | _=>none
 | .alloc t=>match Gp P t with
  | some z=>match Db P t with
   | some _=>some [(.value (.pointer (some ⟨W.sz,0,none⟩)),W.new (.cells .nil z.cells.size z.cells t))]
   | none=>none
  | none=>none
 | .box t x=>match Db P t with
  | some _=>some [(.value (SQ t (e x) W).1,(SQ t (e x) W).2)]
  | none=>none
 | .build t parts=>v (match Gp P t,P.underlying t with
  | some z,some (.struct fields)=>match fields.toList.mapM fun f=>(Db P f.type).map fun s=>(f.offset,s) with
   | some NZ=>(Instr.fill (NZ[·]?) z.cells (parts.toList.map fun (i,x)=>(i,e x))).map .agg
   | none=>none
  | some z,some (.array _ elem)=>match Db P elem with
   | some s=>(Instr.fill (fun i=>some (i*s,s)) z.cells (parts.toList.map fun (i,x)=>(i,e x))).map .agg
   | none=>none
  | _,_=>none)
 | .buildSlice t len parts=>vw (match P.underlying t with
  | some (.slice elem)=>C7 (Db P elem) fun s=>C7 (Gp P elem) fun z =>
   cond (Nat.ble (len*s) 65536 && Nat.beq z.cells.size s) (match Instr.fill (fun i=>some (i*s,s)) ((BW .nil z.cells (len*s) 0).toArray) (parts.toList.map fun (i,x)=>(i,e x)) with
    | some cs=>some (.slice (some ⟨W.sz,0,none⟩) len len,W.new (.cells (Tr.nil.Ah 0 cs.toList) cs.size #[] elem))
    | none=>none) none
  | _=>none)
 | .load t a=>v (match e a with | .pointer (some a)=>Jm P t a W | _=>none)
 | .store t a x=>sw (match e a with | .pointer (some a)=>JJ P t a (e x) W | _=>none)
 | .nilCheck x=>v (match e x with
  | .pointer (some a)=>some (.pointer (some a))
  | .iface t v=>some (.iface t v)
  | .func (.func f) a b=>some (.func (.func f) a b)
  | .func (.yield f) a b=>some (.func (.yield f) a b)
  | _=>none)
 | .binOp op t x y _=>v (AH P op t (isConst x || isConst y) (e x) (e y))
 | .unOp .not _ x=>v (match e x with | .bool b=>some (.bool (!b)) | _=>none)
 | .unOp .neg _ x=>v (match e x with | .int k n=>some (.int k (k.wrap (0-n))) | _=>none)
 | .convert src dst x=>match P.underlying src,P.underlying dst,e x with
  | some _,some (.int k),.int _ n=>some [(.value (.int k (k.wrap n)),W)]
  | some _,some .string,.string s=>some [(.value (.string s),W)]
  | some .string,some (.slice el),.string s=>vw (p_ P el s W)
  | some (.slice el),some .string,x=>v (iU P el x W)
  | _,_,_=>none
 | .makeInterface t x=>v (match P.underlying t with | some (.interface _) | none=>none | _=>some (.iface t (e x)))
 | .makeFunc fn first cap=>v (some (.func fn (first.map e) (cap.map e)))
 | .makeMap _ none=>some [(.value (.map (some W.sz)),W.new (.map [] 0))]
 | .makeSlice t l c=>vw (match P.underlying t,e l,e c with
  | some (.slice elem),.int _ l,.int _ c=>C7 (Db P elem) fun s=>C7 (Gp P elem) fun z =>
   cond (decide (0≤l) && decide (l≤c) && decide (c≤2000000) && Nat.ble ((P.info? elem).map (·.bytes) |>.getD 0) 1024 && Nat.beq z.cells.size s && Nat.blt 0 s)
    (some (.slice (some ⟨W.sz,0,none⟩) l.toNat c.toNat,W.new (.cells .nil (c.toNat*s) z.cells elem))) none
  | _,_,_=>none)
 | .slice t x lo hi mx=>v (match P.underlying t,e x with
  | some .string,.string s=>C7 (bound (hi.map e) s.size s.size) fun h=>C7 (bound (lo.map e) 0 h) fun l=>cond mx.isSome none (some (.string (s.extract l h)))
  | _,x=>TW P W t x (lo.map e) (hi.map e) (mx.map e))
 | .fieldAddr s x f=>v (match P.underlying s,e x with
  | some (.struct fs),.pointer (some a)=>match fs[f]? with
   | some fd=>match Db P fd.type with
    | some m=>cond (Nat.beq m 0) none (some (.pointer (some ⟨a.block,a.off+fd.offset,none⟩)))
    | none=>none
   | none=>none
  | _,_=>none)
 | .field t x f=>v (match P.underlying t,e x with
  | some (.struct fs),.agg cs=>match fs[f]? with
   | some fd=>match agg? P fd.type,Db P fd.type with
    | some true,some m=>some (.agg (cs.extract fd.offset (fd.offset+m)))
    | some false,_=>cs[fd.offset]?
    | _,_=>none
   | none=>none
  | _,_=>none)
 | .indexAddr t x ix=>v (match e ix with
  | .int _ i=>match P.underlying t,e x with
   | some (.array len elem),.pointer (some a)=>C7 (Db P elem) fun s=>cond (decide (0≤i) && decide (i<len)) (some (.pointer (some ⟨a.block,a.off+i.toNat*s,none⟩))) none
   | some (.slice elem),.slice (some a) len _=>C7 (Db P elem) fun s=>cond (decide (0≤i) && decide (i<len)) (some (.pointer (some ⟨a.block,a.off+i.toNat*s,none⟩))) none
   | _,_=>none
  | _=>none)
 | .index t x ix=>v (match e ix with
  | .int _ i=>match P.underlying t,e x with
   | some (.array len elem),.agg cs=>cond (decide (0≤i) && decide (i<len)) (match agg? P elem,Db P elem with
    | some true,some m=>some (.agg (cs.extract (i.toNat*m) (i.toNat*m+m)))
    | some false,some m=>cs[i.toNat*m]?
    | _,_=>none) none
   | some .string,.string s=>cond (decide (0≤i)) ((s[i.toNat]?).map fun b=>.int .u8 b.toNat) none
   | _,_=>none
  | _=>none)
 | .lookup t x k ok=>v (match P.underlying t,e x with
  | some (.map kt elem),m=>C7 (Gp P elem) fun z=>C7 (match m with
    | .map none=>some []
    | .map (some r)=>match W.obj r with | some (.map es _)=>some es | _=>none
    | _=>none) fun es=>C7 (M_ P kt (e k) es) fun r=>match r with
     | some (_,x)=>some (cond ok (.tuple #[x,.bool true]) x)
     | none=>some (cond ok (.tuple #[z,.bool false]) z)
  | _,_=>none)
 | .mapUpdate t m k x | .insert t m k x=>sw (match P.underlying t,e m with
  | some (.map kt _),.map (some r)=>match W.obj r with
   | some (.map es EE)=>C7 (M_ P kt (e k) es) fun f=>match f with
    | some (i,_)=>some (W.Az r (.map (Iu (e x) (e k) i es) EE))
    | none=>some (W.Az r (.map (es++[{ key:=e k,val:=e x,born:=EE }]) (EE+1)))
   | _=>none
  | _,_=>none)
 | .range t x=>vw (match P.underlying t,e x with
  | some (.map _ _),.map none=>some (.pointer (some ⟨W.sz,0,none⟩),W.new (.iter none 0 [] 0))
  | some (.map _ _),.map (some r)=>match W.obj r with
   | some (.map _ EE)=>some (.pointer (some ⟨W.sz,0,none⟩),W.new (.iter (some r) EE [] EE))
   | _=>none
  | _,_=>none)
 | .next it false=>match e it with
  | .pointer (some a)=>cond (!Nat.beq a.off 0) none <| match W.obj a.block with
   | some (.iter none _ _ _)=>some [(.value (.tuple #[.bool false]),W)]
   | some (.iter (some r) since seen last)=>match W.obj r with
    | some (.map es EE) =>
     cond (!seen.isEmpty && !es.isEmpty && es.all fun e=>!(e.born<last)) none
      (some ((RE es since seen).map fun c=>match c with
       | some en=>(.value (.tuple #[.bool true,en.key,en.val]),W.Az a.block (.iter (some r) since (seen++[en.born]) EE))
       | none=>(.value (.tuple #[.bool false]),W)))
    | _=>none
   | _=>none
  | _=>none
 | .entry it=>v (match e it with
  | .pointer (some a)=>cond (!Nat.beq a.off 0) none <| match W.obj a.block with
   | some (.iter (some r) _ seen SR)=>match seen.getLast?,W.obj r with
    | some st,some (.map es EE)=>cond (Nat.beq EE SR) ((es.find? fun e=>Nat.beq e.born st).map fun e=>.tuple #[e.key,e.val]) none
    | _,_=>none
   | _=>none
  | _=>none)
 | .typeAssert x _ t ok=>v (match P.underlying t,e x with
  | some (.interface _),_=>none
  | some _,.iface u y=>cond (Nat.beq t u) (some (cond ok (.tuple #[y,.bool true]) y)) (cond ok ((Gp P t).map fun z=>.tuple #[z,.bool false]) none)
  | _,_=>none)
 | .extract x i=>v (match e x with | .tuple vs=>vs[i]? | _=>none)
 | .call c=>match c.callee with
  | .value f=>match Ht (e f) (c.args.toList.map e) with
   | some (.enter g as)=>match Iv P g as W with
    | some (v,W1)=>some [(.value v,W1)]
    | none=>some [(.enter g as,W)]
   | some n=>some [(n,W)]
   | none=>none
  | .builtin b=>match IL P b c.argTypes.toList (c.args.toList.map e) W with | some r=>some [r] | none=>none
  | _=>none
 | .defer c=>match c.callee with
  | .value f=>match e f with
   | .func (.func g) first cap=>some [(.defer { target:=.fn (.func g) cap,args:=first++c.args.map e },W)]
   | _=>none
  | _=>none
 | .panic x=>match e x with | .iface t y=>some [(.panic (.iface t y),W)] | _=>none
 | _=>none
end
end Go.Ce
namespace Go.Ce
abbrev KF:=Option (List (Exit × AP × CW))
abbrev Ends:=Option (List (Ending × CW))
abbrev AAE:=Option (List (Ending × FrameMode × CW))
structure CL where
 code:Option Nat→FuncId→Code→AP→CW→KF
 call:FuncId→List Value→CW→Ends
 round:Nat→List Value→CW→Ends
 Hu:FuncId→List Value→FrameMode→CW→AAE
 eqv:Value→Value→Bool
def CL.base (eqv:Value→Value→Bool):CL:=⟨fun _ _ _ _ _=>Option.none,fun _ _ _=>Option.none,fun _ _ _=>Option.none,fun _ _ _ _=>Option.none,eqv⟩
def Eo {α β:Type} (f:α→Option (List β)):List α→Option (List β)
 | []=>some []
 | x::xs=>match f x with
  | Option.none=>Option.none
  | some l=>match Eo f xs with
   | Option.none=>Option.none
   | some m=>some (l++m)
def CM {α β:Type} (o:Option (List α)) (f:α→Option (List β)):Option (List β) :=
 match o with
 | Option.none=>Option.none
 | some l=>Eo f l
def JK (ops:Array Oper) (a:AP) (j:Nat):Option Bool :=
 match ops[j]? with
 | some o=>match o.dst with
  | some d=>match a.t.get d with
   | some (.bool b)=>some b
   | _=>none
  | none=>none
 | none=>none
def D3 (ops:Array Oper) (o:Oper) (a:AP):Bool :=
 match o.guard with
 | none=>true
 | some (j,want)=>match JK ops a j with
  | some b=>b == want
  | none=>false
section
variable (P:Program)
def Y7 (ops:Array Oper) (i:Nat):List Nat :=
 match ops[i]? with
 | some o=>(o.after.toList.filter (Region.binds .any)).map (·.on)
 | none=>[]
def XT (l:List Nat):List Nat→List Nat
 | []=>l
 | x::xs=>XT (cond (l.any (Nat.beq x)) l (l++[x])) xs
def qA (ops:Array Oper):Nat→List Nat→List Nat
 | 0,l=>l
 | f+1,l=>let m:=XT l (l.flatMap (Y7 ops)); cond (Nat.beq m.length l.length) l (qA ops f m)
def FV (ops:Array Oper) (i:Nat):List Nat:=qA ops ops.size (Y7 ops i)
def uH (ops:Array Oper) (i j:Nat):Bool:=(FV ops i).any (Nat.beq j)
def DM (o:Oper):Bool :=
 match o.op with
 | .move _ | .assign _ | .pick .. | .build .. | .nilCheck _ | .binOp .. | .unOp .. | .makeInterface .. | .makeFunc .. | .field .. | .fieldAddr .. | .indexAddr .. | .index .. | .typeAssert .. | .extract ..=>true
 | .convert s d _=>(match P.underlying s with | some (.slice _)=>false | _=>true) && (match P.underlying d with | some (.slice _)=>false | _=>true)
 | _=>false
def Dw (o:Oper):Bool :=
 match o.op with
 | .load .. | .slice .. | .lookup .. | .entry _=>true
 | .call c=>match c.callee with
  | .builtin .len=>true
  | _=>false
 | .convert s d _=>(match P.underlying s with | some (.slice _)=>true | _=>false) && (match P.underlying d with | some .string=>true | _=>false)
 | _=>false
def XU (ops:Array Oper):Nat→Operand→Bool
 | n+1,.tmp t=>match ops.toList.find? (fun o=>match o.dst with | some d=>Nat.beq d t | none=>false) with
  | some o=>DM P o && o.guard.isNone && o.op.operands.toList.all (XU ops n)
  | none=>true
 | 0,.tmp _=>false
 | _,_=>true
def floatKind (ops:Array Oper) (o:Oper):Bool :=
 match o.op,o.guard with
 | .alloc _,none=>true
 | .makeMap _ none,none=>true
 | .makeSlice _ l c,none=>XU P ops 6 l && XU P ops 6 c
 | _,_=>false
def PX (o:Oper):Bool:=!(DM P o || Dw P o)
def Fw (ops:Array Oper):List Nat :=
 let n:=ops.size
 let ws:=(List.range n).filter fun i=>match ops[i]? with | some o=>PX P o | none=>false
 ws.filter fun i=>match ops[i]? with
  | some o=>floatKind P ops o && ws.any fun j=>!Nat.beq i j && !uH ops i j && !uH ops j i
  | none=>false
def B6 (l:List Nat) (i:Nat):Bool:=l.any (Nat.beq i)
def HX (ops:Array Oper):Bool :=
 let n:=ops.size
 let fl:=Fw P ops
 (List.range n).all fun i=>match ops[i]? with
  | some oi =>
   let an:=FV ops i
   (Y7 ops i).all (fun p=>Nat.blt p i) && (List.range i).all fun j=>B6 an j || (match ops[j]? with
    | some oj=>oj.apart ops oi && !(PX P oi && PX P oj && !B6 fl i && !B6 fl j)
    | none=>true)
  | none=>true
def XV:Nat→Value→Value→Bool
 | 0,_,_=>false
 | n+1,v,w=>match v,w with
  | .bool a,.bool b=>a == b
  | .int j a,.int k b=>decide (j=k) && a == b
  | .pointer none,.pointer none=>true
  | .pointer (some ⟨a,i,none⟩),.pointer (some ⟨b,j,none⟩)=>Nat.beq a b && Nat.beq i j
  | .slice none n c,.slice none m d=>Nat.beq n m && Nat.beq c d
  | .slice (some ⟨a,i,none⟩) n c,.slice (some ⟨b,j,none⟩) m d=>Nat.beq a b && Nat.beq i j && Nat.beq n m && Nat.beq c d
  | .map none,.map none=>true
  | .map (some a),.map (some b)=>Nat.beq a b
  | .nilIface,.nilIface=>true
  | .nilFunc,.nilFunc=>true
  | .string a,.string b=>VZ (sb a) (sb b)
  | .iface t v,.iface u w=>Nat.beq t u && XV n v w
  | .agg x,.agg y=>Nat.beq x.size y.size && (x.toList.zip y.toList).all fun (v,w)=>XV n v w
  | .tuple x,.tuple y=>Nat.beq x.size y.size && (x.toList.zip y.toList).all fun (v,w)=>XV n v w
  | .func (.func f) x x',.func (.func g) y y'=>Nat.beq f g && Nat.beq x.size y.size && Nat.beq x'.size y'.size && (x.toList.zip y.toList).all (fun (v,w)=>XV n v w) && (x'.toList.zip y'.toList).all fun (v,w)=>XV n v w
  | _,_=>false
def CN:Option Au→Option Au→Bool
 | some (.map [] 0),some (.map [] 0)=>true
 | some (.cells .nil n z e),some (.cells .nil m y f)=>Nat.beq n m && Nat.beq e f && Nat.beq z.size y.size && (z.toList.zip y.toList).all fun (v,w)=>XV 6 v w
 | _,_=>false
def uI (xs ys:List Value):Bool:=Nat.beq xs.length ys.length && (xs.zip ys).all fun (v,w)=>XV 8 v w
def uJ:Option Value→Option Value→Bool
 | none,none=>true
 | some v,some w=>XV 8 v w
 | _,_=>false
def uK:Nat→Tr Value→Tr Value→Bool
 | _,.nil,.nil=>true
 | n+1,.node l v r,.node l' v' r'=>uJ v v' && uK n l l' && uK n r r'
 | _,_,_=>false
def meq (a b:MapEntry):Bool:=XV 8 a.key b.key && XV 8 a.val b.val && Nat.beq a.born b.born
def uL:Au→Au→Bool
 | .cells c n z e,.cells c' n' z' e'=>Nat.beq n n' && Nat.beq e e' && uI z.toList z'.toList && uK 30 c c'
 | .map es k,.map CF k'=>Nat.beq k k' && Nat.beq es.length CF.length && (es.zip CF).all fun (a,b)=>meq a b
 | .deferred,.deferred=>true
 | _,_=>false
def sq:Option Au→Option Au→Option Au
 | some o,some o'=>cond (uL o o') (some o) none
 | _,_=>none
def RF:Nat→Tr Au→Tr Au→Tr Au
 | n+1,.node l v r,.node l' v' r'=>.node (RF n l l') (sq v v') (RF n r r')
 | _,_,_=>.nil
def meet (W W':CW):CW:=⟨RF 30 W.h W'.h,max W.sz W'.sz⟩
def IM:List (Ending × CW)→Option (Value × CW)
 | [(.returned v,W)]=>some (v,W)
 | (.returned v,W)::rest=>match IM rest with
  | some (u,W')=>cond (XV 8 v u) (some (v,meet W W')) none
  | none=>none
 | _=>none
def merged (o:Ends):Ends :=
 match o with
 | some (x::y::l)=>match IM (x::y::l) with
  | some (v,W)=>some [(.returned v,W)]
  | none=>some (x::y::l)
 | o=>o
def Ep (R:CL) (ops:Array Oper):List Oper→AP→CW→KF
 | [],a,W=>some [(.normal,a,W)]
 | o::rest,a,W =>
  match D3 ops o a with
  | true=>CM (BS P o a.eval W) fun (n,W)=>match n with
    | .value v=>Ep R ops rest (a.put o.dst v) W
    | .skip=>Ep R ops rest (a.put o.dst undef) W
    | .defer d=>Ep R ops rest ({ a with defers:=d::a.defers }.put o.dst undef) W
    | .enter f args=>CM (R.call f args W) fun (e,W)=>match e with
     | .returned v=>Ep R ops rest (a.put o.dst v) W
     | .panicked ch=>some [(.panic ch,a,W)]
     | .outgrown=>none
    | .round l args=>CM (R.round l args W) fun (e,W)=>match e with
     | .returned v=>Ep R ops rest (a.put o.dst v) W
     | .panicked ch=>some [(.panic ch,a,W)]
     | .outgrown=>none
    | .recover=>none
    | .panic v=>some [(.panic [{ v,recovered:=false }],a,W)]
  | false=>Ep R ops rest (a.put o.dst undef) W
def Eu:Nat→Value→Bool
 | 0,_=>false
 | n+1,v=>match v with
  | .bool _ | .int _ _ | .float _ _ | .complex _ _ _ | .string _ | .pointer none | .slice none _ _ | .map none | .chan none | .nilFunc | .nilIface=>true
  | .agg x=>x.toList.all (Eu n)
  | .tuple x=>x.toList.all (Eu n)
  | .iface _ v=>Eu n v
  | _=>false
def Al:Operand→Bool
 | .tmp _=>true
 | .const v=>Eu 8 v
 | .global _=>false
 | .func _=>true
def TY (o:Oper):Bool :=
 match o.op with
 | .move x | .assign x | .nilCheck x | .unOp _ _ x | .convert _ _ x | .makeInterface _ x | .field _ x _ | .fieldAddr _ x _ | .range _ x | .next x false | .entry x | .typeAssert x _ _ _ | .extract x _ | .panic x | .box _ x=>Al x
 | .load _ x=>Al x || (match x with | .global _=>true | _=>false)
 | .pick c a b=>Al c && Al a && Al b
 | .alloc _ | .makeMap _ none=>true
 | .build _ ps | .buildSlice _ _ ps=>ps.toList.all fun p=>Al p.2
 | .store _ a x=>Al a && Al x
 | .binOp _ _ x y _ | .makeSlice _ x y | .indexAddr _ x y | .index _ x y | .lookup _ x y _=>Al x && Al y
 | .makeFunc (.func _) f c=>f.toList.all Al && c.toList.all Al
 | .slice _ x l h m=>Al x && l.all Al && h.all Al && m.all Al
 | .mapUpdate _ m k x | .insert _ m k x=>Al m && Al k && Al x
 | .call c=>c.args.toList.all Al && (match c.callee with | .value f=>Al f | .builtin _=>true | _=>false)
 | .defer c=>c.args.toList.all Al && (match c.callee with | .value f=>Al f | _=>false)
 | _=>false
def ZU (nt:Nat) (o:Oper):Bool:=match o.dst with | some d=>Nat.blt d nt | none=>true
def N_ (o:Oper):Bool:=match o.op with | .defer _=>false | _=>true
def OA (o:Oper):Bool:=match o.guard with
 | none=>true
 | some _=>match o.op with
  | .call c=>match c.callee with
   | .value (.func g)=>(P.funcs[g]?).isSome
   | .value _=>false
   | _=>true
  | _=>true
def Jn (nt:Nat) (pQ:Bool) (ops:List Oper):Bool:=ops.all fun o=>(TY o && OA P o) && ZU nt o && (!pQ || N_ o)
def AAF (nt:Nat) (ps:Array Tmp):Bool:=ps.toList.all fun p=>Nat.blt p nt
def codeOk (nt:Nat) (pQ:Bool):Code→Bool
 | .skip | .label _ | .exit _ | .ret=>true
 | .region _ ops d=>Jn P nt pQ ops.toList && (!d || HX P ops)
 | .seq x y=>codeOk nt pQ x && codeOk nt pQ y
 | .cond c x y=>Al c && (codeOk nt pQ x && codeOk nt pQ y)
 | .block _ b=>codeOk nt pQ b
 | .scope b=>codeOk nt pQ b
 | .loop b=>codeOk nt pQ b
 | .rangeFunc f ps as bd=>Al f && AAF nt ps && codeOk nt true as && codeOk nt true bd
 | _=>false
structure EK where
 a:AP
 W:CW
 ws:List (Nat × CW)
 rd:List (Nat × Oper × AP × Value)
def early (ops:Array Oper) (a:AP) (W:CW):Nat→Operand→Value
 | n+1,.tmp t=>match ops.toList.find? (fun o=>match o.dst with | some d=>Nat.beq d t | none=>false) with
  | some o=>cond (DM P o) ((BS P o (early ops a W n) W).elim undef fun l=>l.head?.elim undef fun p=>match p.1 with | .value v=>v | _=>undef) undef
  | none=>a.eval (.tmp t)
 | _,x=>a.eval x
def TZ (ops:Array Oper) (a:AP) (W:CW) (o:Oper):Operand→Value :=
 match o.op with
 | .makeSlice _ _ _=>early P ops a W 6
 | _=>a.eval
def OB (o:Oper) (a:AP) (v:Value) (ob:Option Au):Bool :=
 match o.op with
 | .makeSlice _ _ _=>match v with
  | .slice (some b) _ _=>(BS P o a.eval ⟨.nil,b.block⟩).any fun l=>l.head?.any fun p=>match p.1 with
   | .value u=>XV 8 u v && CN (p.2.obj b.block) ob
   | _=>false
  | _=>false
 | _=>true
def HB (ops:Array Oper) (a:AP):List Nat→CW→Option (List (Nat × Value × Option Au) × CW)
 | [],W=>some ([],W)
 | i::is,W=>match ops[i]? with
  | some o=>match BS P o (TZ P ops a W o) W with
   | some [(.value v,W1)]=>match HB ops a is W1 with
    | some (l,W2)=>some ((i,v,W1.obj W.sz)::l,W2)
    | none=>none
   | _=>none
  | none=>none
def Dm (ops:Array Oper) (o:Oper) (a:AP):Option Bool :=
 match o.guard with
 | none=>some true
 | some (j,want)=>match JK ops a j with
  | some b=>some (b == want)
  | none=>some false
def BT (R:CL) (ops:Array Oper) (fl:List (Nat × Value × Option Au)) (i:Nat) (o:Oper) (s:EK):Option EK :=
 match fl.find? fun p=>Nat.beq p.1 i with
 | some (_,v,ob)=>cond (OB P o s.a v ob) (some { s with a:=s.a.put o.dst v }) none
 | none=>match Dm ops o s.a with
  | none=>none
  | some false=>some { s with a:=s.a.put o.dst undef }
  | some true =>
   cond (DM P o) (match BS P o s.a.eval s.W with
    | some [(.value v,_)]=>some { s with a:=s.a.put o.dst v }
    | _=>none)
   (cond (Dw P o) (match BS P o s.a.eval s.W with
    | some [(.value v,_)]=>some { s with a:=s.a.put o.dst v,rd:=(i,o,s.a,v)::s.rd }
    | _=>none)
   (match BS P o s.a.eval s.W with
   | some [(.value v,W1)]=>some { s with a:=s.a.put o.dst v,W:=W1,ws:=(i,s.W)::s.ws }
   | some [(.skip,W1)]=>some { s with a:=s.a.put o.dst undef,W:=W1,ws:=(i,s.W)::s.ws }
   | some [(.enter f args,W1)]=>match merged (R.call f args W1) with
    | some [(.returned v,W2)]=>some { s with a:=s.a.put o.dst v,W:=W2,ws:=(i,s.W)::s.ws }
    | _=>none
   | some [(.round l args,W1)]=>match merged (R.round l args W1) with
    | some [(.returned v,W2)]=>some { s with a:=s.a.put o.dst v,W:=W2,ws:=(i,s.W)::s.ws }
    | _=>none
   | _=>none))
def Dn (R:CL) (ops:Array Oper) (fl:List (Nat × Value × Option Au)):Nat→List Oper→EK→Option EK
 | _,[],s=>some s
 | i,o::rest,s=>match BT P R ops fl i o s with
  | some s=>Dn R ops fl (i+1) rest s
  | none=>none
def CX (F:Nat→Oper→EK→Option EK):Nat→List Oper→EK→Option EK
 | _,[],s=>some s
 | i,o::rest,s=>match F i o s with
  | some s=>CX F (i+1) rest s
  | none=>none
def D4 (R:CL) (ops:Array Oper) (fl:List (Nat × Value × Option Au)) (i:Nat) (o:Oper) (s:EK):Option (List PanicEntry × CW) :=
 match fl.find? fun p=>Nat.beq p.1 i with
 | some _=>none
 | none=>match Dm ops o s.a with
  | some true=>cond (DM P o) none (cond (Dw P o) none (match BS P o s.a.eval s.W with
   | some [(.enter f args,W1)]=>match R.call f args W1 with
    | some [(.panicked ch,W2)]=>some (ch,W2)
    | _=>none
   | some [(.round l args,W1)]=>match R.round l args W1 with
    | some [(.panicked ch,W2)]=>some (ch,W2)
    | _=>none
   | _=>none))
  | _=>none
def Dp (R:CL) (ops:Array Oper) (fl:List (Nat × Value × Option Au)):Nat→List Oper→EK→Option (Nat × List PanicEntry × CW)
 | _,[],_=>none
 | i,o::rest,s=>match D4 P R ops fl i o s with
  | some (ch,W)=>some (i,ch,W)
  | none=>match BT P R ops fl i o s with
   | some s=>Dp R ops fl (i+1) rest s
   | none=>none
def LH (ops:Array Oper) (i0 i:Nat):Bool:=Nat.beq i i0 || (Nat.blt i0 i && B6 (FV ops i) i0)
theorem gD {ops:Array Oper} {i0 i:Nat} (h:i<i0):LH ops i0 i=false:=by
 unfold LH
 have h1:Nat.beq i i0=false:=by
  cases hq:Nat.beq i i0 with
  | false=>rfl
  | true=>have:=Nat.eq_of_beq_eq_true hq; omega
 have h2:Nat.blt i0 i=false:=by
  cases hq:Nat.blt i0 i with
  | false=>rfl
  | true=>have:=Nat.le_of_ble_eq_true hq; omega
 rw [h1,h2]; rfl
def Gi (R:CL) (ops:Array Oper) (fl:List (Nat × Value × Option Au)) (i0:Nat) (i:Nat) (o:Oper) (s:EK):Option EK :=
 cond (LH ops i0 i) (some { s with a:=s.a.put o.dst undef }) (BT P R ops fl i o s)
def AP.bad (a:AP):AP:={ a with t:=Tr.nil.set 0 (.complex .f64 0 0) }
def AP.OC (a:AP):Bool:=match a.t.get 0 with
 | some (.complex .f64 _ _)=>true
 | _=>false
def C9 (ops:Array Oper) (i:Nat) (an:List Nat) (ok:CW→Bool):List (Nat × CW)→CW→Bool
 | [],W=>ok W
 | (j,Wj)::before,W =>
  (uH ops j i || ok W) && cond (B6 an j) true (C9 ops i an ok before Wj)
def HY (R:CL) (ops:Array Oper) (a:AP) (W:CW):KF :=
 match HB P ops a (Fw P ops) W with
 | none=>none
 | some (fl,W1)=>match Dn P R ops fl 0 ops.toList ⟨a,W1,[],[]⟩ with
  | none=>match Dp P R ops fl 0 ops.toList ⟨a,W1,[],[]⟩ with
   | none=>none
   | some (i0,ch,W2)=>match CX (Gi P R ops fl i0) 0 ops.toList ⟨a,W1,[],[]⟩ with
    | none=>none
    | some s=>cond (fl.isEmpty && s.ws.all fun x=>B6 (FV ops i0) x.1)
     (cond (s.rd.all fun (i,o,a,v)=>C9 ops i (FV ops i) (fun W=>match BS P o a.eval W with | some [(.value u,_)]=>R.eqv u v | _=>false) s.ws s.W)
      (some [(.panic ch,a.bad,W2)]) none) none
  | some s =>
   cond (s.rd.all fun (i,o,a,v)=>C9 ops i (FV ops i) (fun W=>match BS P o a.eval W with | some [(.value u,_)]=>R.eqv u v | _=>false) s.ws s.W)
    (cond (fl.all fun (i,v,ob)=>C9 ops i (FV ops i) (fun W=>match v with | .pointer (some b)=>CN (W.obj b.block) ob | .map (some b)=>CN (W.obj b) ob | .slice (some b) _ _=>CN (W.obj b.block) ob | _=>false) s.ws s.W)
     (some [(.normal,s.a,s.W)]) none) none
def HC (o:KF) (f:AP→CW→KF):KF :=
 CM o fun (e,a,W)=>match e with
  | .normal=>f a W
  | e=>some [(e,a,W)]
def G3 (a:AP) (W:CW):ResultVar→Option Value
 | .tmp t=>some (match a.t.get t with | some v=>v | none=>undef)
 | .cell s ty=>match a.t.get s with
  | some (.pointer (some p))=>Jm P ty p W
  | _=>none
def Fg (fn:Func) (a:AP) (W:CW):Option Value :=
 match fn.results.toList.mapM (G3 P a W) with
 | some [v]=>some v
 | some vs=>some (.tuple vs.toArray)
 | none=>none
def leaves (R:CL) (fn:Func) (a:AP):List Deferred→FrameMode→CW→Ends
 | [],.returning,W=>match Fg P fn a W with
  | some v=>some [(.returned v,W)]
  | none=>none
 | [],.panicking ch,W=>some [(.panicked ch,W)]
 | [],.run,_=>none
 | d::ds,u,W=>match d.target with
  | .collected r=>match W.obj r with
   | some .deferred=>leaves R fn a ds u (W.Az r .dead)
   | _=>none
  | .fn (.func f) cap=>CM (R.Hu f (d.args.toList++cap.toList) u W) fun (e,u,W)=>match e with
   | .returned _=>leaves R fn a ds (settle u) W
   | _=>none
  | _=>none
def Fo:List Deferred→List PanicEntry→CW→Ends
 | [],ch,W=>some [(.panicked ch,W)]
 | d::ds,ch,W=>match d.target with
  | .collected r=>match W.obj r with
   | some .deferred=>Fo ds ch (W.Az r .dead)
   | _=>none
  | _=>none
def Tj (ro:Option Nat) (W:CW):Option (Nat × List Deferred × CW) :=
 match ro with
 | some l=>match W.obj l with
  | some (.loop _ _ _ _ _ _ _ _ d)=>some (d,[],W)
  | _=>none
 | none=>some (W.sz,[{ target:=.collected W.sz,args:=#[] }],W.new .deferred)
def Bn (R:CL) (ro:Option Nat) (fn:FuncId) (c:Code) (a:AP) (W:CW):KF :=
 match c with
 | .skip=>some [(.normal,a,W)]
 | .label _=>some [(.normal,a,W)]
 | .exit id=>some [(.exit id,a,W)]
 | .ret=>some [(.ret,a,W)]
 | .region _ ops false=>Ep P R ops ops.toList a W
 | .region _ ops true=>HY P R ops a W
 | .seq x y=>HC (R.code ro fn x a W) (R.code ro fn y)
 | .cond c x y=>match a.eval c with
  | .bool b=>R.code ro fn (cond b x y) a W
  | _=>none
 | .block id b=>CM (R.code ro fn b a W) fun (e,a,W)=>match e with
  | .exit RG=>cond (Nat.beq RG id) (some [(.normal,a,W)]) (some [(.exit RG,a,W)])
  | e=>some [(e,a,W)]
 | .scope b=>R.code ro fn b a W
 | .loop b=>HC (R.code ro fn b a W) (R.code ro fn (.loop b))
 | .rangeFunc f ps assign body =>
  match Tj ro W with
  | none=>none
  | some (dl,mark,W1) =>
   match Ht (a.eval f) [.func (.yield W1.sz) #[] #[]] with
   | some (.enter g args)=>CM (R.call g args (W1.new (.loop .ready none fn a.t a.nt ps assign body dl))) fun (e,W3)=>match e with
    | .returned _=>match W3.obj W1.sz with
     | some (.loop st Dq lf lt ln lp la lb ld) =>
      match st with
      | .busy=>none
      | _=>match Dq with
       | none=>some [(.normal,{ a with defers:=mark++a.defers },W3.Az W1.sz (.loop .exhausted Dq lf lt ln lp la lb ld))]
       | some .ret=>some [(.ret,{ a with defers:=mark++a.defers },W3.Az W1.sz (.loop .exhausted Dq lf lt ln lp la lb ld))]
       | some (.exit id)=>some [(.exit id,{ a with defers:=mark++a.defers },W3.Az W1.sz (.loop .exhausted Dq lf lt ln lp la lb ld))]
       | _=>none
     | _=>none
    | .panicked ch=>some [(.panic ch,{ a with defers:=mark++a.defers },W3)]
    | _=>none
   | _=>none
 | _=>none
def Fx (R:CL) (ops:Array Oper):List Oper→AP→FrameMode→CW→Option (List (Exit × AP × FrameMode × CW))
 | [],a,u,W=>some [(.normal,a,u,W)]
 | o::rest,a,u,W =>
  match D3 ops o a with
  | true=>CM (BS P o a.eval W) fun (n,W)=>match n with
    | .value v=>Fx R ops rest (a.put o.dst v) u W
    | .skip=>Fx R ops rest (a.put o.dst undef) u W
    | .recover=>match u with
     | .panicking ({ v,recovered:=false,goexit:=false }::AAG)=>Fx R ops rest (a.put o.dst v) (.panicking ({ v,recovered:=true }::AAG)) W
     | _=>Fx R ops rest (a.put o.dst .nilIface) u W
    | .panic v=>some [(.panic [{ v,recovered:=false }],a,u,W)]
    | _=>none
  | false=>Fx R ops rest (a.put o.dst undef) u W
def cG (R:CL) (fn:FuncId):Code→AP→FrameMode→CW→Option (List (Exit × AP × FrameMode × CW))
 | .region _ ops false,a,u,W=>Fx P R ops ops.toList a u W
 | .seq x y,a,u,W=>CM (cG R fn x a u W) fun (e,a,u,W)=>match e with
  | .normal=>cG R fn y a u W
  | e=>some [(e,a,u,W)]
 | .cond c x y,a,u,W=>match a.eval c with
  | .bool true=>cG R fn x a u W
  | .bool false=>cG R fn y a u W
  | _=>none
 | c,a,u,W=>CM (R.code none fn c a W) fun (e,a,W)=>some [(e,a,u,W)]
def Tk (l:Nat) (j:Option Code) (W:CW):Ends :=
 match W.obj l with
 | some (.loop _ _ f t nt ps assign body ld)=>some [(.returned (.bool j.isNone),W.Az l (.loop (match j with | none=>.ready | some _=>.done) j f t nt ps assign body ld))]
 | _=>none
def Gq (fn:Func) (args:List Value):AP:=⟨Tr.nil.Ah 0 args,fn.ntmps,[]⟩
def CU (L:List FuncId) (R:CL):CL where
 eqv:=R.eqv
 code:=Bn P R
 call f args W:=cond (!B6 L f) none <| (fun r=>cond (B6 L (f+2000000) && args.isEmpty) (some [(.returned (.bool true),W)]) r) <| (fun r=>cond (B6 L (f+1000000)) (merged r) r) <|
  match P.funcs[f]? with
  | some fn=>match fn.body with
   | some c=>cond (Nat.ble args.length fn.ntmps) (CM (R.code none f c (Gq fn args) W) fun (e,a,W) =>
    match e with
    | .normal=>leaves P R fn a a.defers .returning W
    | .ret=>leaves P R fn a a.defers .returning W
    | .panic ch=>cond a.OC (Fo a.defers ch W) (leaves P R fn a a.defers (.panicking ch) W)
    | _=>none) none
   | _=>none
  | _=>none
 Hu f args u W:=cond (!B6 L f) none <|
  match P.funcs[f]? with
  | some fn=>match fn.body with
   | some c=>cond (Nat.ble args.length fn.ntmps) (CM (cG P R f c (Gq fn args) u W) fun (e,a,u,W) =>
    cond a.defers.isEmpty (match e with
    | .normal=>match Fg P fn a W with
     | some v=>some [(.returned v,u,W)]
     | none=>none
    | .ret=>match Fg P fn a W with
     | some v=>some [(.returned v,u,W)]
     | none=>none
    | _=>none) none) none
   | _=>none
  | _=>none
 round l args W :=
  match W.obj l with
  | some (.loop .ready _ f t nt ps assign body _) =>
   cond (Nat.beq args.length ps.size) (CM (R.code (some l) f assign ⟨(ps.toList.zip args).foldl (fun t (p:Tmp × Value)=>t.set p.1 p.2) t,nt,[]⟩ W) fun (e,a,W)=>match e with
    | .normal=>match W.obj l with
     | some (.loop .ready Dq f t nt ps qB AAH ld) =>
      CM (R.code (some l) f body a (W.Az l (.loop .busy Dq f t nt ps qB AAH ld))) fun (e,a,W)=>match e with
       | .normal=>Tk l none W
       | .ret=>Tk l (some .ret) W
       | .exit id=>Tk l (some (.exit id)) W
       | .panic ch=>cond a.defers.isEmpty (some [(.panicked ch,W)]) none
       | _=>none
     | _=>none
    | _=>none) none
  | _=>none
def qC (eqv:Value→Value→Bool) (L:List FuncId):Nat→CL:=fun n=>Nat.rec (CL.base eqv) (fun _ ih=>CU P L ih) n
def cH (L:List FuncId):Nat→CL:=qC P (XV 8) L
def evR (L:List FuncId):Nat→CL
 | 0=>CL.base (XV 8)
 | n+1=>CU P L (evR L n)
def XR (L:List FuncId):Bool:=L.all fun f=>match P.funcs[f]? with
 | some fn=>match fn.body with
  | some c=>codeOk P fn.ntmps false c
  | none=>true
 | none=>true
end
def W0 (g:Nat):CW:=⟨.nil,g⟩
def MK:Ends→Bool
 | some l=>l.all fun (e,_)=>match e with | .returned (.bool true)=>true | _=>false
 | none=>false
@[noinline] def cnt (P:Program) (f:Nat) (L:List Nat:=List.range 300) (g:Nat:=0):String:=match (evR P L 6000).call f [] (W0 g) with
 | some l=>s!"outcomes {l.length}: "++String.join ((l.take 3).map fun (e,W)=>s!"blocks {W.sz} {match e with | .returned (.bool b) => toString b | .panicked _ => "pan" | _ => "?"}; ")
 | none=>"none"
end Go.Ce
namespace Go.Ce
open Go.RowKit (Below)
theorem Tr.get_nil {α:Type} (i:Nat):(Tr.nil:Tr α).get i=none:=rfl
theorem Tr.Fh {α:Type} (l:Tr α) (v:Option α) (r:Tr α) (i:Nat) :
  (Tr.node l v r).get i=if i=0 then v else if i % 2=1 then l.get (i / 2) else r.get (i / 2-1):=by
 simp only [Tr.get,cond_eq_ite,Nat.beq_eq]
theorem Tr.lk {α:Type} (f:Nat):∀ (t:Tr α) (i:Nat) (x:α) (j:Nat),i<f→(Tr.ZN f t i x).get j=if j=i then some x else t.get j:=by
 induction f with
 | zero=>intro t i x j h; omega
 | succ f ih =>
  intro t i x j h; have h1:i≠0→i / 2<f:=by omega
  have h2:i≠0→i / 2-1<f:=by omega
  cases t with
  | nil =>
   simp only [Tr.ZN,cond_eq_ite,Nat.beq_eq]
   by_cases hi:i=0
   ·subst hi; simp only [if_true,Tr.Fh,Tr.get_nil]
    by_cases hj:j=0
    ·simp [hj]
    ·simp [hj]
   ·rw [if_neg hi]
    by_cases hm:i % 2=1
    ·rw [if_pos hm,Tr.Fh,ih _ _ _ _ (h1 hi)]
     by_cases hj:j=0
     ·simp [hj,Tr.get_nil]; omega
     ·rw [if_neg hj]
      by_cases R9:j % 2=1
      ·rw [if_pos R9]
       by_cases e:j=i
       ·simp [e]
       ·rw [if_neg (by omega),if_neg e]; rfl
      ·rw [if_neg R9,if_neg (by omega)]; rfl
    ·rw [if_neg hm,Tr.Fh,ih _ _ _ _ (h2 hi)]
     by_cases hj:j=0
     ·simp [hj,Tr.get_nil]; omega
     ·rw [if_neg hj]
      by_cases R9:j % 2=1
      ·rw [if_pos R9,if_neg (by omega)]; rfl
      ·rw [if_neg R9]
       by_cases e:j=i
       ·simp [e]
       ·rw [if_neg (by omega),if_neg e]; rfl
  | node l v r =>
   simp only [Tr.ZN,cond_eq_ite,Nat.beq_eq]
   by_cases hi:i=0
   ·subst hi; simp only [if_true,Tr.Fh]
    by_cases hj:j=0
    ·simp [hj]
    ·simp [hj]
   ·rw [if_neg hi]
    by_cases hm:i % 2=1
    ·rw [if_pos hm,Tr.Fh,ih _ _ _ _ (h1 hi),Tr.Fh]
     by_cases hj:j=0
     ·simp [hj]; omega
     ·rw [if_neg hj,if_neg hj]
      by_cases R9:j % 2=1
      ·rw [if_pos R9,if_pos R9]
       by_cases e:j=i
       ·simp [e]
       ·rw [if_neg (by omega),if_neg e]
      ·rw [if_neg R9,if_neg R9,if_neg (by omega)]
    ·rw [if_neg hm,Tr.Fh,ih _ _ _ _ (h2 hi),Tr.Fh]
     by_cases hj:j=0
     ·simp [hj]; omega
     ·rw [if_neg hj,if_neg hj]
      by_cases R9:j % 2=1
      ·rw [if_pos R9,if_pos R9,if_neg (by omega)]
      ·rw [if_neg R9,if_neg R9]
       by_cases e:j=i
       ·simp [e]
       ·rw [if_neg (by omega),if_neg e]
theorem Tr.Bf {α:Type} (t:Tr α) (i:Nat) (x:α) (j:Nat):(t.set i x).get j=if j=i then some x else t.get j :=
 Tr.lk _ _ _ _ _ (by omega)
theorem Tr.Iw {α:Type} (xs:List α):∀ (t:Tr α) (k j:Nat),(t.Ah k xs).get j=if k≤j∧j<k+xs.length then xs[j-k]? else t.get j:=by
 induction xs with
 | nil=>intro t k j; simp only [Tr.Ah,List.length_nil,Nat.add_zero]; rw [if_neg (by omega)]
 | cons x xs ih =>
  intro t k j; simp only [Tr.Ah,ih,Tr.Bf,List.length_cons]
  by_cases h:k+1≤j∧j<k+1+xs.length
  ·rw [if_pos h,if_pos (by omega)]; obtain ⟨m,rfl⟩:∃ m,j=k+(m+1):=⟨j-k-1,by omega⟩
   have e1:k+(m+1)-(k+1)=m:=by omega
   have e2:k+(m+1)-k=m+1:=by omega
   rw [e1,e2]; rfl
  ·rw [if_neg h]
   by_cases e:j=k
   ·subst e; simp
   ·rw [if_neg e,if_neg (by omega)]
structure Info where
 b:Nat
 o:Nat
 sz:Nat
 n:Nat
 n':Nat
abbrev Bl:=Nat→Option Info
def Ext (ρ ρ':Bl):Prop:=∀ i x,ρ i=some x→ρ' i=some x
theorem Ext.refl (ρ:Bl):Ext ρ ρ:=fun _ _ h=>h
theorem Ext.trans {ρ ρ' ρ'':Bl} (h:Ext ρ ρ') (k:Ext ρ' ρ''):Ext ρ ρ'':=fun i x e=>k i x (h i x e)
def KG (ρ:Bl) (a a':Addr):Prop:=a.spot=none∧∃ x,ρ a.block=some x∧a'=⟨x.b,a.off+x.o,none⟩
def LW (ρ:Bl) (r r':Nat):Prop:=∃ x,ρ r=some x∧r'=x.b
def PY (ρ:Bl) (a:Addr) (c c':Nat):Prop:=c'=c∨∃ x,ρ a.block=some x∧0<x.sz∧a.off+c*x.sz=x.n∧a.off+x.o+c'*x.sz=x.n'∧c≤c'
inductive OD (ρ:Bl):Fn→Fn→Prop
 | func (f:FuncId):OD ρ (.func f) (.func f)
 | yield {l l':Nat}:LW ρ l l'→OD ρ (.yield l) (.yield l')
 | method (s:String):OD ρ (.method s) (.method s)
 | methodOf (t:TypeId) (s:String):OD ρ (.methodOf t s) (.methodOf t s)
 | via (t:TypeId) (p:Array FieldStep) (f:FuncId) (b:Bool):OD ρ (.via t p f b) (.via t p f b)
inductive AT (ρ:Bl):Value→Value→Prop
 | bool (b:Bool):AT ρ (.bool b) (.bool b)
 | int (k:IntKind) (n:Int):AT ρ (.int k n) (.int k n)
 | float (k:FloatKind) (n:Nat):AT ρ (.float k n) (.float k n)
 | complex (k:FloatKind) (n m:Nat):AT ρ (.complex k n m) (.complex k n m)
 | string (s:ByteArray):AT ρ (.string s) (.string s)
 | uM:AT ρ (.pointer none) (.pointer none)
 | ptr {a a':Addr}:KG ρ a a'→AT ρ (.pointer (some a)) (.pointer (some a'))
 | ZV (n c:Nat):AT ρ (.slice none n c) (.slice none n c)
 | slice {a a':Addr} (n:Nat) {c c':Nat}:KG ρ a a'→PY ρ a c c'→AT ρ (.slice (some a) n c) (.slice (some a') n c')
 | Hz {a a':Addr}:a.spot=some 0→AT ρ (.slice (some a) 0 0) (.slice (some a') 0 0)
 | JL {a a':Addr} {c':Nat} {x:Info}:a.spot=none→ρ a.block=some x→a'.block=x.b→a'.spot=none→(c'=0∨(0<x.sz∧a'.off+c'*x.sz=x.n'))→AT ρ (.slice (some a) 0 0) (.slice (some a') 0 c')
 | uN:AT ρ (.map none) (.map none)
 | map {r r':Nat}:LW ρ r r'→AT ρ (.map (some r)) (.map (some r'))
 | uO:AT ρ (.chan none) (.chan none)
 | func {f f':Fn} {x x' y y':Array Value}:OD ρ f f'→x.size=x'.size→(∀ i,i<x.size→AT ρ (x.getD i undef) (x'.getD i undef)) →
   y.size=y'.size→(∀ i,i<y.size→AT ρ (y.getD i undef) (y'.getD i undef))→AT ρ (.func f x y) (.func f' x' y')
 | nilFunc:AT ρ .nilFunc .nilFunc
 | iface (t:TypeId) {v v':Value}:AT ρ v v'→AT ρ (.iface t v) (.iface t v')
 | nilIface:AT ρ .nilIface .nilIface
 | agg {x x':Array Value}:x.size=x'.size→(∀ i,i<x.size→AT ρ (x.getD i undef) (x'.getD i undef))→AT ρ (.agg x) (.agg x')
 | tuple {x x':Array Value}:x.size=x'.size→(∀ i,i<x.size→AT ρ (x.getD i undef) (x'.getD i undef))→AT ρ (.tuple x) (.tuple x')
theorem KG.mono {ρ ρ':Bl} {a a':Addr} (h:KG ρ a a') (e:Ext ρ ρ'):KG ρ' a a' :=
 ⟨h.1,let ⟨x,hx,h'⟩:=h.2; ⟨x,e _ _ hx,h'⟩⟩
theorem LW.mono {ρ ρ':Bl} {a a':Nat} (h:LW ρ a a') (e:Ext ρ ρ'):LW ρ' a a':=let ⟨x,hx,h'⟩:=h; ⟨x,e _ _ hx,h'⟩
theorem PY.mono {ρ ρ':Bl} {a:Addr} {c c':Nat} (h:PY ρ a c c') (e:Ext ρ ρ'):PY ρ' a c c' :=
 h.imp id fun ⟨x,hx,h'⟩=>⟨x,e _ _ hx,h'⟩
theorem OD.mono {ρ ρ':Bl} {f f':Fn} (h:OD ρ f f') (e:Ext ρ ρ'):OD ρ' f f':=by
 cases h with
 | yield h=>exact .yield (h.mono e)
 | func f=>exact .func f
 | method s=>exact .method s
 | methodOf t s=>exact .methodOf t s
 | via t p f b=>exact .via t p f b
theorem AT.mono {ρ ρ':Bl} {v v':Value} (h:AT ρ v v') (e:Ext ρ ρ'):AT ρ' v v':=by
 induction h with
 | bool b=>exact .bool b
 | int k n=>exact .int k n
 | float k n=>exact .float k n
 | complex k n m=>exact .complex k n m
 | string s=>exact .string s
 | uM=>exact .uM
 | ptr h=>exact .ptr (h.mono e)
 | ZV n c=>exact .ZV n c
 | slice n h h'=>exact .slice n (h.mono e) (h'.mono e)
 | Hz a=>exact .Hz a
 | JL q a b c d=>exact .JL q (e _ _ a) b c d
 | uN=>exact .uN
 | map h=>exact .map (h.mono e)
 | uO=>exact .uO
 | func hf hx _ hy _ cd cg=>exact .func (hf.mono e) hx cd hy cg
 | nilFunc=>exact .nilFunc
 | iface t _ ih=>exact .iface t ih
 | nilIface=>exact .nilIface
 | agg hx _ ih=>exact .agg hx ih
 | tuple hx _ ih=>exact .tuple hx ih
theorem AT.undef (ρ:Bl):AT ρ undef undef:=.tuple rfl fun i h=>by simp at h
theorem AT.OE (ρ:Bl):∀ (n:Nat) (v:Value),Eu n v=true→AT ρ v v:=by
 intro n
 induction n with
 | zero=>intro v h; simp [Eu] at h
 | succ n ih =>
  intro v h
  have all:∀ x:Array Value,x.toList.all (Eu n)=true→∀ i,i<x.size→AT ρ (x.getD i Go.undef) (x.getD i Go.undef):=by
   intro x hx i hi; rw [List.all_eq_true] at hx; have e:x.getD i Go.undef=x[i]:=by simp [Array.getD,hi]
   rw [e]; exact ih _ (hx _ (by simp))
  cases v with
  | bool b=>exact .bool b
  | int k m=>exact .int k m
  | float k m=>exact .float k m
  | complex k m l=>exact .complex k m l
  | string s=>exact .string s
  | pointer a=>cases a with
   | none=>exact .uM
   | some a=>simp [Eu] at h
  | slice a l c=>cases a with
   | none=>exact .ZV l c
   | some a=>simp [Eu] at h
  | map r=>cases r with
   | none=>exact .uN
   | some a=>simp [Eu] at h
  | chan r=>cases r with
   | none=>exact .uO
   | some a=>simp [Eu] at h
  | func f x y=>simp [Eu] at h
  | nilFunc=>exact .nilFunc
  | iface t v=>exact .iface t (ih v (by simpa only [Eu] using h))
  | nilIface=>exact .nilIface
  | agg x=>exact .agg rfl (all x (by simpa only [Eu] using h))
  | tuple x=>exact .tuple rfl (all x (by simpa only [Eu] using h))
theorem AT.one {ρ:Bl} {v v':Value} (h:AT ρ v v'):BO v'=BO v:=by cases h <;> rfl
def Ap (ρ:Bl) (xs ys:List Value):Prop:=xs.length=ys.length∧∀ i,i<xs.length→AT ρ (xs.getD i undef) (ys.getD i undef)
theorem Ap.nil (ρ:Bl):Ap ρ [] []:=⟨rfl,fun i h=>by simp at h⟩
theorem Ap.cons {ρ:Bl} {x y:Value} {xs ys:List Value} (h:AT ρ x y) (k:Ap ρ xs ys):Ap ρ (x::xs) (y::ys) :=
 ⟨by simp [k.1],fun i hi=>by
  cases i with
  | zero=>exact h
  | succ i=>exact k.2 i (by simpa using hi)⟩
theorem Ap.head {ρ:Bl} {x y:Value} {xs ys:List Value} (h:Ap ρ (x::xs) (y::ys)):AT ρ x y:=h.2 0 (by simp)
theorem Ap.tail {ρ:Bl} {x y:Value} {xs ys:List Value} (h:Ap ρ (x::xs) (y::ys)):Ap ρ xs ys :=
 ⟨by simpa using h.1,fun i hi=>h.2 (i+1) (by simpa using hi)⟩
theorem Ap.mono {ρ ρ':Bl} {xs ys:List Value} (h:Ap ρ xs ys) (e:Ext ρ ρ'):Ap ρ' xs ys:=⟨h.1,fun i hi=>(h.2 i hi).mono e⟩
theorem Ap.append {ρ:Bl} {xs ys Mv SS:List Value} (h:Ap ρ xs ys) (k:Ap ρ Mv SS):Ap ρ (xs++Mv) (ys++SS):=by
 induction xs generalizing ys with
 | nil=>cases ys with
  | nil=>exact k
  | cons y ys=>simpa using h.1
 | cons x xs ih=>cases ys with
  | nil=>simpa using h.1
  | cons y ys=>exact .cons h.head (ih h.tail)
theorem Ap.map {ρ:Bl} {α:Type} (xs:List α) (f g:α→Value) (h:∀ x,x ∈ xs→AT ρ (f x) (g x)):Ap ρ (xs.map f) (xs.map g):=by
 induction xs with
 | nil=>exact .nil ρ
 | cons x xs ih=>exact .cons (h x (by simp)) (ih fun y hy=>h y (by simp [hy]))
theorem Ap.get {ρ:Bl} {xs ys:List Value} (h:Ap ρ xs ys) {i:Nat} {x:Value} (hx:xs[i]?=some x):∃ y,ys[i]?=some y∧AT ρ x y:=by
 obtain ⟨hi,e⟩:=List.getElem?_eq_some_iff.1 hx; have Hv:i<ys.length:=h.1 ▸ hi; refine ⟨ys[i],by simp [Hv],?_⟩; have:=h.2 i hi; simp only [List.getD_eq_getElem?_getD,hx,List.getElem?_eq_getElem Hv,Option.getD_some] at this; exact this
theorem Ap.arr {ρ:Bl} {x x':Array Value}:Ap ρ x.toList x'.toList↔(x.size=x'.size∧∀ i,i<x.size→AT ρ (x.getD i undef) (x'.getD i undef)):=by
 unfold Ap; simp only [Array.length_toList,Array.getD_eq_getD_getElem?,List.getD_eq_getElem?_getD,Array.getElem?_toList]
theorem AT.ZW {ρ:Bl} {x x':Array Value} (h:Ap ρ x.toList x'.toList):AT ρ (.agg x) (.agg x'):=.agg (Ap.arr.1 h).1 (Ap.arr.1 h).2
theorem AT.tuple' {ρ:Bl} {x x':Array Value} (h:Ap ρ x.toList x'.toList):AT ρ (.tuple x) (.tuple x'):=.tuple (Ap.arr.1 h).1 (Ap.arr.1 h).2
theorem AT.FH {ρ:Bl} {x:Array Value} {v:Value} (h:AT ρ (.agg x) v):∃ x',v=.agg x'∧Ap ρ x.toList x'.toList:=by
 cases h with | agg e k=>exact ⟨_,rfl,Ap.arr.2 ⟨e,k⟩⟩
theorem AT.iV {ρ:Bl} {x:Array Value} {v:Value} (h:AT ρ (.tuple x) v):∃ x',v=.tuple x'∧Ap ρ x.toList x'.toList:=by
 cases h with | tuple e k=>exact ⟨_,rfl,Ap.arr.2 ⟨e,k⟩⟩
theorem AT.cells {ρ:Bl} {v v':Value} (h:AT ρ v v'):Ap ρ v.cells.toList v'.cells.toList:=by
 cases h <;> first
  | exact .cons (by first | (constructor <;> assumption) | (apply AT.JL <;> assumption) | (apply AT.Hz <;> assumption)) (.nil ρ)
  | (rename_i e k; exact Ap.arr.2 ⟨e,k⟩)
end Go.Ce
namespace Go.Ce
open Go.RowKit (Below)
inductive XW (ρ:Bl):MapEntry→MapEntry→Prop
 | mk {k v k' v':Value} (b:Nat):AT ρ k k'→AT ρ v v'→XW ρ ⟨k,v,b⟩ ⟨k',v',b⟩
def Bp (ρ:Bl):List MapEntry→List MapEntry→Prop
 | [],[]=>True
 | e::es,e'::CF=>XW ρ e e'∧Bp ρ es CF
 | _,_=>False
theorem XW.mono {ρ ρ':Bl} {e e':MapEntry} (h:XW ρ e e') (x:Ext ρ ρ'):XW ρ' e e':=by
 cases h with | mk b hk hv=>exact .mk b (hk.mono x) (hv.mono x)
theorem Bp.mono {ρ ρ':Bl} (x:Ext ρ ρ'):∀ {es CF:List MapEntry},Bp ρ es CF→Bp ρ' es CF
 | [],[],_=>trivial
 | _::_,_::_,h=>⟨h.1.mono x,Bp.mono x h.2⟩
 | [],_::_,h=>h.elim
 | _::_,[],h=>h.elim
def NF (fr:Nat × Nat) (n:Nat):Prop:=∀ k,k<n→(decide (fr.1≤k) && decide (k<fr.2))=false
theorem NF.zero (n:Nat):NF (0,0) n:=fun k _=>by simp
inductive HZ (P:Program) (ρ:Bl) (x:Info):Au→Obj→Prop
 | cells {c:Tr Value} {z:Array Value} {e:TypeId} {c':Array Value} {fr:Nat × Nat}:(P.info? e).map (·.size)=some x.sz→c'.size=x.n'→x.o+x.n≤x.n' →
   (∀ k,k<x.n→AT ρ (cellAt c z k) (c'.getD (k+x.o) undef))→(NF fr c'.size∧(z.size≠0→x.o=0∧x.n=x.n'))→HZ P ρ x (.cells c x.n z e) (.cells c' e fr)
 | fixed {f:Nat→Value} {e e':TypeId} {c':Array Value} {fr:Nat × Nat}:(P.info? e).map (·.size)=some x.sz→c'.size=x.n'→x.o+x.n≤x.n' →
   (∀ k,k<x.n→AT ρ (f k) (c'.getD (k+x.o) undef))→HZ P ρ x (.fixed f x.n e) (.cells c' e' fr)
 | map {es:List MapEntry} {CF:Array MapEntry} {EE:Nat}:x.o=0→Bp ρ es CF.toList→HZ P ρ x (.map es EE) (.map CF EE)
 | OF {s l:Nat} {seen:List Nat} {AAI:Array Nat}:x.o=0→HZ P ρ x (.iter none s seen l) (.mapIter none s AAI l)
 | iter {m m' s l:Nat} {seen:List Nat}:x.o=0→LW ρ m m'→HZ P ρ x (.iter (some m) s seen l) (.mapIter (some m') s seen.toArray l)
 | loop {st:LoopState} {pd:Option Code} {f f':FuncId} {t:Tr Value} {t':Array Value} {ps:Array Tmp} {as bd:Code} {d d':Nat} :
   (∀ i,AT ρ ((t.get i).getD undef) (t'.getD i undef))→LW ρ d d'→(AAF t'.size ps=true∧codeOk P t'.size true as=true∧codeOk P t'.size true bd=true)→(∃ fn,P.funcs[f']?=some fn) →
   HZ P ρ x (.loop st pd f t t'.size ps as bd d) (.loop { state:=st,pending:=pd,fn:=f',tmps:=t',params:=ps,assign:=as,body:=bd,defers:=d' })
 | deferred:HZ P ρ x .deferred (.deferred (some []))
theorem HZ.mono {P:Program} {ρ ρ':Bl} {x:Info} {o:Au} {o':Obj} (h:HZ P ρ x o o') (e:Ext ρ ρ'):HZ P ρ' x o o':=by
 cases h with
 | cells a b c d q=>exact .cells a b c (fun k hk=>(d k hk).mono e) q
 | fixed a b c d=>exact .fixed a b c fun k hk=>(d k hk).mono e
 | map a b=>exact .map a (b.mono e)
 | OF a=>exact .OF a
 | iter a b=>exact .iter a (b.mono e)
 | loop a b c d=>exact .loop (fun i=>(a i).mono e) (b.mono e) c d
 | deferred=>exact .deferred
structure Ac (P:Program) (w0:World) (ρ:Bl) (W:CW) (w:World):Prop where
 SU:∀ i x,ρ i=some x→i<W.sz
 top:∀ i o,W.h.get i=some o→i<W.sz
 live:∀ i o x,W.h.get i=some o→o≠.dead→ρ i=some x→∃ o',w.heap[x.b]?=some o'∧HZ P ρ x o o'∧(o.mut=true→w0.heap.size≤x.b)∧(o.mut=false→x.b<w0.heap.size)
 inj:∀ i j o u x y,W.h.get i=some o→o.mut=true→W.h.get j=some u→u.mut=true→ρ i=some x→ρ j=some y→x.b=y.b→i=j
 below:Below w0.heap.size w0 w
section
variable {P:Program} {w0:World} {ρ:Bl} {W:CW} {w:World}
theorem Ac.drew (h:Ac P w0 ρ W w) (n:Nat):Ac P w0 ρ W { w with drawn:=n } :=
 ⟨h.SU,h.top,h.live,h.inj,⟨h.below.os,h.below.tape,h.below.output,h.below.size,h.below.block⟩⟩
theorem Ac.obj (h:Ac P w0 ρ W w) {i:Nat} {o:Au} (ho:W.obj i=some o) (hd:o≠.dead) {a':Nat} {x:Info} (hx:ρ i=some x) (hb:a'=x.b) :
  ∃ o',w.heap[a']?=some o'∧HZ P ρ x o o':=by
 obtain ⟨o',Hi,hr,_⟩:=h.live i o x ho hd hx; subst hb; exact ⟨o',Hi,hr⟩
def D2 (W:CW) (ρ:Bl) (W1:CW) (ρ':Bl):Prop:=Ext ρ ρ'∧(∀ i,i<W.sz→ρ' i=ρ i)∧W.sz≤W1.sz
theorem D2.refl {W W1:CW} (ρ:Bl) (h:W.sz≤W1.sz:=by exact Nat.le_refl _):D2 W ρ W1 ρ:=⟨Ext.refl ρ,fun _ _=>rfl,h⟩
theorem D2.ext {W W1:CW} {ρ ρ':Bl} (h:D2 W ρ W1 ρ'):Ext ρ ρ':=h.1
theorem D2.trans {W W1 W2:CW} {ρ ρ' ρ'':Bl} (h:D2 W ρ W1 ρ') (k:D2 W1 ρ' W2 ρ''):D2 W ρ W2 ρ'' :=
 ⟨h.1.trans k.1,fun i hi=>by rw [k.2.1 i (Nat.lt_of_lt_of_le hi h.2.2),h.2.1 i hi],Nat.le_trans h.2.2 k.2.2⟩
theorem Au.IN {o:Au} (h:o.mut=true):o≠.dead:=by rintro rfl; cases h
theorem Ac.new (h:Ac P w0 ρ W w) {o:Au} {o':Obj} (x:Info) (hb:x.b=w.heap.size)
  (hr:HZ P (fun i=>if i=W.sz then some x else ρ i) x o o') (hm:o.mut=true:=by rfl) :
  D2 W ρ (W.new o) (fun i=>if i=W.sz then some x else ρ i)∧Ac P w0 (fun i=>if i=W.sz then some x else ρ i) (W.new o) { w with heap:=w.heap.push o' }:=by
 have C':Ext ρ (fun i=>if i=W.sz then some x else ρ i):=fun i y hy=>by
  have:=h.SU i y hy; show (if i=W.sz then some x else ρ i)=some y; rw [if_neg (by omega)]; exact hy
 have hw0:w0.heap.size≤w.heap.size:=h.below.size
 have hold:∀ i u y,W.h.get i=some u→u≠.dead→ρ i=some y→y.b<w.heap.size:=fun i u y hu hd hy=>by
  obtain ⟨o',Hi,_,_⟩:=h.live i u y hu hd hy; exact (Array.getElem?_eq_some_iff.1 Hi).1
 refine ⟨⟨C',fun i hi=>by show (if i=W.sz then some x else ρ i)=ρ i; rw [if_neg (by omega)],Nat.le_succ _⟩,?_,?_,?_,?_,?_⟩
 ·intro i y hy; show i<W.sz+1
  by_cases e:i=W.sz
  ·omega
  ·have:ρ i=some y:=by simpa [e] using hy
   have:=h.SU i y this; omega
 ·intro i u hu; show i<W.sz+1; simp only [CW.new,Tr.Bf] at hu
  split at hu
  ·omega
  ·have:=h.top i u hu; omega
 ·intro i u y hu hd hy; simp only [CW.new,Tr.Bf] at hu
  split at hu
  ·rename_i e
   cases hu
   have hy:some x=some y:=by simpa [e] using hy
   cases hy
   refine ⟨o',?_,hr,fun _=>by omega,fun hf=>by rw [hm] at hf; cases hf⟩; show (w.heap.push o')[x.b]?=_; rw [hb]; simp
  ·rename_i e; have hy:ρ i=some y:=by simpa [e] using hy
   obtain ⟨u',gE,hru,cI⟩:=h.live i u y hu hd hy; refine ⟨u',?_,hru.mono C',cI⟩; have A0:=(Array.getElem?_eq_some_iff.1 gE).1; show (w.heap.push o')[y.b]?=_; rw [Array.getElem?_push,if_neg (by omega)]; exact gE
 ·intro i j u v y z hu k_ hv LP hy hz lq; simp only [CW.new,Tr.Bf] at hu hv
  by_cases ei:i=W.sz
  ·by_cases ej:j=W.sz
   ·omega
   ·simp only [if_neg ej] at hv hz; simp only [if_pos ei,Option.some.injEq] at hy; have A0:=hold j v z hv (Au.IN LP) hz; subst hy; omega
  ·simp only [if_neg ei] at hu hy
   by_cases ej:j=W.sz
   ·simp only [if_pos ej,Option.some.injEq] at hz; have A0:=hold i u y hu (Au.IN k_) hy; subst hz; omega
   ·simp only [if_neg ej] at hv hz; exact h.inj i j u v y z hu k_ hv LP hy hz lq
 ·exact ⟨h.below.os,h.below.tape,h.below.output,by show w0.heap.size≤(w.heap.push o').size; rw [Array.size_push]; omega,fun k hk=>by
   show (w.heap.push o')[k]?=_
   rw [Array.getElem?_push,if_neg (by omega)]; exact h.below.block k hk⟩
theorem Ac.Az (h:Ac P w0 ρ W w) {i:Nat} {o u:Au} {u':Obj} {x:Info} (ho:W.obj i=some o) (hd:o.mut=true) (hx:ρ i=some x)
  (hr:HZ P ρ x u u') (hm:u.mut=true:=by rfl):Ac P w0 ρ (W.Az i u) { w with heap:=w.heap.setIfInBounds x.b u' }:=by
 obtain ⟨o',Hi,_,cI,_⟩:=h.live i o x ho (Au.IN hd) hx; have cI:=cI hd; have A0:=(Array.getElem?_eq_some_iff.1 Hi).1; have hi:=h.top i o ho
 refine ⟨h.SU,?_,?_,?_,?_⟩
 ·intro j v hv; simp only [CW.Az,Tr.Bf] at hv
  split at hv
  ·show j<W.sz; omega
  ·exact h.top j v hv
 ·intro j v y hv LP hy; simp only [CW.Az,Tr.Bf] at hv
  split at hv
  ·rename_i e
   cases hv; subst e
   rw [hx] at hy; cases hy; refine ⟨u',?_,hr,fun _=>cI,fun hf=>by rw [hm] at hf; cases hf⟩; show (w.heap.setIfInBounds x.b u')[x.b]?=_; simp [A0]
  ·rename_i e; obtain ⟨v',G4,pR,lB⟩:=h.live j v y hv LP hy; refine ⟨v',?_,pR,lB⟩
   have EB:x.b≠y.b:=fun hb=>by
    cases cj:v.mut with
    | true=>exact e (h.inj j i v o y x hv cj ho hd hy hx hb.symm)
    | false=>have:=lB.2 cj; omega
   show (w.heap.setIfInBounds x.b u')[y.b]?=_; rw [Array.getElem?_setIfInBounds_ne EB]; exact G4
 ·intro j k v v' y z hv LP G4 ZX hy hz lq
  have get:∀ j v,(W.Az i u).h.get j=some v→v.mut=true→∃ v0,W.h.get j=some v0∧v0.mut=true:=fun j v hv LP=>by
   simp only [CW.Az,Tr.Bf] at hv
   split at hv
   ·rename_i e; subst e; exact ⟨o,ho,hd⟩
   ·exact ⟨v,hv,LP⟩
  obtain ⟨a,ha,had⟩:=get j v hv LP; obtain ⟨b,hb,hbd⟩:=get k v' G4 ZX; exact h.inj j k a b y z ha had hb hbd hy hz lq
 ·exact ⟨h.below.os,h.below.tape,h.below.output,by show w0.heap.size≤(w.heap.setIfInBounds x.b u').size; rw [Array.size_setIfInBounds]; exact h.below.size,fun k hk=>by
   show (w.heap.setIfInBounds x.b u')[k]?=_
   rw [Array.getElem?_setIfInBounds_ne (by omega)]; exact h.below.block k hk⟩
end
end Go.Ce
namespace Go.Ce
open Go.RowKit (Below)
section
variable {P:Program} {w:World} {b:Nat} {c:Array Value} {e:TypeId} {fr:Nat × Nat}
theorem cell_of (hb:w.heap[b]?=some (.cells c e fr)) (off:Nat):w.cell? ⟨b,off,none⟩=c[off]?:=by
 simp [World.cell?,hb]
theorem iW (hb:w.heap[b]?=some (.cells c e fr)) (hf:NF fr c.size) (off:Nat) (h:off<c.size):w.frozen? ⟨b,off,none⟩=false:=by
 simp only [World.frozen?,hb]; exact hf off h
theorem cl (hb:w.heap[b]?=some (.cells c e fr)) (off:Nat) (v:Value) :
  w.setCell ⟨b,off,none⟩ v={ w with heap:=w.heap.setIfInBounds b (.cells (c.setIfInBounds off v) e fr) }:=by
 have A0:=(Array.getElem?_eq_some_iff.1 hb).1; have hv:=(Array.getElem?_eq_some_iff.1 hb).2; simp only [World.setCell,World.mk.injEq,and_self,and_true]; apply Array.ext_getElem?; intro i; rw [Array.getElem?_modify,Array.getElem?_setIfInBounds]
 by_cases h:b=i
 ·subst h; simp [A0,hv]
 ·rw [if_neg h,if_neg h]
theorem LX (b off i:Nat):(⟨b,off,none⟩:Addr).add i=⟨b,off+i,none⟩:=by
 unfold Addr.add
 split
 ·rename_i h; simp [h]
 ·rfl
def DJ (c:Array Value):Nat→Nat→List Value
 | 0,_=>[]
 | m+1,k=>c.getD k undef::DJ c m (k+1)
theorem Hj (c:Array Value):∀ m k,(DJ c m k).length=m
 | 0,_=>rfl
 | m+1,k=>by simp [DJ,Hj c m]
theorem run_loadCellsFrom (hb:w.heap[b]?=some (.cells c e fr)) (off:Nat):∀ (n i:Nat) (acc:Array Value),off+i+n≤c.size →
  (loadCellsFrom ⟨b,off,none⟩ i n acc).run P w=.ok (acc++(DJ c n (off+i)).toArray) w:=by
 intro n
 induction n with
 | zero=>intro i acc _; simp [loadCellsFrom,DJ]
 | succ n ih =>
  intro i acc h
  have hc:c[off+i]?=some (c.getD (off+i) undef):=by
   have:off+i<c.size:=by omega
   simp [Array.getD,this]
  simp only [loadCellsFrom,Sem.run_bind,run_load,LX,cell_of hb,hc,Result.andThen_ok]; rw [ih (i+1) _ (by omega)]; simp only [DJ]; congr 1; apply Array.ext'; simp [Nat.add_assoc]
theorem run_loadCells (hb:w.heap[b]?=some (.cells c e fr)) (off n:Nat) (h:off+n≤c.size) :
  (loadCells ⟨b,off,none⟩ n).run P w=.ok (DJ c n off).toArray w:=by
 have:=run_loadCellsFrom (P:=P) hb off n 0 #[] (by omega)
 simpa [loadCells] using this
def Fp (c:Array Value):Nat→List Value→Array Value
 | _,[]=>c
 | k,v::vs=>Fp (c.setIfInBounds k v) (k+1) vs
theorem GJ:∀ (vs:List Value) (c:Array Value) (k:Nat),(Fp c k vs).size=c.size
 | [],_,_=>rfl
 | v::vs,c,k=>by simp [Fp,GJ vs]
theorem RH:∀ (vs:List Value) (c:Array Value) (k j:Nat),k+vs.length≤c.size →
  (Fp c k vs).getD j undef=if k≤j∧j<k+vs.length then vs.getD (j-k) undef else c.getD j undef:=by
 intro vs
 induction vs with
 | nil=>intro c k j _; simp only [Fp,List.length_nil,Nat.add_zero]; rw [if_neg (by omega)]
 | cons v vs ih =>
  intro c k j h; simp only [List.length_cons] at h; rw [Fp,ih _ _ _ (by simp; omega)]; simp only [List.length_cons]
  by_cases h1:k+1≤j∧j<k+1+vs.length
  ·rw [if_pos h1,if_pos (by omega)]; obtain ⟨m,rfl⟩:∃ m,j=k+(m+1):=⟨j-k-1,by omega⟩
   have e1:k+(m+1)-(k+1)=m:=by omega
   have e2:k+(m+1)-k=m+1:=by omega
   rw [e1,e2]; simp
  ·rw [if_neg h1]
   by_cases ej:j=k
   ·subst ej; have:j<c.size:=by omega
    simp [Array.getD_eq_getD_getElem?,this]
   ·rw [if_neg (by omega)]; simp only [Array.getD_eq_getD_getElem?]; rw [Array.getElem?_setIfInBounds_ne (by omega)]
theorem cn {v:Value} (h:BO v=true):v.oneCell'=true:=by cases v <;> simp_all [BO,Value.oneCell']
theorem Ev (off:Nat):∀ (vs:List Value) (i:Nat) (w:World) (c:Array Value),w.heap[b]?=some (.cells c e fr)→NF fr c.size→off+i+vs.length≤c.size→vs.all BO=true →
  (storeCells ⟨b,off,none⟩ vs i).run P w=.ok () { w with heap:=w.heap.setIfInBounds b (.cells (Fp c (off+i) vs) e fr) }:=by
 intro vs
 induction vs with
 | nil =>
  intro i w c hb _ _ _; have A0:=(Array.getElem?_eq_some_iff.1 hb).1; have hv:=(Array.getElem?_eq_some_iff.1 hb).2; simp only [storeCells,Sem.run_pure,Fp]; congr 1
  have:w.heap.setIfInBounds b (.cells c e fr)=w.heap:=by
   apply Array.ext_getElem?; intro j; rw [Array.getElem?_setIfInBounds]
   by_cases h:b=j
   ·subst h; simp [A0,hv]
   ·rw [if_neg h]
  rw [this]
 | cons v vs ih =>
  intro i w c hb cq h CA; simp only [List.length_cons] at h; simp only [List.all_cons,Bool.and_eq_true] at CA
  have hc:c[off+i]?=some (c.getD (off+i) undef):=by
   have:off+i<c.size:=by omega
   simp [Array.getD,this]
  have A0:=(Array.getElem?_eq_some_iff.1 hb).1; simp only [storeCells,Sem.run_bind,LX]; rw [run_store P w _ v _ (cn CA.1)]; simp only [cell_of hb,hc,iW hb cq (off+i) (by omega),Bool.false_eq_true,if_false,Result.andThen_ok,cl hb]; rw [ih (i+1) _ (c.setIfInBounds (off+i) v) (by simp [A0]) (by simpa using cq) (by simp; omega) CA.2]; simp [Fp,Nat.add_assoc]
theorem run_underlying (t:TypeId) (w:World):(underlying t).run P w=match P.underlying t with | some d=>.ok d w | none=>.halt (.stuck "no such type") w:=by
 simp only [underlying,Sem.run_bind,run_program,Result.andThen_ok]
 cases P.underlying t <;> rfl
theorem AG {t:TypeId} {d:TypeDesc} (h:P.underlying t=some d) (w:World):(underlying t).run P w=.ok d w:=by rw [run_underlying,h]
theorem G5 {t:TypeId} {i:TypeInfo} (h:P.info? t=some i) (w:World):(typeInfo t).run P w=.ok i w:=by
 simp only [typeInfo,Sem.run_bind,run_program,Result.andThen_ok,h]; rfl
theorem BC {t:TypeId} {n:Nat} (h:Db P t=some n) (w:World):(sizeOf t).run P w=.ok n w:=by
 unfold Db at h
 cases hi:P.info? t with
 | none=>simp [hi] at h
 | some i=>simp only [hi,Option.map_some,Option.some.injEq] at h; simp [sizeOf,G5 hi,h]
theorem BZ {t:TypeId} {z:Value} (h:Gp P t=some z) (w:World):(zeroValue t).run P w=.ok z w:=by
 unfold Gp at h
 cases hi:P.info? t with
 | none=>simp [hi] at h
 | some i =>
  simp only [hi,Option.bind_some,cond_eq_ite] at h
  split at h
  ·simp [zeroValue,G5 hi,h]
  ·cases h
theorem Ew {t:TypeId} {x:Bool} (h:agg? P t=some x) (w:World):(isAgg t).run P w=.ok x w:=by
 unfold agg? at h
 cases hd:P.underlying t with
 | none=>simp [hd] at h
 | some d =>
  simp only [hd,Option.map_some,Option.some.injEq] at h; subst h; simp only [isAgg,Sem.run_bind,AG hd,Result.andThen_ok]
  cases d <;> rfl
end
section
variable {P:Program} {w0:World} {ρ:Bl} {W:CW} {w:World}
theorem KH (c:Array Value):∀ (m k i:Nat),i<m→(DJ c m k).getD i undef=c.getD (k+i) undef
 | 0,_,_,h=>by omega
 | m+1,k,0,_=>by simp [DJ]
 | m+1,k,i+1,h=>by
  have:=KH c m (k+1) i (by omega); simp only [DJ,List.getD_cons_succ,this]; congr 1; omega
theorem Fi (c:Tr Value) (z:Array Value):∀ (m k i:Nat),i<m→(BW c z m k).getD i undef=cellAt c z (k+i)
 | 0,_,_,h=>by omega
 | m+1,k,0,_=>by simp [BW]
 | m+1,k,i+1,h=>by
  have:=Fi c z m (k+1) i (by omega); simp only [BW,List.getD_cons_succ,this]; congr 1; omega
theorem Aw (c:Tr Value) (z:Array Value):∀ m k,(BW c z m k).length=m
 | 0,_=>rfl
 | m+1,k=>by simp [BW,Aw c z m]
theorem ZY {c:Tr Value} {z:Array Value} {c':Array Value} {n o:Nat} (h:∀ k,k<n→AT ρ (cellAt c z k) (c'.getD (k+o) undef)) (m k:Nat) (hm:k+m≤n) :
  Ap ρ (BW c z m k) (DJ c' m (k+o)):=by
 refine ⟨by rw [Aw,Hj],fun i hi=>?_⟩; rw [Aw] at hi; rw [Fi _ _ _ _ _ hi,KH _ _ _ _ hi]; have:=h (k+i) (by omega); have e:k+i+o=k+o+i:=by omega
 rwa [e] at this
theorem Tl (c:Tr Value) (z:Array Value) (vs:List Value) (k j:Nat) :
  cellAt (c.Ah k vs) z j=if k≤j∧j<k+vs.length then vs.getD (j-k) undef else cellAt c z j:=by
 unfold cellAt; rw [Tr.Iw]
 by_cases h:k≤j∧j<k+vs.length
 ·rw [if_pos h,if_pos h]; have:j-k<vs.length:=by omega
  simp [List.getD_eq_getElem?_getD,this]
 ·rw [if_neg h,if_neg h]
theorem HZ.write {fr:Nat × Nat} {x:Info} {c:Tr Value} {z:Array Value} {e:TypeId} {c':Array Value} {n:Nat} (h:HZ P ρ x (.cells c n z e) (.cells c' e fr)) {vs vs':List Value} (hv:Ap ρ vs vs') {k:Nat}
  (hk:k+vs.length≤n):HZ P ρ x (.cells (c.Ah k vs) n z e) (.cells (Fp c' (k+x.o) vs') e fr):=by
 cases h with
 | cells he hs ho hc hq =>
  refine .cells he (by rw [GJ]; exact hs) ho (fun j hj=>?_) (by rw [GJ]; exact hq); rw [Tl,RH _ _ _ _ (by rw [←hv.1]; omega),←hv.1]
  by_cases h:k≤j∧j<k+vs.length
  ·rw [if_pos h,if_pos (by omega)]; have e:j+x.o-(k+x.o)=j-k:=by omega
   rw [e]; exact hv.2 _ (by omega)
  ·rw [if_neg h,if_neg (by omega)]; exact hc j hj
theorem Ac.cells (h:Ac P w0 ρ W w) {a a':Addr} (ha:KG ρ a a') {c:Tr Value} {n:Nat} {z:Array Value} {e:TypeId} (ho:W.obj a.block=some (.cells c n z e)) :
  ∃ x c' fr,ρ a.block=some x∧a'=⟨x.b,a.off+x.o,none⟩∧w.heap[x.b]?=some (.cells c' e fr)∧NF fr c'.size∧HZ P ρ x (.cells c n z e) (.cells c' e fr)∧x.n=n∧c'.size=x.n'∧x.o+n≤x.n' ∧
   (P.info? e).map (·.size)=some x.sz∧(∀ k,k<n→AT ρ (cellAt c z k) (c'.getD (k+x.o) undef)):=by
 obtain ⟨_,x,hx,rfl⟩:=ha; obtain ⟨o',Hi,hr⟩:=h.obj ho (by simp) hx rfl
 cases hr with
 | cells he hs ct hc hq=>exact ⟨x,_,_,hx,rfl,Hi,hq.1,.cells he hs ct hc hq,rfl,hs,ct,he,hc⟩
theorem Ac.fixed (h:Ac P w0 ρ W w) {a a':Addr} (ha:KG ρ a a') {f:Nat→Value} {n:Nat} {e:TypeId} (ho:W.obj a.block=some (.fixed f n e)) :
  ∃ x c' e' fr,ρ a.block=some x∧a'=⟨x.b,a.off+x.o,none⟩∧w.heap[x.b]?=some (.cells c' e' fr)∧x.n=n∧c'.size=x.n'∧x.o+n≤x.n' ∧
   (P.info? e).map (·.size)=some x.sz∧(∀ k,k<n→AT ρ (f k) (c'.getD (k+x.o) undef)):=by
 obtain ⟨_,x,hx,rfl⟩:=ha; obtain ⟨o',Hi,hr⟩:=h.obj ho (by simp) hx rfl
 cases hr with
 | fixed he hs ct hc=>exact ⟨x,_,_,_,hx,rfl,Hi,rfl,hs,ct,he,hc⟩
theorem D8 (f:Nat→Value):∀ m k,(EJ f m k).length=m
 | 0,_=>rfl
 | m+1,k=>by simp [EJ,D8 f m]
theorem LY (f:Nat→Value):∀ (m k i:Nat),i<m→(EJ f m k).getD i undef=f (k+i)
 | 0,_,_,h=>by omega
 | m+1,k,0,_=>rfl
 | m+1,k,i+1,h=>by
  have:=LY f m (k+1) i (by omega); simp only [EJ,List.getD_cons_succ,this]; congr 1; omega
theorem RI {f:Nat→Value} {c':Array Value} {n o:Nat} (h:∀ k,k<n→AT ρ (f k) (c'.getD (k+o) undef)) (m k:Nat) (hm:k+m≤n) :
  Ap ρ (EJ f m k) (DJ c' m (k+o)) :=
 ⟨by rw [D8,Hj],fun i hi=>by
  rw [D8] at hi; rw [LY _ _ _ _ hi,KH _ _ _ _ hi]; have:=h (k+i) (by omega); have e:k+i+o=k+o+i:=by omega
  rwa [e] at this⟩
theorem RJ (h:Ac P w0 ρ W w) {t:TypeId} {a a':Addr} {v:Value} (ha:KG ρ a a') (hl:Jm P t a W=some v) :
  ∃ v',(loadVar t a').run P w=.ok v' w∧AT ρ v v':=by
 unfold Jm at hl
 split at hl
 ·rename_i c n z e ho; obtain ⟨x,c',fr,hx,rfl,hb,_,_,_,hs,ct,_,hc⟩:=h.cells ha ho
  split at hl
  ·rename_i cu
   split at hl
   ·rename_i m hm; rw [cond_eq_ite] at hl
    split at hl
    ·rename_i hle; have hle:=Nat.le_of_ble_eq_true hle
     cases hl
     refine ⟨.agg (DJ c' m (a.off+x.o)).toArray,?_,.ZW (by simpa using ZY hc m a.off hle)⟩; simp only [loadVar,Sem.run_bind,Ew cu,Result.andThen_ok,if_true,BC hm]; rw [run_loadCells hb _ _ (by omega)]; rfl
    ·cases hl
   ·cases hl
  ·rename_i cu; rw [cond_eq_ite] at hl
   split at hl
   ·rename_i A0; have A0:a.off<n:=by have:=Nat.le_of_ble_eq_true A0; omega
    cases hl
    refine ⟨c'.getD (a.off+x.o) undef,?_,hc _ A0⟩
    have:c'[a.off+x.o]?=some (c'.getD (a.off+x.o) undef):=by
     have:a.off+x.o<c'.size:=by omega
     simp [Array.getD,this]
    simp only [loadVar,Sem.run_bind,Ew cu,Result.andThen_ok,Bool.false_eq_true,if_false,run_load,cell_of hb,this]
   ·cases hl
  ·cases hl
 ·rename_i f n e ho; obtain ⟨x,c',e',fr,hx,rfl,hb,_,hs,ct,_,hc⟩:=h.fixed ha ho
  split at hl
  ·rename_i cu
   split at hl
   ·rename_i m hm; rw [cond_eq_ite] at hl
    split at hl
    ·rename_i hle; have hle:=Nat.le_of_ble_eq_true hle
     cases hl
     refine ⟨.agg (DJ c' m (a.off+x.o)).toArray,?_,.ZW (by simpa using RI hc m a.off hle)⟩; simp only [loadVar,Sem.run_bind,Ew cu,Result.andThen_ok,if_true,BC hm]; rw [run_loadCells hb _ _ (by omega)]; rfl
    ·cases hl
   ·cases hl
  ·rename_i cu; rw [cond_eq_ite] at hl
   split at hl
   ·rename_i A0; have A0:a.off<n:=by have:=Nat.le_of_ble_eq_true A0; omega
    cases hl
    refine ⟨c'.getD (a.off+x.o) undef,?_,hc _ A0⟩
    have:c'[a.off+x.o]?=some (c'.getD (a.off+x.o) undef):=by
     have:a.off+x.o<c'.size:=by omega
     simp [Array.getD,this]
    simp only [loadVar,Sem.run_bind,Ew cu,Result.andThen_ok,Bool.false_eq_true,if_false,run_load,cell_of hb,this]
   ·cases hl
  ·cases hl
 ·cases hl
theorem iX {v v':Value} (h:AT ρ v v') (hc:v.cells.toList.all BO=true):v'.cells.toList.all BO=true:=by
 have hl:=h.cells; rw [List.all_eq_true] at hc ⊢; intro y hy; obtain ⟨i,hi,rfl⟩:=List.getElem_of_mem hy; have Hv:i<v.cells.toList.length:=hl.1 ▸ hi; have:=hl.2 i Hv; simp only [List.getD_eq_getElem?_getD,List.getElem?_eq_getElem hi,List.getElem?_eq_getElem Hv,Option.getD_some] at this; rw [this.one]; exact hc _ (List.getElem_mem Hv)
theorem OG (h:Ac P w0 ρ W w) {t:TypeId} {a a':Addr} {v v':Value} (ha:KG ρ a a') (hv:AT ρ v v') {c:Tr Value} {n:Nat} {z:Array Value} {e:TypeId} {m:Nat}
  (ho:W.obj a.block=some (.cells c n z e)) (hm:Db P t=some m) (HD:v.cells.size=m) (hle:a.off+m≤n) (PZ:v.cells.toList.all BO=true) :
  ∃ w',(storeVar t a' v').run P w=.ok () w'∧Ac P w0 ρ (W.Az a.block (.cells (c.Ah a.off v.cells.toList) n z e)) w':=by
 obtain ⟨x,c',fr,hx,rfl,hb,cq,hr,_,hs,ct,_,hc⟩:=h.cells ha ho; have hl:=hv.cells; have KB:v'.cells.size=m:=by have:=hl.1; simp at this; omega
 refine ⟨{ w with heap:=w.heap.setIfInBounds x.b (.cells (Fp c' (a.off+x.o) v'.cells.toList) e fr) },?_,?_⟩
 ·simp only [storeVar,Sem.run_bind,BC hm,Result.andThen_ok,KB,ne_eq,not_true,if_false]; have:=Ev (P:=P) (a.off+x.o) v'.cells.toList 0 w c' hb cq (by simp; omega) (iX hv PZ)
  simpa using this
 ·exact h.Az ho rfl hx (hr.write hl (by simp; omega))
theorem XX (h:Ac P w0 ρ W w) {t:TypeId} {a a':Addr} {v v':Value} {W1:CW} (ha:KG ρ a a') (hv:AT ρ v v') (hl:JJ P t a v W=some W1) :
  ∃ w',(storeVar t a' v').run P w=.ok () w'∧Ac P w0 ρ W1 w':=by
 unfold JJ at hl
 split at hl
 ·rename_i c n z e ho
  split at hl
  ·rename_i cs
   split at hl
   ·rename_i m hm; rw [cond_eq_ite] at hl
    split at hl
    ·rename_i BJ; simp only [Bool.and_eq_true] at BJ
     cases hl
     exact OG h ha hv ho hm (Nat.eq_of_beq_eq_true BJ.1.1) (Nat.le_of_ble_eq_true BJ.1.2) BJ.2
    ·cases hl
   ·cases hl
  ·cases hl
  ·rename_i hna Na
   split at hl
   ·rename_i m hm; rw [cond_eq_ite] at hl
    split at hl
    ·rename_i BJ; simp only [Bool.and_eq_true] at BJ
     cases hl
     have PZ:BO v=true:=by cases v <;> first | rfl | exact (hna _ rfl).elim | exact (Na _ rfl).elim
     have LZ:v.cells=#[v]:=by cases v <;> first | rfl | exact (hna _ rfl).elim
     have Va:=Nat.eq_of_beq_eq_true BJ.1; have A0:a.off<n:=by have:=Nat.le_of_ble_eq_true BJ.2; omega
     have:=OG h ha hv ho hm (by rw [LZ]; simp [Va]) (by omega) (by rw [LZ]; simp [PZ]); rw [LZ] at this; exact this
    ·cases hl
   ·cases hl
 ·cases hl
end
end Go.Ce
namespace Go.Ce
open Go.RowKit (Below)
def EX (P:Program):Prop:=∀ f fn,P.funcs[f]?=some fn→fn.body.isNone=true→(fn.name == "maps.clone")=true→∀ args w v w',(Extern.MapsClone.clone args).run P w=.ok v w'→(callFunc f args).run P w=.ok (.value v) w'
def ZP (P:Program):Prop:=(∀ t z,Gp P t=some z→∃ n,Eu n z=true)∧EX P
theorem ZP.rel {P:Program} (h:ZP P) {t:TypeId} {z:Value} (hz:Gp P t=some z) (ρ:Bl):AT ρ z z:=let ⟨n,hn⟩:=h.1 t z hz; .OE ρ n z hn
inductive Jo (ρ:Bl):Deferred→Deferred→Prop
 | fn {f:FuncId} {cap cap' args args':Array Value}:Ap ρ cap.toList cap'.toList→Ap ρ args.toList args'.toList→Jo ρ ⟨.fn (.func f) cap,args⟩ ⟨.fn (.func f) cap',args'⟩
 | collected {r r':Nat}:LW ρ r r'→Jo ρ ⟨.collected r,#[]⟩ ⟨.collected r',#[]⟩
theorem Jo.mono {ρ ρ':Bl} {d d':Deferred} (h:Jo ρ d d') (e:Ext ρ ρ'):Jo ρ' d d':=by
 cases h with
 | fn a b=>exact .fn (a.mono e) (b.mono e)
 | collected a=>exact .collected (a.mono e)
inductive ZZ (P:Program) (w0:World) (ρ:Bl) (W:CW) (r:Result Next):BX→Prop
 | value {v v':Value} {w:World}:r=.ok (.value v') w→AT ρ v v'→Ac P w0 ρ W w→ZZ P w0 ρ W r (.value v)
 | skip {w:World}:r=.ok .skip w→Ac P w0 ρ W w→ZZ P w0 ρ W r .skip
 | enter {f:FuncId} {args:List Value} {args':Array Value} {w:World}:r=(callFunc f args').run P w→Ap ρ args args'.toList→Ac P w0 ρ W w→ZZ P w0 ρ W r (.enter f args)
 | round {l l':Nat} {args:List Value} {args':Array Value} {w:World}:r=(Instr.yield l' args').run P w→LW ρ l l'→Ap ρ args args'.toList→Ac P w0 ρ W w→ZZ P w0 ρ W r (.round l args)
 | defer {d d':Deferred} {w:World}:r=.ok (.defer d') w→Jo ρ d d'→Ac P w0 ρ W w→ZZ P w0 ρ W r (.defer d)
 | recover {w:World}:r=.ok .recover w→Ac P w0 ρ W w→ZZ P w0 ρ W r .recover
 | panic {v v':Value} {w:World}:r=.halt (.panic v') w→AT ρ v v'→Ac P w0 ρ W w→ZZ P w0 ρ W r (.panic v)
def A6 (P:Program) (w0:World) (ρ:Bl) (W:CW) (r:Result Next) (outs:List (BX × CW)):Prop :=
 ∃ n W1 ρ',(n,W1) ∈ outs∧D2 W ρ W1 ρ'∧ZZ P w0 ρ' W1 r n
section
variable {P:Program} {w0:World} {ρ:Bl} {W:CW} {w:World}
theorem A6.value (hw:Ac P w0 ρ W w) {r:Result Next} {v v':Value} (hr:r=.ok (.value v') w) (hv:AT ρ v v'):A6 P w0 ρ W r [(.value v,W)] :=
 ⟨_,_,ρ,List.mem_singleton.2 rfl,.refl _,.value hr hv hw⟩
def K_ (ρ:Bl):Option Value→Option Value→Prop
 | none,none=>True
 | some v,some v'=>AT ρ v v'
 | _,_=>False
theorem Ey {x x':Option Value} {d y y' k:Nat} (h:bound x d y=some k) (hx:K_ ρ x x') (hy:y≤y') :
  (x=none∧x'=none∧k=d)∨(∃ v',x'=some v'∧k≤y∧∀ code (w:World),(Instr.sliceBound v' y' code).run P w=.ok k w):=by
 unfold bound at h
 split at h
 ·rename_i kk i; rw [cond_eq_ite] at h
  split at h
  ·rename_i hc; simp only [Bool.and_eq_true,decide_eq_true_eq] at hc
   cases h
   cases x' with
   | none=>exact hx.elim
   | some v' =>
    have hx:AT ρ (.int kk i) v':=hx
    cases hx
    right; refine ⟨_,rfl,by omega,fun code w=>?_⟩; have:0≤i∧i≤(y':Int):=⟨hc.1,by omega⟩
    simp [Instr.sliceBound,asIntOf,this]
  ·cases h
 ·cases h
 ·cases h
  cases x' with
  | none=>exact .inl ⟨rfl,rfl,rfl⟩
  | some v'=>exact hx.elim
theorem K_.map {f g:Operand→Value} (x:Option Operand) (h:∀ y,x=some y→AT ρ (f y) (g y)):K_ ρ (x.map f) (x.map g):=by
 cases x with
 | none=>trivial
 | some y=>exact h y rfl
theorem Af {α β:Type} {o:Option α} {f:α→Option β} {b:β} (h:C7 o f=some b):∃ a,o=some a∧f a=some b:=by
 cases o with
 | none=>cases h
 | some a=>exact ⟨a,rfl,h⟩
theorem KI (b:Bool) {lo zf hi Hv mx uP:Option Value} {len cap cap' m h l:Nat} (hm:bound mx cap cap=some m) (hh:bound hi len m=some h) (hl:bound lo 0 h=some l)
  (rl:K_ ρ lo zf) (rh:K_ ρ hi Hv) (rm:K_ ρ mx uP) (hc:cap≤cap') (hn:(mx.isSome && hi.isNone)=false) :
  ∃ m',(∀ w:World,(Instr.sliceBounds b len cap' zf Hv uP).run P w=.ok (l,h,m') w)∧((mx=none∧m'=cap'∧m=cap)∨(m'=m∧m≤cap))∧l≤h:=by
 have iY:l≤h:=by
  rcases Ey (P:=P) hl rl (Nat.le_refl _) with ⟨_,_,rfl⟩ | ⟨_,_,h,_⟩
  ·exact Nat.zero_le _
  ·exact h
 rcases Ey (P:=P) hm rm hc with ⟨rfl,rfl,rfl⟩ | ⟨v,rfl,AC6,hmr⟩
 ·refine ⟨cap',fun w=>?_,.inl ⟨rfl,rfl,rfl⟩,iY⟩
  rcases Ey (P:=P) hh rh hc with ⟨rfl,rfl,rfl⟩ | ⟨v2,rfl,_,hhr⟩
  ·rcases Ey (P:=P) hl rl (Nat.le_refl _) with ⟨rfl,rfl,rfl⟩ | ⟨v3,rfl,_,hlr⟩
   ·simp [Instr.sliceBounds]
   ·simp [Instr.sliceBounds,hlr]
  ·rcases Ey (P:=P) hl rl (Nat.le_refl _) with ⟨rfl,rfl,rfl⟩ | ⟨v3,rfl,_,hlr⟩
   ·simp [Instr.sliceBounds,hhr]
   ·simp [Instr.sliceBounds,hhr,hlr]
 ·have hms:mx.isSome=true:=by
   cases mx with
   | none=>exact rm.elim
   | some _=>rfl
  refine ⟨m,fun w=>?_,.inr ⟨rfl,AC6⟩,iY⟩
  rcases Ey (P:=P) hh rh (Nat.le_refl _) with ⟨rfl,rfl,rfl⟩ | ⟨v2,rfl,_,hhr⟩
  ·simp [hms] at hn
  ·rcases Ey (P:=P) hl rl (Nat.le_refl _) with ⟨rfl,rfl,rfl⟩ | ⟨v3,rfl,_,hlr⟩
   ·simp [Instr.sliceBounds,hmr,hhr]
   ·simp [Instr.sliceBounds,hmr,hhr,hlr]
end
end Go.Ce
namespace Go.Ce
open Go.RowKit (Below)
section
variable {P:Program} {w0:World} {ρ:Bl} {W:CW} {w:World}
theorem XY {t:TypeId} {n m:Nat} (h:Db P t=some n) (k:(P.info? t).map (·.size)=some m):m=n:=by
 unfold Db at h; rw [h] at k; cases k; rfl
theorem OH {a a':Addr} (h:KG ρ a a') (k:Nat):KG ρ ⟨a.block,a.off+k,none⟩ (a'.add k):=by
 obtain ⟨_,x,hx,rfl⟩:=h; refine ⟨rfl,x,hx,?_⟩; rw [LX]; simp only [Addr.mk.injEq,and_true,true_and]; omega
theorem OI (a:Addr):a.add 0=a:=by simp [Addr.add]
theorem XZ (hw:Ac P w0 ρ W w) {t:TypeId} {x x' v:Value} {lo zf hi Hv mx uP:Option Value} (h:TW P W t x lo hi mx=some v) (hx:AT ρ x x')
  (rl:K_ ρ lo zf) (rh:K_ ρ hi Hv) (rm:K_ ρ mx uP):∃ v',(Instr.sliceAt t x' zf Hv uP).run P w=.ok v' w∧AT ρ v v':=by
 unfold TW at h
 split at h
 ·rename_i elem a len cap ht; obtain ⟨m,hm,h⟩:=Af h; obtain ⟨hh,PN,h⟩:=Af h; obtain ⟨l,hl,h⟩:=Af h; rw [cond_eq_ite] at h
  split at h
  ·cases h
  rename_i BJ; simp only [Bool.or_eq_true,Bool.not_eq_true',not_or,Bool.not_eq_true,Bool.not_eq_false] at BJ; obtain ⟨⟨uQ,hle⟩,P0⟩:=BJ; have hle:=Nat.le_of_ble_eq_true hle; obtain ⟨s,hs,h⟩:=Af h
  cases h
  have run:∀ (a':Option Addr) (cap':Nat),cap≤cap'→∃ m',(Instr.sliceAt t (.slice a' len cap') zf Hv uP).run P w=.ok (.slice (if m'=l then a' else a'.map (·.add (l*s))) (hh-l) (m'-l)) w∧((mx=none∧m'=cap'∧m=cap)∨(m'=m∧m≤cap))∧l≤hh:=by
   intro a' cap' hc; obtain ⟨m',hr,A9,iY⟩:=KI (P:=P) true hm PN hl rl rh rm hc uQ; refine ⟨m',?_,A9,iY⟩; simp only [Instr.sliceAt,Sem.run_bind,AG ht,Result.andThen_ok,Instr.slice,hr,BC hs,Sem.run_pure]
  cases hx with
  | ZV =>
   obtain ⟨m',hr,A9,iY⟩:=run none cap (Nat.le_refl _); refine ⟨_,hr,?_⟩; have:m'=m:=by rcases A9 with ⟨_,h1,h2⟩ | ⟨h1,_⟩ <;> omega
   subst this; simp only [Option.map_none,ite_self,cond_eq_ite]; exact .ZV _ _
  | @slice a a' n c c' ha hc =>
   have Ei:cap≤c':=by
    rcases hc with rfl | ⟨_,_,_,_,_,h⟩
    ·exact Nat.le_refl _
    ·exact h
   obtain ⟨m',hr,A9,iY⟩:=run (some a') c' Ei; refine ⟨_,hr,?_⟩
   have AAJ:mx=none→c'=cap∨∃ y,ρ a.block=some y∧0<s∧y.sz=s∧a.off+cap*s=y.n∧a.off+y.o+c'*s=y.n':=by
    intro lC
    rcases hc with rfl | ⟨y,hy,Nb,h1,h2,_⟩
    ·exact .inl rfl
    ·right; subst lC; simp only [Option.isSome_none,TV,ha.1,Bool.false_or] at P0
     split at P0
     ·rename_i cc nn zz ee ho; have:=Nat.eq_of_beq_eq_true (P0.resolve_left (by simp)); subst this; obtain ⟨y',c2,_,sr,_,_,_,_,_,_,_,he,_⟩:=hw.cells ha ho; rw [hy] at sr; cases sr; have:=XY hs he; rw [this] at h1 h2 Nb; exact ⟨y,hy,Nb,this,h1,h2⟩
     ·rename_i ff nn ee ho; have:=Nat.eq_of_beq_eq_true (P0.resolve_left (by simp)); subst this; obtain ⟨y',_,_,_,sr,_,_,_,_,_,he,_⟩:=hw.fixed ha ho; rw [hy] at sr; cases sr; have:=XY hs he; rw [this] at h1 h2 Nb; exact ⟨y,hy,Nb,this,h1,h2⟩
     ·simp at P0
   by_cases e:m=l
   ·have ehl:hh=l:=by omega
    subst ehl; simp only [cond_eq_ite,Nat.beq_eq,e,if_true,Nat.sub_self]; obtain ⟨y,hy,rfl⟩:=ha.2
    by_cases em:m'=hh
    ·subst em; simp only [if_true,Nat.sub_self]; exact .JL ha.1 hy rfl rfl (.inl rfl)
    ·rw [if_neg em]
     rcases A9 with ⟨lC,e1,e2⟩ | ⟨h1,_⟩
     ·rcases AAJ lC with h1 | ⟨y',sr,Nb,HD,h1,h2⟩
      ·omega
      ·rw [hy] at sr; cases sr; simp only [Option.map_some,LX]; refine .JL ha.1 hy rfl rfl (.inr ⟨by omega,?_⟩); rw [HD]; obtain ⟨d,hd⟩:∃ d,m'=hh+d:=⟨m'-hh,by omega⟩
       have e3:m'-hh=d:=by omega
       rw [e3]; rw [←e1,hd,Nat.add_mul] at h2; show a.off+y.o+hh*s+d*s=y.n'; omega
     ·omega
   ·have hlm:l<m:=by omega
    have em:m'≠l:=by rcases A9 with ⟨_,h1,h2⟩ | ⟨h1,_⟩ <;> omega
    simp only [cond_eq_ite,Nat.beq_eq,e,if_false,em,Option.map_some]; refine .slice _ (OH ha _) ?_
    rcases A9 with ⟨lC,rfl,rfl⟩ | ⟨rfl,_⟩
    ·rcases AAJ lC with rfl | ⟨y,hy,Nb,HD,h1,h2⟩
     ·exact .inl rfl
     ·right
      refine ⟨y,hy,by omega,?_,?_,by omega⟩
      ·rw [HD]; obtain ⟨d,rfl⟩:∃ d,m=l+d:=⟨m-l,by omega⟩
       have:l+d-l=d:=by omega
       rw [this]; rw [Nat.add_mul] at h1; show a.off+l*s+d*s=y.n; omega
      ·rw [HD]; obtain ⟨d,rfl⟩:∃ d,m'=l+d:=⟨m'-l,by omega⟩
       have:l+d-l=d:=by omega
       rw [this]; rw [Nat.add_mul] at h2; show a.off+l*s+y.o+d*s=y.n'; omega
    ·exact .inl rfl
  | @JL a a' c' y hq hy hb Jg hc =>
   obtain ⟨m',hr,A9,iY⟩:=run (some a') c' (Nat.zero_le _); refine ⟨_,hr,?_⟩; have gF:m=0:=by rcases A9 with ⟨_,h1,h2⟩ | ⟨h1,h2⟩ <;> omega
   subst gF; have hh0:hh=0:=by omega
   subst hh0; have hl0:l=0:=by omega
   subst hl0; simp only [cond_eq_ite,Nat.beq_eq,if_true,Nat.sub_zero,Nat.zero_mul,Option.map_some,OI,ite_self]; refine .JL hq hy hb Jg ?_
   rcases A9 with ⟨_,rfl,_⟩ | ⟨rfl,_⟩
   ·exact hc
   ·exact .inl rfl
  | @Hz a a' hq =>
   obtain ⟨m',hr,A9,iY⟩:=run (some a') 0 (Nat.le_refl _); refine ⟨_,hr,?_⟩; have gF:m=0:=by rcases A9 with ⟨_,h1,h2⟩ | ⟨h1,h2⟩ <;> omega
   subst gF; have hh0:hh=0:=by omega
   subst hh0; have hl0:l=0:=by omega
   subst hl0; simp only [cond_eq_ite,Nat.beq_eq,if_true,Nat.sub_zero,Nat.zero_mul,Option.map_some,OI,ite_self]; have AC7:m'=0:=by rcases A9 with ⟨_,h1,_⟩ | ⟨h1,_⟩ <;> omega
   subst AC7; exact .Hz hq
 ·rename_i n elem a ht; obtain ⟨m,hm,h⟩:=Af h; obtain ⟨hh,PN,h⟩:=Af h; obtain ⟨l,hl,h⟩:=Af h; rw [cond_eq_ite] at h
  split at h
  ·cases h
  rename_i BJ; simp only [Bool.or_eq_true,Bool.not_eq_true',not_or,Bool.not_eq_true,Bool.not_eq_false] at BJ; obtain ⟨s,hs,h⟩:=Af h
  cases h
  cases hx with
  | @ptr a a' ha =>
   obtain ⟨m',hr,A9,iY⟩:=KI (P:=P) false hm PN hl rl rh rm (Nat.le_refl _) BJ.1; have:m'=m:=by rcases A9 with ⟨_,h1,h2⟩ | ⟨h1,_⟩ <;> omega
   subst this
   refine ⟨.slice (some (if m'=l then a' else a'.add (l*s))) (hh-l) (m'-l),?_,?_⟩
   ·simp only [Instr.sliceAt,Sem.run_bind,AG ht,Result.andThen_ok,Instr.sureAddr,Sem.run_pure,hr,BC hs]
   ·simp only [cond_eq_ite,Nat.beq_eq]
    by_cases e:m'=l
    ·rw [if_pos e,if_pos e]; exact .slice _ ha (.inl rfl)
    ·rw [if_neg e,if_neg e]; exact .slice _ (OH ha _) (.inl rfl)
 ·cases h
end
end Go.Ce
namespace Go.Ce
open Go.RowKit (Below)
section
variable {P:Program} {w0:World} {ρ:Bl} {W:CW} {w:World} {o:Oper} {e e':Operand→Value} {outs:List (BX × CW)}
theorem EL {x:Option Value} (h:(match x with | some v=>some [(BX.value v,W)] | none=>none)=some outs):∃ v,x=some v∧outs=[(.value v,W)]:=by
 cases x with
 | none=>cases h
 | some v=>cases h; exact ⟨v,rfl,rfl⟩
theorem ML {x:Option (Value × CW)} (h:(match x with | some (v,W)=>some [(BX.value v,W)] | none=>none)=some outs):∃ v W1,x=some (v,W1)∧outs=[(.value v,W1)]:=by
 cases x with
 | none=>cases h
 | some v=>obtain ⟨v,W1⟩:=v; cases h; exact ⟨v,W1,rfl,rfl⟩
theorem gG {x:Option CW} (h:(match x with | some W=>some [(BX.skip,W)] | none=>none)=some outs):∃ W1,x=some W1∧outs=[(.skip,W1)]:=by
 cases x with
 | none=>cases h
 | some W1=>cases h; exact ⟨W1,rfl,rfl⟩
theorem A_ {s:Sem Value} {v:Value} {w w':World} (hs:s.run P w=.ok v w'):(do let x ←s; pure (Next.value x):Sem Next).run P w=.ok (.value v) w':=by simp [hs]
theorem cw {s:Sem Unit} {w w':World} (hs:s.run P w=.ok () w'):(do s; pure Next.skip:Sem Next).run P w=.ok .skip w':=by simp [hs]
theorem gH {x:Operand} (ho:o.op=.move x∨o.op=.assign x) (h:BS P o e W=some outs) (hw:Ac P w0 ρ W w) (he:AT ρ (e x) (e' x)) :
  A6 P w0 ρ W ((execOp e' o).run P w) outs:=by
 rcases ho with ho | ho <;>
 ·simp only [BS,ho] at h
  cases h
  exact .value hw (by simp only [execOp,ho,Sem.run_pure]) he
theorem qD {c a b:Operand} (ho:o.op=.pick c a b) (h:BS P o e W=some outs) (hw:Ac P w0 ρ W w) (hc:AT ρ (e c) (e' c)) (ha:AT ρ (e a) (e' a)) (hb:AT ρ (e b) (e' b)) :
  A6 P w0 ρ W ((execOp e' o).run P w) outs:=by
 simp only [BS,ho] at h
 split at h
 ·rename_i b0 qE
  cases h
  rw [qE] at hc; generalize Ei:e' c=vc at hc
  cases hc
  have hr:(execOp e' o).run P w=.ok (.value (if b0=true then e' a else e' b)) w:=by
   simp [execOp,ho,Ei,asBool]
  refine .value hw hr ?_
  cases b0
  ·simpa using hb
  ·simpa using ha
 ·cases h
theorem qF {t:TypeId} {a:Operand} (ho:o.op=.load t a) (h:BS P o e W=some outs) (hw:Ac P w0 ρ W w) (ha:AT ρ (e a) (e' a)) :
  A6 P w0 ρ W ((execOp e' o).run P w) outs:=by
 simp only [BS,ho] at h; obtain ⟨v,hv,rfl⟩:=EL h
 split at hv
 ·rename_i p hp; rw [hp] at ha; generalize Ei:e' a=va at ha
  cases ha with
  | ptr ha =>
   obtain ⟨v',hr,G4⟩:=RJ hw ha hv; refine .value hw ?_ G4; simp only [execOp,ho,Ei]; exact A_ (by simpa [Instr.loadAt,Instr.sureAddr] using hr)
 ·cases hv
theorem iZ {t:TypeId} {a:Addr} {v:Value} {W1:CW} (h:JJ P t a v W=some W1):W.sz≤W1.sz:=by
 unfold JJ at h
 repeat' (first | (cases h; done) | (cases h; exact Nat.le_refl _) | (rw [cond_eq_ite] at h) | split at h)
theorem lu {t:TypeId} {a x:Operand} (ho:o.op=.store t a x) (h:BS P o e W=some outs) (hw:Ac P w0 ρ W w) (ha:AT ρ (e a) (e' a)) (hx:AT ρ (e x) (e' x)) :
  A6 P w0 ρ W ((execOp e' o).run P w) outs:=by
 simp only [BS,ho] at h; obtain ⟨W1,hv,rfl⟩:=gG h
 split at hv
 ·rename_i p hp; rw [hp] at ha; generalize Ei:e' a=va at ha
  cases ha with
  | ptr ha =>
   obtain ⟨w',hr,Fy⟩:=XX hw ha hx hv; refine ⟨_,_,ρ,List.mem_singleton.2 rfl,.refl _ (iZ hv),.skip (w:=w') ?_ Fy⟩; simp only [execOp,ho,Ei]; exact cw (by simpa [Instr.storeAt,Instr.sureAddr] using hr)
 ·cases hv
theorem Za {x:Operand} (ho:o.op=.nilCheck x) (h:BS P o e W=some outs) (hw:Ac P w0 ρ W w) (hx:AT ρ (e x) (e' x)) :
  A6 P w0 ρ W ((execOp e' o).run P w) outs:=by
 simp only [BS,ho] at h; obtain ⟨v,hv,rfl⟩:=EL h; generalize hc:e x=vx at *; generalize Ei:e' x=RK at *
 split at hv <;> cases hv <;> cases hx
 ·rename_i h1; exact .value hw (by simp only [execOp,ho,Ei,Sem.run_pure]) (.ptr h1)
 ·rename_i h1; exact .value hw (by simp only [execOp,ho,Ei,Sem.run_pure]) (.iface _ h1)
 ·rename_i h1 h2 h3 h4 h5
  cases h1
  exact .value hw (by simp only [execOp,ho,Ei,Sem.run_pure]) (.func (.func _) h2 h3 h4 h5)
 ·rename_i h1 h2 h3 h4 h5
  cases h1 with
  | yield hb=>exact .value hw (by simp only [execOp,ho,Ei,Sem.run_pure]) (.func (.yield hb) h2 h3 h4 h5)
theorem OJ (hw:Ac P w0 ρ W w) {c:Tr Value} {z:Array Value} {n:Nat} {t:TypeId} {sz:Nat} {c':Array Value} (hs:Db P t=some sz) (hn:c'.size=n)
  (hc:∀ k,k<n→AT ρ (cellAt c z k) (c'.getD k undef)) :
  ∃ ρ',D2 W ρ (W.new (.cells c n z t)) ρ'∧ρ' W.sz=some ⟨w.heap.size,0,sz,n,n⟩∧Ac P w0 ρ' (W.new (.cells c n z t)) { w with heap:=w.heap.push (.cells c' t) }∧KG ρ' ⟨W.sz,0,none⟩ ⟨w.heap.size,0,none⟩:=by
 have C':Ext ρ (fun i=>if i=W.sz then some ⟨w.heap.size,0,sz,n,n⟩ else ρ i):=fun i y hy=>by
  have:=hw.SU i y hy; show (if i=W.sz then _ else ρ i)=some y; rw [if_neg (by omega)]; exact hy
 have:=hw.new (o:=.cells c n z t) (o':=.cells c' t) ⟨w.heap.size,0,sz,n,n⟩ rfl (by
  exact .cells hs hn (by simp) (fun k hk=>(hc k hk).mono C') ⟨NF.zero _,fun _=>⟨rfl,rfl⟩⟩)
 exact ⟨_,this.1,by simp,this.2,⟨rfl,⟨w.heap.size,0,sz,n,n⟩,by simp,by simp⟩⟩
theorem C_ (vs:List Value) (z:Array Value) (k:Nat) (h:k<vs.length):cellAt (Tr.nil.Ah 0 vs) z k=vs.getD k undef:=by
 rw [Tl]; simp [h]
theorem uR {t:TypeId} {x:Operand} (ho:o.op=.box t x) (h:BS P o e W=some outs) (hw:Ac P w0 ρ W w) (hx:AT ρ (e x) (e' x)) :
  A6 P w0 ρ W ((execOp e' o).run P w) outs:=by
 simp only [BS,ho,SQ] at h
 split at h
 ·rename_i sz hs
  cases h
  have hl:=hx.cells
  obtain ⟨ρ',C',_,Fy,ha⟩:=OJ hw (c:=Tr.nil.Ah 0 (e x).cells.toList) (z:=#[]) (n:=(e x).cells.size) (c':=(e' x).cells) hs (by simpa using hl.1.symm) (fun k hk=>by
   rw [C_ _ _ _ (by simpa using hk)]; have:=hl.2 k (by simpa using hk)
   simpa [Array.getD_eq_getD_getElem?,List.getD_eq_getElem?_getD] using this)
  refine ⟨_,_,ρ',List.mem_singleton.2 rfl,C',.value (w:={ w with heap:=w.heap.push (.cells (e' x).cells t) }) ?_ (.ptr ha) Fy⟩; simp only [execOp,ho]; exact A_ (by simp [Instr.box,newVar,newRow])
 ·cases h
theorem l4 (hz:ZP P) {t:TypeId} (ho:o.op=.alloc t) (h:BS P o e W=some outs) (hw:Ac P w0 ρ W w) :
  A6 P w0 ρ W ((execOp e' o).run P w) outs:=by
 simp only [BS,ho] at h
 split at h
 ·rename_i z KC
  split at h
  ·rename_i sz hs
   cases h
   obtain ⟨ρ',C',_,Fy,ha⟩:=OJ hw (c:=.nil) (z:=z.cells) (n:=z.cells.size) (c':=z.cells) hs rfl (fun k hk=>by
    have hc:=(hz.rel KC ρ).cells.2 k (by simpa using hk); have:cellAt .nil z.cells k=z.cells.getD k undef:=by simp [cellAt,Tr.get_nil,Nat.mod_eq_of_lt hk]
    rw [this]
    simpa [Array.getD_eq_getD_getElem?,List.getD_eq_getElem?_getD] using hc)
   refine ⟨_,_,ρ',List.mem_singleton.2 rfl,C',.value (w:={ w with heap:=w.heap.push (.cells z.cells t) }) ?_ (.ptr ha) Fy⟩; simp only [execOp,ho]; exact A_ (by simp [Instr.alloc,BZ KC,newVar,newRow])
  ·cases h
 ·cases h
theorem qG {u:UnOp} {t:TypeId} {x:Operand} (ho:o.op=.unOp u t x) (h:BS P o e W=some outs) (hw:Ac P w0 ρ W w) (hx:AT ρ (e x) (e' x)) :
  A6 P w0 ρ W ((execOp e' o).run P w) outs:=by
 cases u <;> simp only [BS,ho] at h <;> first | (cases h; done) | skip
 all_goals
  obtain ⟨v,hv,rfl⟩:=EL h
  split at hv
  ·rename_i hc
   cases hv
   rw [hc] at hx; generalize Ei:e' x=RK at hx
   cases hx
   refine .value hw ?_ (by constructor); simp only [execOp,ho,Ei]; exact A_ (by simp [Op.unary,Op.intArith])
  ·cases hv
theorem P1 {t:TypeId} {x:Operand} (ho:o.op=.makeInterface t x) (h:BS P o e W=some outs) (hw:Ac P w0 ρ W w) (hx:AT ρ (e x) (e' x)) :
  A6 P w0 ρ W ((execOp e' o).run P w) outs:=by
 simp only [BS,ho] at h; obtain ⟨v,hv,rfl⟩:=EL h
 split at hv
 ·cases hv
 ·cases hv
 ·rename_i Vb cy
  cases hv
  refine .value hw ?_ (.iface _ hx); simp only [execOp,ho]; refine A_ ?_
  cases hu:P.underlying t with
  | none=>exact (cy hu).elim
  | some d =>
   simp only [Instr.makeInterface,Sem.run_bind,AG hu,Result.andThen_ok]
   cases d <;> first | rfl | exact (Vb _ hu).elim
theorem cz {x:Operand} {i:Nat} (ho:o.op=.extract x i) (h:BS P o e W=some outs) (hw:Ac P w0 ρ W w) (hx:AT ρ (e x) (e' x)) :
  A6 P w0 ρ W ((execOp e' o).run P w) outs:=by
 simp only [BS,ho] at h; obtain ⟨v,hv,rfl⟩:=EL h
 split at hv
 ·rename_i vs hc; rw [hc] at hx; generalize Ei:e' x=RK at hx; obtain ⟨vs',rfl,hl⟩:=hx.iV; obtain ⟨y,hy,hr⟩:=hl.get (x:=v) (i:=i) (by simpa using hv); have hy:vs'[i]?=some y:=by simpa using hy
  refine .value hw ?_ hr; simp only [execOp,ho,Ei]; exact A_ (by simp [Instr.extract,hy])
 ·cases hv
end
end Go.Ce
namespace Go.Ce
open Go.RowKit (Below)
section
variable {P:Program} {w0:World} {ρ:Bl} {W:CW} {w:World} {o:Oper} {e e':Operand→Value} {outs:List (BX × CW)}
theorem c_ {op:BinOp} {k:IntKind} {a b:Int} {v:Value} {t:TypeId} (h:Mu op k a b=some v) (w:World):(binOp op t (.int k a) (.int k b)).run P w=.ok v w∧AT ρ v v:=by
 cases op <;> simp only [Mu] at h
 case quo =>
  rw [cond_eq_ite] at h
  split at h
  ·cases h
  ·rename_i hb
   cases h
   have:¬b=0:=by simpa using hb
   exact ⟨by simp [binOp,Op.intDiv,this],.int _ _⟩
 case rem =>
  rw [cond_eq_ite] at h
  split at h
  ·cases h
  ·rename_i hb
   cases h
   have:¬b=0:=by simpa using hb
   exact ⟨by simp [binOp,Op.intDiv,this],.int _ _⟩
 case and=>cases h; exact ⟨by simp only [binOp,ne_eq,not_true_eq_false,if_false,Op.intBits,Sem.run_pure],.int _ _⟩
 case or=>cases h; exact ⟨by simp only [binOp,ne_eq,not_true_eq_false,if_false,Op.intBits,Sem.run_pure],.int _ _⟩
 case xor=>cases h; exact ⟨by simp only [binOp,ne_eq,not_true_eq_false,if_false,Op.intBits,Sem.run_pure],.int _ _⟩
 case andNot=>cases h; exact ⟨by simp only [binOp,ne_eq,not_true_eq_false,if_false,Op.intBits,Sem.run_pure],.int _ _⟩
 all_goals first
  | (cases h; done)
  | (cases h; exact ⟨by simp [binOp,Op.intArith],.int _ _⟩)
  | (cases h; exact ⟨by simp [binOp,Op.intCmp],.bool _⟩)
theorem dA:∀ (x y:List UInt8),VZ x y=(x == y)
 | [],[]=>rfl
 | [],_::_=>rfl
 | _::_,[]=>rfl
 | a::x,b::y=>by
  have h1:Nat.beq a.toNat b.toNat=(a == b):=by
   rw [Bool.eq_iff_iff]; simp only [Nat.beq_eq,beq_iff_eq]; exact ⟨fun h=>UInt8.toNat_inj.1 h,fun h=>by rw [h]⟩
  simp only [VZ,dA x y,h1,List.cons_beq_cons]
theorem l6:∀ (x y:List UInt8),SP x y=Op.bytesLess x y
 | [],[]=>rfl
 | [],_::_=>rfl
 | _::_,[]=>rfl
 | a::x,b::y=>by
  have h1:Nat.beq a.toNat b.toNat=(a == b):=by
   rw [Bool.eq_iff_iff]; simp only [Nat.beq_eq,beq_iff_eq]; exact ⟨fun h=>UInt8.toNat_inj.1 h,fun h=>by rw [h]⟩
  have h2:Nat.blt a.toNat b.toNat=decide (a<b):=by
   rw [Bool.eq_iff_iff]; simp only [Nat.blt_eq,decide_eq_true_eq]; exact UInt8.lt_iff_toNat_lt.symm
  simp only [SP,l6 x y,h1,h2,Op.bytesLess]
theorem gI (a:ByteArray):sb a=a.toList:=(ByteArray.toList_eq a).symm
theorem P2 {a b:ByteArray}:VZ (sb a) (sb b)=(a.toList == b.toList):=by rw [dA,gI,gI]
theorem ia {a b:ByteArray}:SP (sb a) (sb b)=Op.bytesLess a.toList b.toList:=by rw [l6,gI,gI]
theorem La {a b:ByteArray} (h:VZ (sb a) (sb b)=true):a=b:=by
 rw [dA] at h; have h:a.data.toList=b.data.toList:=by simpa [sb] using h
 cases a; cases b
 exact congrArg ByteArray.mk (Array.ext' h)
theorem dB {op:BinOp} {a b:ByteArray} {v:Value} {t:TypeId} (h:uF op a b=some v) (w:World):(binOp op t (.string a) (.string b)).run P w=.ok v w∧AT ρ v v:=by
 cases op <;> simp only [uF] at h <;> first
  | (cases h; done)
  | (cases h; exact ⟨by simp only [binOp,Op.stringOp,Sem.run_pure,P2,ia],.bool _⟩)
  | skip
 rw [cond_eq_ite] at h
 split at h
 ·rename_i hle; have hle:=Nat.le_of_ble_eq_true hle
  cases h
  refine ⟨?_,.string _⟩; show (Op.stringOp .add a b).run P w=_; rw [run_string_add_sum (P:=P) w a b hle]; congr 2
 ·cases h
theorem P3 {d:TypeDesc} {t:TypeId} {x y x' y':Value} {b:Bool} (ht:P.underlying t=some d) (h:p9 d x y=some b) (hx:AT ρ x x') (hy:AT ρ y y') (w:World) (n:Nat) :
  (Op.equalIn (n+1) t x' y').run P w=.ok b w:=by
 rw [Op.equalIn]; simp only [Sem.run_bind,AG ht,Result.andThen_ok]; unfold p9 at h; split at h <;> first | (cases h; done) | skip
 all_goals
  cases h
  cases hx <;> cases hy <;> rfl
theorem Gr (t:TypeId) (x y:Value):Op.equal t x y=Op.equalIn (9999+1) t x y:=rfl
theorem Jp {t:TypeId} {xs Mv:Array Value} {off:Nat} {v:Value} (h:RD P t xs off=some v) (hx:Ap ρ xs.toList Mv.toList) (w:World):∃ v',(part t Mv off).run P w=.ok v' w∧AT ρ v v':=by
 unfold RD at h
 split at h
 ·rename_i m ha hm
  cases h
  refine ⟨.agg (Mv.extract off (off+m)),by simp only [part,Sem.run_bind,Ew ha,Result.andThen_ok,if_true,BC hm,Sem.run_pure],.ZW ?_⟩; refine ⟨by simp; have:=hx.1; simp at this; rw [this],fun i hi=>?_⟩; have hs:xs.size=Mv.size:=by simpa using hx.1
  simp at hi; have:=hx.2 (off+i) (by simp; omega); simp only [List.getD_eq_getElem?_getD,Array.getElem?_toList] at this ⊢; rw [Array.getElem?_extract,Array.getElem?_extract,if_pos (by omega),if_pos (by omega)]; exact this
 ·rename_i ha; obtain ⟨y,hy,hv⟩:=hx.get (i:=off) (x:=v) (by simpa using h); have hy:Mv[off]?=some y:=by simpa using hy
  exact ⟨y,by simp only [part,Sem.run_bind,Ew ha,Result.andThen_ok,Bool.false_eq_true,if_false,hy,Sem.run_pure],hv⟩
 ·cases h
theorem Zb {eq:TypeId→Value→Value→Option Bool} {n:Nat} (hq:∀ t x y b x' y',eq t x y=some b→AT ρ x x'→AT ρ y y'→∀ w:World,(Op.equalIn n t x' y').run P w=.ok b w)
  {xs ys Mv SS:Array Value} (hx:Ap ρ xs.toList Mv.toList) (hy:Ap ρ ys.toList SS.toList) (w:World):∀ (fs:List Field) (b:Bool),ZO P eq xs ys fs=some b→(Op.eqFields n Mv SS fs).run P w=.ok b w:=by
 intro fs
 induction fs with
 | nil=>intro b h; cases h; simp [Op.eqFields]
 | cons f fs ih =>
  intro b h; simp only [ZO,cond_eq_ite] at h
  split at h
  ·rename_i hn; have hn:f.name="_":=by simpa using hn
   simp only [Op.eqFields,hn,ne_eq,not_true_eq_false,if_false]; exact ih b h
  ·rename_i hn; have hn:f.name≠"_":=by simpa using hn
   split at h
   ·rename_i u v hu hv; obtain ⟨u',gE,ru⟩:=Jp hu hx w; obtain ⟨v',G4,rv⟩:=Jp hv hy w; simp only [Op.eqFields,if_pos hn,Sem.run_bind,gE,G4,Result.andThen_ok]
    split at h
    ·rename_i he; rw [hq _ _ _ _ _ _ he ru rv w]; simp only [Result.andThen_ok,Bool.not_true,Bool.false_eq_true,if_false]; exact ih b h
    ·rename_i he
     cases h
     rw [hq _ _ _ _ _ _ he ru rv w]; simp
    ·cases h
   ·cases h
theorem RL (t:TypeId) (x y:Operand) (a b:Value):∀ op,(op=BinOp.eql∨op=.neq)→(eqGuard op t x y a b)=(match a,b with
  | .nilIface,.nilIface =>
   if ((match x with | .const _=>true | _=>false) || (match y with | .const _=>true | _=>false))=true then pure () else do
   if ←Op.eqGuardIn Op.maxDepth t a b then unsupported (.noEntry "binop/eql: two nil values of an interface type with methods, neither of them the literal nil")
  | .agg _,.agg _=>do
   if !(←program).eqGuardType (←program).depth t then return
   if ←Op.eqGuardIn Op.maxDepth t a b then unsupported (.noEntry "binop/eql: two nil values of an interface type with methods, in a part of a struct or an array")
  | _,_=>pure ()):=by
 rintro op (rfl | rfl) <;> rfl
theorem l7 (x y:Operand):(isConst x || isConst y)=true→((match x with | .const _=>true | _=>false) || (match y with | .const _=>true | _=>false))=true:=by
 cases x <;> cases y <;> intro h <;> first | rfl | cases h
theorem EF {op:BinOp} {t:TypeId} {x y:Operand} {a b:Value} (P4:op=.eql∨op=.neq) (h1:∀ u v,¬(a=.agg u∧b=.agg v)) (h2:¬(a=.nilIface∧b=.nilIface)∨(isConst x || isConst y)=true) (w:World) :
  (eqGuard op t x y a b).run P w=.ok () w:=by
 rw [RL t x y a b op P4]
 split
 ·rcases h2 with h2 | h2
  ·exact (h2 ⟨rfl,rfl⟩).elim
  ·rw [if_pos (l7 x y h2)]; rfl
 ·exact (h1 _ _ ⟨rfl,rfl⟩).elim
 ·rfl
theorem G6 {op:BinOp} {t:TypeId} {x y:Operand} {a b:Value} (h:op≠.eql) (k:op≠.neq) (w:World):(eqGuard op t x y a b).run P w=.ok () w:=by
 cases op <;> first | rfl | exact (h rfl).elim | exact (k rfl).elim
theorem WD {d:TypeDesc} {x y x' y':Value} {b:Bool} (h:p9 d x y=some b) (hx:AT ρ x x') (hy:AT ρ y y') :
  (∀ u v,¬(x'=.agg u∧y'=.agg v))∧¬(x'=.nilIface∧y'=.nilIface):=by
 unfold p9 at h; split at h <;> first | (cases h; done) | skip
 all_goals
  cases hx <;> cases hy <;> exact ⟨fun u v h=>by simp at h,fun h=>by simp at h⟩
theorem WE {d:TypeDesc} {t:TypeId} {x y x' y':Value} {b:Bool} (h:p9 d x y=some b) (hx:AT ρ x x') (hy:AT ρ y y') :
  binOp .eql t x' y'=(do pure (.bool (←Op.equal t x' y')))∧binOp .neq t x' y'=(do pure (.bool (!(←Op.equal t x' y')))):=by
 unfold p9 at h; split at h <;> first | (cases h; done) | skip
 all_goals
  cases hx <;> cases hy <;> exact ⟨rfl,rfl⟩
theorem ib {eq:Value→Value→Option Bool} {elem:TypeId} {n m:Nat} (hq:∀ x y b x' y',eq x y=some b→AT ρ x x'→AT ρ y y'→∀ w:World,(Op.equalIn n elem x' y').run P w=.ok b w)
  {xs ys Mv SS:Array Value} (hx:Ap ρ xs.toList Mv.toList) (hy:Ap ρ ys.toList SS.toList) (w:World):∀ (k i:Nat) (b:Bool),gB P eq elem m xs ys k i=some b →
   (forIn (List.range' i k) ((none,()):Option Bool × Unit) (fun j _=>do
    if (!(←Op.equalIn n elem (←part elem Mv (j*m)) (←part elem SS (j*m))))=true then pure (ForInStep.done (some false,())) else pure (ForInStep.yield (none,()))):Sem (Option Bool × Unit)).run P w=.ok (if b then (none,()) else (some false,())) w:=by
 intro k
 induction k with
 | zero=>intro i b h; cases h; simp
 | succ k ih =>
  intro i b h; simp only [gB] at h
  split at h
  ·rename_i u v hu hv; obtain ⟨u',gE,ru⟩:=Jp hu hx w; obtain ⟨v',G4,rv⟩:=Jp hv hy w; simp only [List.range'_succ,List.forIn_cons,Sem.run_bind,gE,G4,Result.andThen_ok]
   split at h
   ·rename_i he; rw [hq _ _ _ _ _ he ru rv w]; simp only [Result.andThen_ok,Bool.not_true,Bool.false_eq_true,if_false,Sem.run_pure]; exact ih (i+1) b h
   ·rename_i he
    cases h
    rw [hq _ _ _ _ _ he ru rv w]; simp
   ·cases h
  ·cases h
theorem Nc:∀ (n:Nat) (t:TypeId) (x y:Value) (b:Bool) (x' y':Value),ZQ P n t x y=some b→AT ρ x x'→AT ρ y y'→∀ (m:Nat),n≤m→∀ w:World,(Op.equalIn m t x' y').run P w=.ok b w:=by
 intro n
 induction n with
 | zero=>intro t x y b x' y' h; cases h
 | succ n ih =>
  intro t x y b x' y' h hx hy m hm w; obtain ⟨m,rfl⟩:∃ k,m=k+1:=⟨m-1,by omega⟩
  have hm:n≤m:=by omega
  simp only [ZQ] at h
  split at h
  ·cases h
  rename_i d hd
  split at h
  ·rename_i fs xs ys; rw [cond_eq_ite] at h
   split at h
   ·cases h
   ·rename_i hs; have hs:P.stoodInHeld t=false:=by simpa using hs
    obtain ⟨Mv,rfl,rx⟩:=hx.FH; obtain ⟨SS,rfl,ry⟩:=hy.FH; have hf:P.fieldsOf t=fs:=by simp [Program.fieldsOf,hd]
    rw [run_equalIn_struct (P:=P) w m t Mv SS (by rw [hf]; exact hd) hs,hf]; exact Zb (fun t x y b x' y' h1 h2 h3 w=>ih t x y b x' y' h1 h2 h3 m hm w) rx ry w _ _ h
  ·rename_i len elem xs ys; obtain ⟨Mv,rfl,rx⟩:=hx.FH; obtain ⟨SS,rfl,ry⟩:=hy.FH
   split at h
   ·rename_i s hs; have:=ib (m:=s) (fun x y b x' y' h1 h2 h3 w=>ih elem x y b x' y' h1 h2 h3 m hm w) rx ry w len 0 b h; rw [Op.equalIn]; simp only [Sem.run_bind,AG hd,Result.andThen_ok,BC hs,Std.Legacy.Range.forIn_eq_forIn_range',Std.Legacy.Range.size,Nat.sub_zero,Nat.add_sub_cancel,Nat.div_one]; rw [this]
    cases b <;> simp
   ·cases h
  ·rename_i k1 a k2 b2; rw [cond_eq_ite] at h
   split at h
   ·rename_i hk; have hk:k1=k2:=by simpa using hk
    subst hk
    cases h; cases hx; cases hy
    rw [Op.equalIn]; simp only [Sem.run_bind,AG hd,Result.andThen_ok,if_true,Sem.run_pure]
   ·cases h
  ·rename_i a b2
   cases h; cases hx; cases hy
   rw [Op.equalIn]; simp only [Sem.run_bind,AG hd,Result.andThen_ok,Sem.run_pure,P2,beq_toListBytes]
  ·exact P3 hd h hx hy w m
theorem RM {op:BinOp} {t:TypeId} {x y:Operand} {xs ys:Array Value} (P4:op=.eql∨op=.neq) (hg:P.eqGuardType P.depth t=false) (w:World) :
  (eqGuard op t x y (.agg xs) (.agg ys)).run P w=.ok () w:=by
 rw [RL t x y _ _ op P4]; simp only [Sem.run_bind,run_program,Result.andThen_ok,hg,Bool.not_false,if_true,Sem.run_pure]
theorem WG (t:TypeId) (xs ys:Array Value):binOp .eql t (.agg xs) (.agg ys)=(do pure (.bool (←Op.equal t (.agg xs) (.agg ys))))∧binOp .neq t (.agg xs) (.agg ys)=(do pure (.bool (!(←Op.equal t (.agg xs) (.agg ys))))):=⟨rfl,rfl⟩
theorem RN {t:TypeId} {m:Array (String × TypeId)} (ht:P.underlying t=some (.interface m)) (n:Nat) (w:World):(Op.equalIn (n+1) t .nilIface .nilIface).run P w=.ok true w:=by
 rw [Op.equalIn]; simp only [Sem.run_bind,AG ht,Result.andThen_ok,Sem.run_pure]
theorem WH (t:TypeId):binOp .eql t .nilIface .nilIface=(do pure (.bool (←Op.equal t .nilIface .nilIface)))∧binOp .neq t .nilIface .nilIface=(do pure (.bool (!(←Op.equal t .nilIface .nilIface)))):=⟨rfl,rfl⟩
theorem dC {op:BinOp} {t:TypeId} {x y:Operand} {vx vy RK vy' v:Value} (h:AH P op t (isConst x || isConst y) vx vy=some v) (hx:AT ρ vx RK) (hy:AT ρ vy vy') (w:World) :
  ∃ v',(do eqGuard op t x y RK vy'; binOp op t RK vy':Sem Value).run P w=.ok v' w∧AT ρ v v':=by
 unfold AH at h
 split at h
 ·rw [cond_eq_ite] at h
  split at h
  ·cases h
  ·rename_i hb
   cases h
   cases hx; cases hy
   simp only [decide_eq_true_eq] at hb; exact ⟨_,by simp only [Sem.run_bind,G6 (op:=.shl) (by simp) (by simp),Result.andThen_ok,binOp,Op.shift,hb,if_false,Sem.run_pure],.int _ _⟩
 ·rw [cond_eq_ite] at h
  split at h
  ·cases h
  ·rename_i hb
   cases h
   cases hx; cases hy
   simp only [decide_eq_true_eq] at hb; exact ⟨_,by simp only [Sem.run_bind,G6 (op:=.shr) (by simp) (by simp),Result.andThen_ok,binOp,Op.shift,hb,if_false,Sem.run_pure],.int _ _⟩
 ·rename_i k a k' b h1 h2; rw [cond_eq_ite] at h
  split at h
  ·rename_i hk; have hk:k=k':=by simpa using hk
   subst hk
   cases hx; cases hy
   obtain ⟨hr,hv⟩:=c_ (P:=P) (ρ:=ρ) (t:=t) h w; refine ⟨v,?_,hv⟩
   have hg:(eqGuard op t x y (.int k a) (.int k b)).run P w=.ok () w:=by
    by_cases e1:op=.eql
    ·exact EF (.inl e1) (fun u v h=>by simp at h) (.inl fun h=>by simp at h) w
    ·by_cases e2:op=.neq
     ·exact EF (.inr e2) (fun u v h=>by simp at h) (.inl fun h=>by simp at h) w
     ·exact G6 e1 e2 w
   simp only [Sem.run_bind,hg,Result.andThen_ok,hr]
  ·cases h
 ·rename_i a b
  cases hx; cases hy
  obtain ⟨hr,hv⟩:=dB (P:=P) (ρ:=ρ) (t:=t) h w; refine ⟨v,?_,hv⟩
  have hg:(eqGuard op t x y (.string a) (.string b)).run P w=.ok () w:=by
   by_cases e1:op=.eql
   ·exact EF (.inl e1) (fun u v h=>by simp at h) (.inl fun h=>by simp at h) w
   ·by_cases e2:op=.neq
    ·exact EF (.inr e2) (fun u v h=>by simp at h) (.inl fun h=>by simp at h) w
    ·exact G6 e1 e2 w
  simp only [Sem.run_bind,hg,Result.andThen_ok,hr]
 ·rw [cond_eq_ite] at h
  split at h
  ·cases h
  ·rename_i hg; have hg:P.eqGuardType P.depth t=false:=by simpa using hg
   rw [Option.map_eq_some_iff] at h; obtain ⟨b,hb,rfl⟩:=h; obtain ⟨Mv,rfl,_⟩:=hx.FH; obtain ⟨SS,rfl,_⟩:=hy.FH; refine ⟨.bool b,?_,.bool _⟩; simp only [Sem.run_bind,RM (.inl rfl) hg,Result.andThen_ok,(WG t Mv SS).1,Gr,Nc 20 _ _ _ _ _ _ hb hx hy 10000 (by omega),Sem.run_pure]
 ·rw [cond_eq_ite] at h
  split at h
  ·cases h
  ·rename_i hg; have hg:P.eqGuardType P.depth t=false:=by simpa using hg
   rw [Option.map_eq_some_iff] at h; obtain ⟨b,hb,rfl⟩:=h; obtain ⟨Mv,rfl,_⟩:=hx.FH; obtain ⟨SS,rfl,_⟩:=hy.FH; refine ⟨.bool (!b),?_,.bool _⟩; simp only [Sem.run_bind,RM (.inr rfl) hg,Result.andThen_ok,(WG t Mv SS).2,Gr,Nc 20 _ _ _ _ _ _ hb hx hy 10000 (by omega),Sem.run_pure]
 ·split at h
  ·rename_i m hm; rw [cond_eq_ite] at h
   split at h
   ·rename_i hc
    cases h
    cases hx; cases hy
    refine ⟨.bool true,?_,.bool _⟩; simp only [Sem.run_bind,EF (a:=.nilIface) (b:=.nilIface) (.inl rfl) (fun u v h=>by simp at h) (.inr hc),Result.andThen_ok,(WH t).1,Gr,RN hm,Sem.run_pure]
   ·cases h
  ·cases h
 ·split at h
  ·rename_i m hm; rw [cond_eq_ite] at h
   split at h
   ·rename_i hc
    cases h
    cases hx; cases hy
    refine ⟨.bool false,?_,.bool _⟩; simp only [Sem.run_bind,EF (a:=.nilIface) (b:=.nilIface) (.inr rfl) (fun u v h=>by simp at h) (.inr hc),Result.andThen_ok,(WH t).2,Gr,RN hm,Sem.run_pure]; rfl
   ·cases h
  ·cases h
 ·split at h
  ·rename_i d hd; rw [Option.map_eq_some_iff] at h; obtain ⟨b,hb,rfl⟩:=h; obtain ⟨s1,s2⟩:=WD hb hx hy; refine ⟨.bool b,?_,.bool _⟩; simp only [Sem.run_bind,EF (.inl rfl) s1 (.inl s2),Result.andThen_ok,(WE (t:=t) hb hx hy).1,Gr,P3 hd hb hx hy,Sem.run_pure]
  ·cases h
 ·split at h
  ·rename_i d hd; rw [Option.map_eq_some_iff] at h; obtain ⟨b,hb,rfl⟩:=h; obtain ⟨s1,s2⟩:=WD hb hx hy; refine ⟨.bool (!b),?_,.bool _⟩; simp only [Sem.run_bind,EF (.inr rfl) s1 (.inl s2),Result.andThen_ok,(WE (t:=t) hb hx hy).2,Gr,P3 hd hb hx hy,Sem.run_pure]
  ·cases h
 ·cases h
theorem l8 {op:BinOp} {t t2:TypeId} {x y:Operand} (ho:o.op=.binOp op t x y t2) (h:BS P o e W=some outs) (hw:Ac P w0 ρ W w) (hx:AT ρ (e x) (e' x)) (hy:AT ρ (e y) (e' y)) :
  A6 P w0 ρ W ((execOp e' o).run P w) outs:=by
 simp only [BS,ho] at h; obtain ⟨v,hv,rfl⟩:=EL h; obtain ⟨v',hr,G4⟩:=dC hv hx hy w; refine .value hw ?_ G4; simp only [execOp,ho]; exact A_ hr
end
end Go.Ce
namespace Go.Ce
open Go.RowKit (Below)
section
variable {P:Program} {w0:World} {ρ:Bl} {W:CW} {w:World} {o:Oper} {e e':Operand→Value} {outs:List (BX × CW)}
theorem Ap.set {c c':Array Value} (h:Ap ρ c.toList c'.toList) {v v':Value} (hv:AT ρ v v') (i:Nat):Ap ρ (c.setIfInBounds i v).toList (c'.setIfInBounds i v').toList:=by
 rw [Ap.arr] at h ⊢; refine ⟨by simp [h.1],fun j hj=>?_⟩; rw [Array.size_setIfInBounds] at hj; have hj':j<c'.size:=h.1 ▸ hj; have h2:=h.2 j hj; simp only [Array.getD_eq_getD_getElem?] at h2 ⊢; rw [Array.getElem?_setIfInBounds,Array.getElem?_setIfInBounds]
 by_cases e:i=j
 ·rw [if_pos e,if_pos e,if_pos (by omega),if_pos (by omega)]; exact hv
 ·rw [if_neg e,if_neg e]; exact h2
theorem Vc (off:Nat):∀ (vs vs':List Value) (k:Nat) (c c':Array Value),Ap ρ vs vs'→Ap ρ c.toList c'.toList →
  Ap ρ ((vs.zipIdx k).foldl (fun cs (p:Value × Nat)=>cs.setIfInBounds (off+p.2) p.1) c).toList ((vs'.zipIdx k).foldl (fun cs (p:Value × Nat)=>cs.setIfInBounds (off+p.2) p.1) c').toList:=by
 intro vs
 induction vs with
 | nil =>
  intro vs' k c c' h hc
  cases vs' with
  | nil=>exact hc
  | cons y ys=>have:=h.1; simp at this
 | cons x xs ih =>
  intro vs' k c c' h hc
  cases vs' with
  | nil=>have:=h.1; simp at this
  | cons y ys =>
   simp only [List.zipIdx_cons,List.foldl_cons]; exact ih ys (k+1) _ _ h.tail (hc.set h.head _)
inductive Xa (ρ:Bl):List (Nat × Value)→List (Nat × Value)→Prop
 | nil:Xa ρ [] []
 | cons (i:Nat) {v v':Value} {xs ys:List (Nat × Value)}:AT ρ v v'→Xa ρ xs ys→Xa ρ ((i,v)::xs) ((i,v')::ys)
theorem Xa.map (xs:List (Nat × Operand)) (h:∀ p,p ∈ xs→AT ρ (e p.2) (e' p.2)):Xa ρ (xs.map fun (i,x)=>(i,e x)) (xs.map fun (i,x)=>(i,e' x)):=by
 induction xs with
 | nil=>exact .nil
 | cons p xs ih=>exact .cons _ (h p (by simp)) (ih fun q hq=>h q (by simp [hq]))
theorem Tm (place:Nat→Option (Nat × Nat)):∀ {xs ys:List (Nat × Value)},Xa ρ xs ys→∀ {c c' r:Array Value},Ap ρ c.toList c'.toList→Instr.fill place c xs=some r →
  ∃ r',Instr.fill place c' ys=some r'∧Ap ρ r.toList r'.toList:=by
 intro xs ys h
 induction h with
 | nil =>
  intro c c' r hc hr; simp only [Instr.fill,Option.some.injEq] at hr; subst hr; exact ⟨c',rfl,hc⟩
 | @cons i v v' xs ys hv hp ih =>
  intro c c' r hc hr; rw [Instr.fill] at hr ⊢
  cases lD:place i with
  | none=>rw [lD] at hr; cases hr
  | some q =>
   obtain ⟨off,size⟩:=q; rw [lD] at hr; simp only at hr ⊢; have LZ:=hv.cells; have e1:v'.cells.size=v.cells.size:=by have:=LZ.1; simpa using this.symm
   have e2:c'.size=c.size:=by have:=hc.1; simpa using this.symm
   rw [e1,e2]
   split at hr
   ·cases hr
   ·rename_i BJ; rw [if_neg BJ]; refine ih ?_ hr; rw [←Array.foldl_toList,←Array.foldl_toList,Array.toList_zipIdx,Array.toList_zipIdx]; exact Vc off _ _ 0 _ _ LZ hc
theorem Zc {fs:List Field} {pl:List (Nat × Nat)} (h:(fs.mapM fun f=>(Db P f.type).map fun s=>(f.offset,s))=some pl) (w:World) :
  (fs.mapM fun f=>(do pure (f.offset,←sizeOf f.type):Sem (Nat × Nat))).run P w=.ok pl w:=by
 induction fs generalizing pl with
 | nil=>simp only [List.mapM_nil,Option.pure_def,Option.some.injEq] at h; subst h; simp
 | cons f fs ih =>
  rw [List.mapM_cons] at h
  cases hs:Db P f.type with
  | none=>simp [hs] at h
  | some s =>
   simp only [hs,Option.map_some,Option.bind_eq_bind,Option.bind_some] at h
   cases hr:(fs.mapM fun f=>(Db P f.type).map fun s=>(f.offset,s)) with
   | none=>simp [hr] at h
   | some pl2 =>
    simp only [hr,Option.bind_some,Option.pure_def,Option.some.injEq] at h; subst h; rw [List.mapM_cons]; simp only [Sem.run_bind,BC hs,Result.andThen_ok,Sem.run_pure,ih hr]
theorem l_ (hz:ZP P) {t:TypeId} {parts:Array (Nat × Operand)} (ho:o.op=.build t parts) (h:BS P o e W=some outs) (hw:Ac P w0 ρ W w) (hp:∀ p,p ∈ parts.toList→AT ρ (e p.2) (e' p.2)) :
  A6 P w0 ρ W ((execOp e' o).run P w) outs:=by
 simp only [BS,ho] at h; obtain ⟨v,hv,rfl⟩:=EL h
 split at hv
 ·rename_i z fields KC ht
  split at hv
  ·rename_i NZ lD; rw [Option.map_eq_some_iff] at hv; obtain ⟨r,hr,rfl⟩:=hv; obtain ⟨r',Ij,B0⟩:=Tm _ (Xa.map (e:=e) (e':=e') parts.toList hp) (hz.rel KC ρ).cells hr; refine .value hw (v':=.agg r') ?_ (.ZW B0); simp only [execOp,ho]; refine A_ ?_
   have hm:(fields.mapM fun f=>(do pure (f.offset,←sizeOf f.type):Sem (Nat × Nat))).run P w=.ok NZ.toArray w:=by
    have:=Zc lD w; rw [←Array.toArray_toList (xs:=fields),List.mapM_toArray]; simp only [Sem.run_map,this,Result.andThen_ok]
   simp only [Instr.build,Sem.run_bind,BZ KC,Result.andThen_ok,AG ht,hm]; have:(fun i:Nat=>NZ.toArray[i]?)=(fun i:Nat=>NZ[i]?):=by funext i; simp
   rw [this,Array.toList_map,Ij]; rfl
  ·cases hv
 ·rename_i z n elem KC ht
  split at hv
  ·rename_i s hs; rw [Option.map_eq_some_iff] at hv; obtain ⟨r,hr,rfl⟩:=hv; obtain ⟨r',Ij,B0⟩:=Tm _ (Xa.map (e:=e) (e':=e') parts.toList hp) (hz.rel KC ρ).cells hr; refine .value hw (v':=.agg r') ?_ (.ZW B0); simp only [execOp,ho]; refine A_ ?_; simp only [Instr.build,Sem.run_bind,BZ KC,Result.andThen_ok,AG ht,BC hs]; rw [Array.toList_map,Ij]; rfl
  ·cases hv
 ·cases hv
theorem MM (hz:ZP P) {t:TypeId} {z:Value} (KC:Gp P t=some z) (n:Nat) (hn:n=0∨0<z.cells.size) (k:Nat) (hk:k<n) :
  AT ρ (cellAt .nil z.cells k) (((Array.range n).map (z.cells[· % z.cells.size]!)).getD k undef):=by
 have Nb:0<z.cells.size:=by omega
 have A0:k % z.cells.size<z.cells.size:=Nat.mod_lt _ Nb; have h1:cellAt .nil z.cells k=z.cells.getD (k % z.cells.size) undef:=rfl
 have h2:((Array.range n).map (z.cells[· % z.cells.size]!)).getD k undef=z.cells.getD (k % z.cells.size) undef:=by
  simp [Array.getD_eq_getD_getElem?,hk,A0]
 rw [h1,h2]; have hc:=(hz.rel KC ρ).cells.2 (k % z.cells.size) (by simpa using A0)
 simpa [Array.getD_eq_getD_getElem?,List.getD_eq_getElem?_getD] using hc
theorem Vd (hz:ZP P) {t:TypeId} {len:Nat} {parts:Array (Nat × Operand)} (ho:o.op=.buildSlice t len parts) (h:BS P o e W=some outs) (hw:Ac P w0 ρ W w) (hp:∀ p,p ∈ parts.toList→AT ρ (e p.2) (e' p.2)) :
  A6 P w0 ρ W ((execOp e' o).run P w) outs:=by
 simp only [BS,ho] at h; obtain ⟨v,W1,hv,rfl⟩:=ML h
 split at hv
 ·rename_i elem ht; obtain ⟨s,hs,hv⟩:=Af hv; obtain ⟨z,KC,hv⟩:=Af hv; rw [cond_eq_ite] at hv
  split at hv
  ·rename_i BJ; simp only [Bool.and_eq_true] at BJ; have hle:=Nat.le_of_ble_eq_true BJ.1; have HD:=Nat.eq_of_beq_eq_true BJ.2
   split at hv
   ·rename_i cs AAK; simp only [Option.some.injEq,Prod.mk.injEq] at hv; obtain ⟨rfl,rfl⟩:=hv
    have hzero:len*s=0∨0<z.cells.size:=by
     rw [HD]
     rcases Nat.eq_zero_or_pos s with h0 | h0
     ·left; rw [h0]; rfl
     ·exact .inr h0
    have AAL:Ap ρ ((BW .nil z.cells (len*s) 0).toArray).toList ((Array.range (len*s)).map (z.cells[· % z.cells.size]!)).toList:=by
     refine ⟨by simp [Aw],fun i hi=>?_⟩; have hi:i<len*s:=by simpa [Aw] using hi
     have:=MM (ρ:=ρ) hz KC (len*s) hzero i hi; have e1:=Fi .nil z.cells (len*s) 0 i hi; rw [Nat.zero_add] at e1; simp only [e1]; rw [Array.getD_eq_getD_getElem?,←Array.getElem?_toList] at this; rw [List.getD_eq_getElem?_getD]; exact this
    obtain ⟨r',Ij,B0⟩:=Tm _ (Xa.map (e:=e) (e':=e') parts.toList hp) AAL AAK
    obtain ⟨ρ',C',_,Fy,ha⟩:=OJ hw (c:=Tr.nil.Ah 0 cs.toList) (z:=#[]) (n:=cs.size) (c':=r') hs (by simpa using B0.1.symm) (fun k hk=>by
     rw [C_ _ _ _ (by simpa using hk)]; have:=B0.2 k (by simpa using hk)
     simpa [Array.getD_eq_getD_getElem?,List.getD_eq_getElem?_getD] using this)
    refine ⟨_,_,ρ',List.mem_singleton.2 rfl,C',.value (w:={ w with heap:=w.heap.push (.cells r' elem) }) ?_ (.slice _ ha (.inl rfl)) Fy⟩; simp only [execOp,ho]; refine A_ ?_; have dD:¬len*s>2 ^ 24:=by omega
    have dE:∀ f g:Nat→Value,len*s=0→(Array.range (len*s)).map f=(Array.range (len*s)).map g:=fun f g h0=>by simp [h0]
    simp only [Instr.buildSlice,Sem.run_bind,AG ht,Result.andThen_ok,BC hs]; rw [if_neg dD]
    by_cases h0:len*s=0
    ·rw [if_pos h0]; simp only [Sem.run_bind,Sem.run_pure,Result.andThen_ok]; rw [dE _ (z.cells[· % z.cells.size]!) h0,Array.toList_map,Ij]; simp [newRow]
    ·rw [if_neg h0]; simp only [Sem.run_bind,BZ KC,Sem.run_pure,Result.andThen_ok]; rw [Array.toList_map,Ij]; simp [newRow]
   ·cases hv
  ·cases hv
 ·cases hv
theorem NA {t elem:TypeId} {k1 k2:IntKind} {ln cp:Int} {s:Nat} {z:Value} (ht:P.underlying t=some (.slice elem)) (hs:Db P elem=some s) (KC:Gp P elem=some z) (c1:0≤ln) (c2:ln≤cp) (c3:cp≤2000000)
  (c4:(P.info? elem).map (·.bytes) |>.getD 0 |> (·≤1024)) (w:World) :
  (Instr.makeSlice t (.int k1 ln) (.int k2 cp)).run P w=.ok (.slice (some ⟨w.heap.size,0,none⟩) ln.toNat cp.toNat) { w with heap:=w.heap.push (.cells ((Array.range (cp.toNat*s)).map (z.cells[· % z.cells.size]!)) elem) }:=by
 obtain ⟨info,Zd⟩:∃ i,P.info? elem=some i:=by
  unfold Db at hs
  cases hi:P.info? elem with
  | none=>simp [hi] at hs
  | some i=>exact ⟨i,rfl⟩
 have hb:info.bytes≤1024:=by simpa [Zd] using c4
 have w1:IntKind.i64.wrap ln=ln:=by unfold IntKind.wrap; simp [IntKind.bits,IntKind.signed]; omega
 have w2:IntKind.i64.wrap cp=cp:=by unfold IntKind.wrap; simp [IntKind.bits,IntKind.signed]; omega
 have dD:(info.bytes:Int)*cp≤2 ^ 48:=by
  have h1:(info.bytes:Int)*cp≤1024*cp:=Int.mul_le_mul_of_nonneg_right (by omega) (by omega); omega
 have t1:(decide (cp<0) || decide ((info.bytes:Int)*cp>2 ^ 48))=false:=by simp; omega
 simp only [Instr.makeSlice,Sem.run_bind,AG ht,Result.andThen_ok,asInt,asIntOf,Sem.run_pure,G5 Zd,w1,w2,Bool.or_eq_true,decide_eq_true_eq]; rw [if_neg (by omega)]; simp only [Sem.run_bind,run_askRoom,Result.andThen_ok,BC hs]; have dE:∀ f g:Nat→Value,cp.toNat*s=0→(Array.range (cp.toNat*s)).map f=(Array.range (cp.toNat*s)).map g:=fun f g h0=>by simp [h0]
 by_cases h0:cp.toNat*s=0
 ·rw [if_pos h0]; simp only [Sem.run_bind,Sem.run_pure,Result.andThen_ok]; rw [dE _ (z.cells[· % z.cells.size]!) h0]; simp [newRow]
 ·rw [if_neg h0]; simp only [Sem.run_bind,BZ KC,Sem.run_pure,Result.andThen_ok,newRow,run_newObj]
theorem Xb (hz:ZP P) {t:TypeId} {l c:Operand} (ho:o.op=.makeSlice t l c) (h:BS P o e W=some outs) (hw:Ac P w0 ρ W w) (hl:AT ρ (e l) (e' l)) (hc:AT ρ (e c) (e' c)) :
  A6 P w0 ρ W ((execOp e' o).run P w) outs:=by
 simp only [BS,ho] at h; obtain ⟨v,W1,hv,rfl⟩:=ML h
 split at hv
 ·rename_i elem k1 ln k2 cp ht h1 h2; rw [h1] at hl; rw [h2] at hc; generalize e1:e' l=vl at hl; generalize e2:e' c=vc at hc
  cases hl
  cases hc
  obtain ⟨s,hs,hv⟩:=Af hv; obtain ⟨z,KC,hv⟩:=Af hv; rw [cond_eq_ite] at hv
  split at hv
  ·rename_i BJ; simp only [Bool.and_eq_true,decide_eq_true_eq] at BJ; obtain ⟨⟨⟨⟨⟨c1,c2⟩,c3⟩,c4⟩,c5⟩,c6⟩:=BJ; have c4:=Nat.le_of_ble_eq_true c4; have c5:=Nat.eq_of_beq_eq_true c5; have c6:0<s:=by have:=Nat.le_of_ble_eq_true c6; omega
   simp only [Option.some.injEq,Prod.mk.injEq] at hv; obtain ⟨rfl,rfl⟩:=hv; obtain ⟨ρ',C',_,Fy,ha⟩:=OJ hw (c:=.nil) (z:=z.cells) (n:=cp.toNat*s) (c':=(Array.range (cp.toNat*s)).map (z.cells[· % z.cells.size]!)) hs (by simp) (fun k hk=>MM hz KC _ (.inr (by omega)) k hk); refine ⟨_,_,ρ',List.mem_singleton.2 rfl,C',.value (w:={ w with heap:=w.heap.push (.cells ((Array.range (cp.toNat*s)).map (z.cells[· % z.cells.size]!)) elem) }) ?_ (.slice _ ha (.inl rfl)) Fy⟩; simp only [execOp,ho,e1,e2]; exact A_ (NA ht hs KC c1 c2 c3 c4 w)
  ·cases hv
 ·cases hv
end
end Go.Ce
namespace Go.Ce
open Go.RowKit (Below)
section
variable {P:Program} {w0:World} {ρ:Bl} {W:CW} {w:World} {o:Oper} {e e':Operand→Value} {outs:List (BX × CW)}
theorem Ze {f:FuncId} {first cap:Array Operand} (ho:o.op=.makeFunc (.func f) first cap) (h:BS P o e W=some outs) (hw:Ac P w0 ρ W w)
  (hf:∀ x,x ∈ first.toList→AT ρ (e x) (e' x)) (hc:∀ x,x ∈ cap.toList→AT ρ (e x) (e' x)):A6 P w0 ρ W ((execOp e' o).run P w) outs:=by
 simp only [BS,ho] at h
 cases h
 have h1:=Ap.arr.1 (by simpa using Ap.map (ρ:=ρ) first.toList e e' hf:Ap ρ (first.map e).toList (first.map e').toList); have h2:=Ap.arr.1 (by simpa using Ap.map (ρ:=ρ) cap.toList e e' hc:Ap ρ (cap.map e).toList (cap.map e').toList); refine .value hw ?_ (.func (.func f) h1.1 h1.2 h2.1 h2.2); simp only [execOp,ho]; exact A_ (by simp [Instr.makeFunc])
theorem dF {t:TypeId} (ho:o.op=.makeMap t none) (h:BS P o e W=some outs) (hw:Ac P w0 ρ W w):A6 P w0 ρ W ((execOp e' o).run P w) outs:=by
 simp only [BS,ho] at h
 cases h
 obtain ⟨C',Fy⟩:=hw.new (o:=.map [] 0) (o':=.map #[] 0) ⟨w.heap.size,0,0,0,0⟩ rfl (.map rfl trivial); refine ⟨_,_,_,List.mem_singleton.2 rfl,C',.value (v':=.map (some w.heap.size)) (w:={ w with heap:=w.heap.push (.map #[] 0) }) ?_ (.map ⟨⟨w.heap.size,0,0,0,0⟩,by simp,rfl⟩) Fy⟩; simp only [execOp,ho]; exact A_ (by simp [Instr.makeMap])
theorem Xc {t:TypeId} {x:Operand} {i:Nat} (ho:o.op=.fieldAddr t x i) (h:BS P o e W=some outs) (hw:Ac P w0 ρ W w) (hx:AT ρ (e x) (e' x)) :
  A6 P w0 ρ W ((execOp e' o).run P w) outs:=by
 simp only [BS,ho] at h; obtain ⟨v,hv,rfl⟩:=EL h
 split at hv
 ·rename_i fs a ht hc; rw [hc] at hx; generalize Ei:e' x=RK at hx
  cases hx with
  | @ptr _ a' ha =>
   split at hv
   ·rename_i fd ss
    split at hv
    ·rename_i m hm; rw [cond_eq_ite] at hv
     split at hv
     ·cases hv
     ·rename_i gF; have gF:m≠0:=by simpa using gF
      cases hv
      refine .value hw (v':=.pointer (some (a'.add fd.offset))) ?_ (.ptr (OH ha _)); simp only [execOp,ho,Ei]; refine A_ ?_; simp only [Instr.fieldAt,Sem.run_bind,AG ht,Result.andThen_ok,ss,Instr.sureAddr,Sem.run_pure,fieldPlace,BC hm,if_neg gF]
    ·cases hv
   ·cases hv
 ·cases hv
theorem Ap.extract {c c':Array Value} (h:Ap ρ c.toList c'.toList) (i j:Nat):Ap ρ (c.extract i j).toList (c'.extract i j).toList:=by
 rw [Ap.arr] at h ⊢; refine ⟨by simp [h.1],fun k hk=>?_⟩; have hk:k<min j c.size-i:=by simpa using hk
 have h2:=h.2 (i+k) (by omega); have l1:i+k<c.size:=by omega
 have l2:i+k<c'.size:=by omega
 simp only [Array.getD_eq_getD_getElem?] at h2 ⊢; have g1:(c.extract i j)[k]?=c[i+k]?:=by rw [Array.getElem?_extract,if_pos (by omega)]
 have g2:(c'.extract i j)[k]?=c'[i+k]?:=by rw [Array.getElem?_extract,if_pos (by omega)]
 rw [g1,g2]; exact h2
theorem Zf {t:TypeId} {cs VR:Array Value} {off:Nat} {v:Value} (hl:Ap ρ cs.toList VR.toList)
  (h:(agg? P t=some true∧∃ m,Db P t=some m∧v=.agg (cs.extract off (off+m)))∨(agg? P t=some false∧cs[off]?=some v)) :
  ∃ v',(part t VR off).run P w=.ok v' w∧AT ρ v v':=by
 rcases h with ⟨ha,m,hm,rfl⟩ | ⟨ha,hv⟩
 ·refine ⟨.agg (VR.extract off (off+m)),?_,.ZW (hl.extract _ _)⟩; simp only [part,Sem.run_bind,Ew ha,Result.andThen_ok,if_true,BC hm,Sem.run_pure]
 ·obtain ⟨y,hy,hr⟩:=hl.get (x:=v) (i:=off) (by simpa using hv); have hy:VR[off]?=some y:=by simpa using hy
  refine ⟨y,?_,hr⟩; simp only [part,Sem.run_bind,Ew ha,Result.andThen_ok,Bool.false_eq_true,if_false,hy,Sem.run_pure]
theorem mA {t:TypeId} {x:Operand} {i:Nat} (ho:o.op=.field t x i) (h:BS P o e W=some outs) (hw:Ac P w0 ρ W w) (hx:AT ρ (e x) (e' x)) :
  A6 P w0 ρ W ((execOp e' o).run P w) outs:=by
 simp only [BS,ho] at h; obtain ⟨v,hv,rfl⟩:=EL h
 split at hv
 ·rename_i fs cs ht hc; rw [hc] at hx; generalize Ei:e' x=RK at hx; obtain ⟨VR,rfl,hl⟩:=hx.FH
  split at hv
  ·rename_i fd ss
   obtain ⟨v',hr,G4⟩:=Zf (P:=P) (w:=w) (t:=fd.type) (off:=fd.offset) (v:=v) hl (by
    split at hv
    ·rename_i m ha hm
     cases hv
     exact .inl ⟨ha,m,hm,rfl⟩
    ·rename_i ha; exact .inr ⟨ha,hv⟩
    ·cases hv)
   refine .value hw ?_ G4; simp only [execOp,ho,Ei]; refine A_ ?_; simp only [Instr.field,Sem.run_bind,AG ht,Result.andThen_ok,ss,asAgg,Sem.run_pure,hr]
  ·cases hv
 ·cases hv
theorem Xd {t:TypeId} {x ix:Operand} (ho:o.op=.indexAddr t x ix) (h:BS P o e W=some outs) (hw:Ac P w0 ρ W w) (hx:AT ρ (e x) (e' x)) (hi:AT ρ (e ix) (e' ix)) :
  A6 P w0 ρ W ((execOp e' o).run P w) outs:=by
 simp only [BS,ho] at h; obtain ⟨v,hv,rfl⟩:=EL h
 split at hv
 ·rename_i k i ic; rw [ic] at hi; generalize Ei:e' ix=vi' at hi
  cases hi
  split at hv
  ·rename_i len elem a ht hc; rw [hc] at hx; generalize N8:e' x=RK at hx
   cases hx with
   | @ptr _ a' ha =>
    obtain ⟨s,hs,hv⟩:=Af hv; rw [cond_eq_ite] at hv
    split at hv
    ·rename_i BJ; simp only [Bool.and_eq_true,decide_eq_true_eq] at BJ
     cases hv
     refine .value hw (v':=.pointer (some (a'.add (i.toNat*s)))) ?_ (.ptr (OH ha _)); simp only [execOp,ho,Ei,N8]; refine A_ ?_; simp only [Instr.indexAt,Sem.run_bind,asIntOf,Sem.run_pure,Result.andThen_ok,AG ht,Instr.sureAddr,if_pos BJ,BC hs]
    ·cases hv
  ·rename_i elem a len cp ht hc; rw [hc] at hx; generalize N8:e' x=RK at hx
   have:∃ a' c',RK=.slice (some a') len c'∧(len=0∨KG ρ a a'):=by
    cases hx with
    | slice _ ha _=>exact ⟨_,_,rfl,.inr ha⟩
    | JL _ _ _ _ _=>exact ⟨_,_,rfl,.inl rfl⟩
    | Hz _=>exact ⟨_,_,rfl,.inl rfl⟩
   obtain ⟨a',c',rfl,pS⟩:=this; obtain ⟨s,hs,hv⟩:=Af hv; rw [cond_eq_ite] at hv
   split at hv
   ·rename_i BJ; simp only [Bool.and_eq_true,decide_eq_true_eq] at BJ
    cases hv
    have ha:KG ρ a a':=pS.resolve_left (by omega); refine .value hw (v':=.pointer (some (a'.add (i.toNat*s)))) ?_ (.ptr (OH ha _)); simp only [execOp,ho,Ei,N8]; refine A_ ?_; simp only [Instr.indexAt,Sem.run_bind,asIntOf,Sem.run_pure,Result.andThen_ok,AG ht,if_pos BJ,BC hs]
   ·cases hv
  ·cases hv
 ·cases hv
theorem mB {t:TypeId} {x ix:Operand} (ho:o.op=.index t x ix) (h:BS P o e W=some outs) (hw:Ac P w0 ρ W w) (hx:AT ρ (e x) (e' x)) (hi:AT ρ (e ix) (e' ix)) :
  A6 P w0 ρ W ((execOp e' o).run P w) outs:=by
 simp only [BS,ho] at h; obtain ⟨v,hv,rfl⟩:=EL h
 split at hv
 ·rename_i k i ic; rw [ic] at hi; generalize Ei:e' ix=vi' at hi
  cases hi
  split at hv
  ·rename_i len elem cs ht hc; rw [hc] at hx; generalize N8:e' x=RK at hx; obtain ⟨VR,rfl,hl⟩:=hx.FH; rw [cond_eq_ite] at hv
   split at hv
   ·rename_i BJ; simp only [Bool.and_eq_true,decide_eq_true_eq] at BJ
    have:∃ m,Db P elem=some m∧((agg? P elem=some true∧∃ n,Db P elem=some n∧v=.agg (cs.extract (i.toNat*m) (i.toNat*m+n)))∨(agg? P elem=some false∧cs[i.toNat*m]?=some v)):=by
     split at hv
     ·rename_i m ha hm
      cases hv
      exact ⟨m,hm,.inl ⟨ha,m,hm,rfl⟩⟩
     ·rename_i m ha hm; exact ⟨m,hm,.inr ⟨ha,hv⟩⟩
     ·cases hv
    obtain ⟨m,hm,hp⟩:=this; obtain ⟨v',hr,G4⟩:=Zf (P:=P) (w:=w) hl hp; refine .value hw ?_ G4; simp only [execOp,ho,Ei,N8]; refine A_ ?_; simp only [Instr.index,Sem.run_bind,asIntOf,Sem.run_pure,Result.andThen_ok,AG ht,if_pos BJ,BC hm,hr]
   ·cases hv
  ·rename_i s ht hc; rw [hc] at hx; generalize N8:e' x=RK at hx
   cases hx
   rw [cond_eq_ite] at hv
   split at hv
   ·rename_i BJ; have BJ:0≤i:=by simpa using BJ
    cases hs:s[i.toNat]? with
    | none=>rw [hs] at hv; cases hv
    | some b =>
     rw [hs] at hv
     cases hv
     refine .value hw ?_ (.int _ _); simp only [execOp,ho,Ei,N8]; refine A_ ?_; simp only [Instr.index,Sem.run_bind,asIntOf,Sem.run_pure,Result.andThen_ok,AG ht,if_pos BJ,hs]
   ·cases hv
  ·cases hv
 ·cases hv
theorem mC {t:TypeId} {x:Operand} {lo hi mx:Option Operand} (ho:o.op=.slice t x lo hi mx) (h:BS P o e W=some outs) (hw:Ac P w0 ρ W w) (hx:AT ρ (e x) (e' x))
  (hl:∀ y,lo=some y→AT ρ (e y) (e' y)) (hh:∀ y,hi=some y→AT ρ (e y) (e' y)) (hm:∀ y,mx=some y→AT ρ (e y) (e' y)):A6 P w0 ρ W ((execOp e' o).run P w) outs:=by
 simp only [BS,ho] at h; obtain ⟨v,hv,rfl⟩:=EL h; have rl:=K_.map (ρ:=ρ) (f:=e) (g:=e') lo hl; have rh:=K_.map (ρ:=ρ) (f:=e) (g:=e') hi hh; have rm:=K_.map (ρ:=ρ) (f:=e) (g:=e') mx hm
 split at hv
 ·rename_i s ht hc; rw [hc] at hx; generalize N8:e' x=RK at hx
  cases hx
  obtain ⟨h',hh',hv⟩:=Af hv; obtain ⟨l',Xe,hv⟩:=Af hv; rw [cond_eq_ite] at hv
  split at hv
  ·cases hv
  ·rename_i lC
   cases hv
   have lC:mx=none:=by cases mx <;> simp_all
   subst lC; have hb:=KI (P:=P) (ρ:=ρ) (mx:=none) (uP:=none) (cap:=s.size) (cap':=s.size) (m:=s.size) false rfl hh' Xe rl rh trivial (Nat.le_refl _) (by simp); obtain ⟨m',hr,_,_⟩:=hb; refine .value hw ?_ (.string _); simp only [execOp,ho,N8]; refine A_ ?_; simp only [Instr.sliceAt,Sem.run_bind,AG ht,Result.andThen_ok,Instr.slice,Option.map_none,Option.isSome_none,Bool.false_eq_true,if_false,Sem.run_pure,hr]
 ·obtain ⟨v',hr,G4⟩:=XZ hw hv hx rl rh rm; refine .value hw ?_ G4; simp only [execOp,ho]; exact A_ hr
theorem Ve (hz:ZP P) {x:Operand} {xt t:TypeId} {ok:Bool} (ho:o.op=.typeAssert x xt t ok) (h:BS P o e W=some outs) (hw:Ac P w0 ρ W w) (hx:AT ρ (e x) (e' x)) :
  A6 P w0 ρ W ((execOp e' o).run P w) outs:=by
 simp only [BS,ho] at h; obtain ⟨v,hv,rfl⟩:=EL h
 split at hv
 ·cases hv
 ·rename_i d u y h1 h2 hce; have hc:P.underlying t=some d:=by first | exact h1 | exact h2
  have ht:∀ m,d=.interface m→False:=by first | exact h1 | exact h2
  rw [hce] at hx; generalize N8:e' x=RK at hx
  cases hx with
  | @iface _ _ y' hy =>
   rw [cond_eq_ite] at hv; have EB:∀ m,d≠.interface m:=fun m hm=>ht m hm
   have run:∀ {v':Value},((t=u∧v'=(if ok=true then .tuple #[y',.bool true] else y'))∨(t≠u∧ok=true∧∃ z,Gp P t=some z∧v'=.tuple #[z,.bool false])) →
     (Instr.typeAssert (.iface u y') xt t ok).run P w=.ok v' w:=by
    intro v' hr; simp only [Instr.typeAssert,Sem.run_bind,AG hc,Result.andThen_ok]
    rcases hr with ⟨cJ,rfl⟩ | ⟨cJ,rfl,z,KC,rfl⟩
    ·cases d <;> first | (exact (EB _ rfl).elim) | (simp [cJ])
    ·cases d <;> first | (exact (EB _ rfl).elim) | (simp [Ne.symm cJ,BZ KC])
   split at hv
   ·rename_i cJ; have cJ:t=u:=by simpa using cJ
    cases hv
    refine .value hw (v':=if ok=true then .tuple #[y',.bool true] else y') ?_ ?_
    ·simp only [execOp,ho,N8]; exact A_ (run (.inl ⟨cJ,rfl⟩))
    ·cases ok
     ·simpa using hy
     ·simp only [cond_true,if_true]; exact .tuple' (.cons hy (.cons (.bool _) (.nil _)))
   ·rename_i cJ; have cJ:¬t=u:=by simpa using cJ
    cases ok
    ·cases hv
    ·simp only [cond_true] at hv; rw [Option.map_eq_some_iff] at hv; obtain ⟨z,KC,rfl⟩:=hv; refine .value hw (v':=.tuple #[z,.bool false]) ?_ (.tuple' (.cons (hz.rel KC ρ) (.cons (.bool _) (.nil _)))); simp only [execOp,ho,N8]; exact A_ (run (.inr ⟨cJ,rfl,z,KC,rfl⟩))
 ·cases hv
theorem mD {x:Operand} (ho:o.op=.panic x) (h:BS P o e W=some outs) (hw:Ac P w0 ρ W w) (hx:AT ρ (e x) (e' x)):A6 P w0 ρ W ((execOp e' o).run P w) outs:=by
 simp only [BS,ho] at h
 split at h
 ·rename_i t y hc
  cases h
  rw [hc] at hx; generalize N8:e' x=RK at hx
  cases hx with
  | @iface _ _ y' hy =>
   refine ⟨_,_,ρ,List.mem_singleton.2 rfl,.refl _,.panic (v':=.iface t y') (w:=w) ?_ (.iface _ hy) hw⟩; simp [execOp,ho,N8,Instr.panic]
 ·cases h
theorem mE {c:Call} {f:Operand} (ho:o.op=.defer c) (hf:c.callee=.value f) (h:BS P o e W=some outs) (hw:Ac P w0 ρ W w) (hx:AT ρ (e f) (e' f))
  (ha:∀ x,x ∈ c.args.toList→AT ρ (e x) (e' x)):A6 P w0 ρ W ((execOp e' o).run P w) outs:=by
 simp only [BS,ho,hf] at h; have C4:Ap ρ (c.args.map e).toList (c.args.map e').toList:=by simpa using Ap.map (ρ:=ρ) c.args.toList e e' ha
 split at h
 ·rename_i fn first cap hc
  cases h
  rw [hc] at hx; generalize N8:e' f=RK at hx
  cases hx with
  | @func _ f' _ x' _ y' Xf h1 h2 h3 h4 =>
   cases Xf
   refine ⟨_,_,ρ,List.mem_singleton.2 rfl,.refl _,.defer (w:=w) (d':={ target:=.fn (.func fn) y',args:=x'++c.args.map e' }) ?_ (.fn ?_ ?_) hw⟩
   ·simp only [execOp,ho,resolve,hf,N8,Deferred.ofValue,Sem.run_bind,Sem.run_pure,Result.andThen_ok]
   ·exact Ap.arr.2 ⟨h3,h4⟩
   ·have e1:=Ap.arr.2 ⟨h1,h2⟩
    simpa using e1.append C4
 ·cases h
end
end Go.Ce
namespace Go.Ce
open Go.RowKit (Below)
section
variable {P:Program} {w0:World} {ρ:Bl} {W:CW} {w:World} {o:Oper} {e e':Operand→Value} {outs:List (BX × CW)}
theorem As {r:Nat} {u:Obj} (h:w.heap[r]?=some u) (hc:∀ c e z,u≠.cells c e z):(getObj r).run P w=.ok u w:=by
 cases u <;> first | exact (hc _ _ _ rfl).elim | simp [getObj,Sem.run,h]
theorem DB {r:Nat} {u:Obj} (h:w.heap[r]?=some u) (hc:∀ c e z,u≠.cells c e z) (v:Obj):(setObj r v).run P w=.ok () { w with heap:=w.heap.setIfInBounds r v }:=by
 cases u <;> first | exact (hc _ _ _ rfl).elim | simp [setObj,Sem.run,h]
theorem Zg {d:TypeDesc} {k k' v v':Value} {b:Bool} (h:Instr.sameNow d k v=some b) (hk:AT ρ k k') (hv:AT ρ v v'):Instr.sameNow d k' v'=some b:=by
 unfold Instr.sameNow at h ⊢; split at h <;> first | (cases h; done) | skip
 all_goals
  cases hk
  cases hv
  exact h
theorem Zh {d:TypeDesc} {k k':Value} (hk:AT ρ k k'):∀ {es CF:List MapEntry},Bp ρ es CF→∀ {i:Nat} {r:Option (Nat × Value)},Instr.findNow d k es i=some r →
  ∃ r',Instr.findNow d k' CF i=some r'∧((r=none∧r'=none)∨∃ j v v' en,r=some (j,v)∧r'=some (j,v')∧AT ρ v v'∧i≤j∧CF[j-i]?=some en∧Instr.sameNow d k' en.key=some true):=by
 intro es
 induction es with
 | nil =>
  intro CF mF i r h
  cases CF with
  | nil=>simp only [Instr.findNow,Option.some.injEq] at h; subst h; exact ⟨none,rfl,.inl ⟨rfl,rfl⟩⟩
  | cons _ _=>exact mF.elim
 | cons en es ih =>
  intro CF mF i r h
  cases CF with
  | nil=>exact mF.elim
  | cons Y8 CF =>
   obtain ⟨h1,h2⟩:=mF
   cases h1 with
   | @mk k1 v1 zg lE born hkk Xg =>
    rw [Instr.findNow] at h ⊢; simp only at h ⊢
    cases hs:Instr.sameNow d k k1 with
    | none=>rw [hs] at h; cases h
    | some b =>
     have KB:=Zg hs hk hkk; rw [hs] at h; rw [KB]
     cases b with
     | true =>
      cases h
      exact ⟨_,rfl,.inr ⟨i,v1,lE,⟨zg,lE,born⟩,rfl,rfl,Xg,Nat.le_refl _,by simp,KB⟩⟩
     | false =>
      obtain ⟨r',Ij,A9⟩:=ih h2 h; refine ⟨r',Ij,A9.imp id ?_⟩; rintro ⟨j,v,v',en2,e1,e2,e3,e4,e5,e6⟩; refine ⟨j,v,v',en2,e1,e2,e3,by omega,?_,e6⟩; have:j-i=(j-(i+1))+1:=by omega
      rw [this]; simpa using e5
theorem Zi {d:TypeDesc} {k v:Value} (h:Instr.sameNow d k v=some true):Instr.sameBits 10000 v k=true:=by
 unfold Instr.sameNow at h
 split at h <;> first | (cases h; done) | skip
 ·rename_i k1 a k2 b
  split at h
  ·rename_i hk; subst hk; have:a=b:=by simpa using h
   subst this; simp [Instr.sameBits]
  ·cases h
 ·rename_i a b; have h:(a == b)=true:=by simpa using h
  have:a=b:=by
   cases a; cases b
   have h:(_ == _)=true:=h; exact congrArg ByteArray.mk (Array.eq_of_isEqv _ _ (show Array.isEqv _ _ (fun a b=>a == b)=true from h))
  subst this; exact h
 ·rename_i a b; have:a=b:=by simpa using h
  subst this; simp [Instr.sameBits]
theorem Xh {b:Bool} {t:TypeId} {d:TypeDesc} {k:Value} (hu:P.underlying t=some d) (hs:IE d=true) (w:World):(Instr.checkKey b 10000 t k).run P w=.ok () w:=by
 rw [Instr.checkKey]; simp only [Sem.run_bind,AG hu,Result.andThen_ok]
 cases d <;> first | (cases hs; done) | rfl
theorem mG (d:TypeDesc) (k v:Value):M' d k v=Instr.sameNow d k v:=by
 unfold M'
 split
 ·rename_i a b; simp only [Instr.sameNow,P2,beq_toListBytes]
 ·rfl
theorem RO (d:TypeDesc) (k:Value):∀ (es:List MapEntry) (i:Nat),Jl d k es i=Instr.findNow d k es i
 | [],_=>rfl
 | e::es,i=>by simp only [Jl,Instr.findNow,mG,RO d k es]; rfl
theorem Tn {x y x' y':Value} (h:NY x y=true) (hx:AT ρ x x') (hy:AT ρ y y'):x'=y'∧∀ n,Instr.sameBits n y' x'=true:=by
 unfold NY at h
 split at h
 ·simp only [Bool.and_eq_true,decide_eq_true_eq] at h; obtain ⟨rfl,rfl⟩:=h
  cases hx; cases hy
  exact ⟨rfl,fun n=>by cases n <;> simp [Instr.sameBits]⟩
 ·have:=La h; subst this
  cases hx; cases hy
  exact ⟨rfl,fun n=>by cases n <;> simp [Instr.sameBits,beq_toListBytes]⟩
 ·have:=eq_of_beq h; subst this
  cases hx; cases hy
  exact ⟨rfl,fun n=>by cases n <;> simp [Instr.sameBits]⟩
 ·cases h
theorem OK:∀ {xs ys Mv SS:List Value},N9 xs ys=true→Ap ρ xs Mv→Ap ρ ys SS→Mv=SS∧∀ n,((SS.zip Mv).all fun (x,y)=>Instr.sameBits n x y)=true
 | [],[],Mv,SS,_,hx,hy=>by
  have h1:Mv=[]:=List.length_eq_zero_iff.1 hx.1.symm; have h2:SS=[]:=List.length_eq_zero_iff.1 hy.1.symm; subst h1 h2; exact ⟨rfl,fun _=>rfl⟩
 | x::xs,y::ys,[],_,_,hx,_=>by have:=hx.1; simp at this
 | x::xs,y::ys,_::_,[],_,_,hy=>by have:=hy.1; simp at this
 | x::xs,y::ys,x'::Mv,y'::SS,h,hx,hy=>by
  simp only [N9,Bool.and_eq_true] at h; obtain ⟨e1,e2⟩:=Tn h.1 hx.head hy.head; obtain ⟨e3,e4⟩:=OK h.2 hx.tail hy.tail; exact ⟨by rw [e1,e3],fun n=>by simp only [List.zip_cons_cons,List.all_cons,e2 n,e4 n,Bool.and_self]⟩
 | [],_::_,_,_,h,_,_=>by cases h
 | _::_,[],_,_,h,_,_=>by cases h
theorem Zj {k v k' v':Value} (h:XS k v=true) (hk:AT ρ k k') (hv:AT ρ v v'):Instr.sameBits 10000 v' k'=true:=by
 unfold XS at h
 split at h
 ·obtain ⟨Mv,rfl,hx⟩:=hk.FH; obtain ⟨SS,rfl,hy⟩:=hv.FH; obtain ⟨e1,e2⟩:=OK h hx hy; have e:Mv=SS:=Array.ext' e1; rw [show (10000:Nat)=9999+1 from rfl,Instr.sameBits]; rw [e2 9999,e]; simp
 ·cases h
theorem R' {b:Bool} {n:Nat} {cs VR:Array Value} (hc:Ap ρ cs.toList VR.toList) (w:World):∀ (fs:List Field),
  (fs.all fun f=>!(f.name == "_") && (match P.underlying f.type with | some d=>IE d | none=>false) && (RD P f.type cs f.offset).isSome)=true →
  (forIn fs PUnit.unit (fun f _=>do
   if f.name≠"_" then do Instr.checkKey b (n+1) f.type (←part f.type VR f.offset); pure (ForInStep.yield PUnit.unit) else pure (ForInStep.yield PUnit.unit)):Sem PUnit).run P w=.ok PUnit.unit w:=by
 intro fs
 induction fs with
 | nil=>intro _; simp
 | cons f fs ih =>
  intro h; simp only [List.all_cons,Bool.and_eq_true] at h; obtain ⟨⟨⟨h1,h2⟩,h3⟩,h4⟩:=h; have hn:f.name≠"_":=by simpa using h1
  obtain ⟨v,hv⟩:=Option.isSome_iff_exists.1 h3; obtain ⟨v',G4,_⟩:=Jp hv hc w
  have LQ:(Instr.checkKey b (n+1) f.type v').run P w=.ok () w:=by
   split at h2
   ·rename_i d hd; rw [Instr.checkKey]; simp only [Sem.run_bind,AG hd,Result.andThen_ok]
    cases d <;> first | (cases h2; done) | rfl
   ·cases h2
  simp only [List.forIn_cons,if_pos hn,Sem.run_bind,G4,Result.andThen_ok,LQ,Sem.run_pure]; exact ih h4
theorem ie {t:TypeId} {k k':Value} (hk:AT ρ k k'):∀ {es CF:List MapEntry},Bp ρ es CF→∀ {i:Nat} {r:Option (Nat × Value)},ZR P t k es i=some r →
  ∃ r',(∀ w:World,(Instr.findAsking t k' CF i).run P w=.ok r' w)∧((r=none∧r'=none)∨∃ j v v' en,r=some (j,v)∧r'=some (j,v')∧AT ρ v v'∧i≤j∧CF[j-i]?=some en∧Instr.sameBits 10000 en.key k'=true):=by
 intro es
 induction es with
 | nil =>
  intro CF he i r h
  cases CF with
  | cons=>exact he.elim
  | nil =>
   simp only [ZR,Option.some.injEq] at h; subst h; exact ⟨none,fun w=>by simp [Instr.findAsking],.inl ⟨rfl,rfl⟩⟩
 | cons en es ih =>
  intro CF he i r h
  cases CF with
  | nil=>exact he.elim
  | cons Y8 CF =>
   obtain ⟨h1,h2⟩:=he
   cases h1 with
   | @mk k1 v1 zg lE b hkk Xg =>
    simp only [ZR] at h
    have run:∀ (b:Bool),ZQ P 20 t k k1=some b→∀ w:World,(Op.equal t k' zg).run P w=.ok b w:=fun b hb w=>by
     rw [Gr]; exact Nc 20 _ _ _ _ _ _ hb hk hkk 10000 (by omega) w
    split at h
    ·rename_i To; rw [cond_eq_ite] at h
     split at h
     ·rename_i AAM
      cases h
      refine ⟨some (i,lE),fun w=>by simp only [Instr.findAsking,Sem.run_bind,run true To,Result.andThen_ok,if_true,Sem.run_pure],.inr ⟨i,v1,lE,_,rfl,rfl,Xg,Nat.le_refl _,by simp; rfl,?_⟩⟩; exact Zj AAM hk hkk
     ·cases h
    ·rename_i To; obtain ⟨r',Ij,A9⟩:=ih h2 h; refine ⟨r',fun w=>by simp only [Instr.findAsking,Sem.run_bind,run false To,Result.andThen_ok,Bool.false_eq_true,if_false,Ij],A9.imp id ?_⟩; rintro ⟨j,v,v',en,e1,e2,e3,e4,e5,e6⟩; refine ⟨j,v,v',en,e1,e2,e3,by omega,?_,e6⟩; have:j-i=(j-(i+1))+1:=by omega
     rw [this]; simpa using e5
    ·cases h
theorem Lb {t:TypeId} {k k':Value} {es CF:List MapEntry} {r:Option (Nat × Value)} (h:M_ P t k es=some r) (hk:AT ρ k k') (he:Bp ρ es CF) :
  ∃ r',(∀ (b:Bool) (w:World),(Instr.checkKey b 10000 t k').run P w=.ok () w)∧(∀ w:World,(Instr.findKey t k' CF).run P w=.ok r' w) ∧
   ((r=none∧r'=none)∨∃ j v v' en,r=some (j,v)∧r'=some (j,v')∧AT ρ v v'∧CF[j]?=some en∧Instr.sameBits 10000 en.key k'=true):=by
 unfold M_ at h
 cases hd:P.underlying t with
 | none=>rw [hd] at h; cases h
 | some d =>
  rw [hd] at h; simp only [cond_eq_ite] at h
  split at h
  ·rename_i hs; rw [RO] at h; obtain ⟨r',Ij,A9⟩:=Zh hk he h
   refine ⟨r',fun b w=>Xh hd hs w,fun w=>?_,A9.imp id ?_⟩
   ·simp only [Instr.findKey,Sem.run_bind,AG hd,Result.andThen_ok,Ij,Sem.run_pure]
   ·rintro ⟨j,v,v',en,e1,e2,e3,_,e5,e6⟩; exact ⟨j,v,v',en,e1,e2,e3,by simpa using e5,Zi e6⟩
  ·split at h
   ·rename_i hf; unfold gC at hf; rw [hd] at hf
    split at hf
    ·rename_i fs cs gJ
     cases gJ
     simp only [Bool.and_eq_true] at hf; obtain ⟨Zk,lF⟩:=hf; obtain ⟨VR,rfl,hc⟩:=hk.FH; obtain ⟨r',Ij,A9⟩:=ie hk he h
     refine ⟨r',fun b w=>?_,fun w=>?_,A9.imp id ?_⟩
     ·have:=R' (P:=P) (b:=b) (n:=9998) hc w fs.toList lF; rw [show (10000:Nat)=9999+1 from rfl,Instr.checkKey]; simp only [Sem.run_bind,AG hd,Result.andThen_ok]; rw [←Array.forIn_toList,this]; rfl
     ·have AC8:Instr.findNow (.struct fs) (.agg VR) CF 0=(match CF with | []=>some none | _::_=>none):=by
       cases CF with
       | nil=>rfl
       | cons e CF=>simp [Instr.findNow,Instr.sameNow]
      simp only [Instr.findKey,Sem.run_bind,AG hd,Result.andThen_ok,AC8]
      cases CF with
      | nil=>have:=Ij w; simpa [Instr.findAsking] using this
      | cons e CF=>exact Ij w
     ·rintro ⟨j,v,v',en,e1,e2,e3,_,e5,e6⟩; exact ⟨j,v,v',en,e1,e2,e3,by simpa using e5,e6⟩
    ·cases hf
   ·cases h
theorem Ac.RP (h:Ac P w0 ρ W w) {r r':Nat} (hr:LW ρ r r') {es:List MapEntry} {EE:Nat} (ho:W.obj r=some (.map es EE)) :
  ∃ x CF,ρ r=some x∧r'=x.b∧x.o=0∧w.heap[r']?=some (.map CF EE)∧Bp ρ es CF.toList:=by
 obtain ⟨x,hx,rfl⟩:=hr; obtain ⟨o',Hi,hr⟩:=h.obj ho (by simp) hx rfl
 cases hr with
 | map h1 h2=>exact ⟨x,_,hx,rfl,h1,Hi,h2⟩
theorem ig (hz:ZP P) {t:TypeId} {x k:Operand} {ok:Bool} (ho:o.op=.lookup t x k ok) (h:BS P o e W=some outs) (hw:Ac P w0 ρ W w) (hx:AT ρ (e x) (e' x)) (hk:AT ρ (e k) (e' k)) :
  A6 P w0 ρ W ((execOp e' o).run P w) outs:=by
 simp only [BS,ho] at h; obtain ⟨v,hv,rfl⟩:=EL h
 split at hv
 ·rename_i kt elem ht; obtain ⟨z,KC,hv⟩:=Af hv; obtain ⟨es,mF,hv⟩:=Af hv; obtain ⟨r,hr,hv⟩:=Af hv
  have:∃ CF:Array MapEntry,Bp ρ es CF.toList∧((e' x=.map none∧CF=#[])∨∃ r EE,e' x=.map (some r)∧w.heap[r]?=some (.map CF EE)):=by
   generalize e' x=RK at *
   split at mF
   ·rename_i hc; rw [hc] at hx
    cases hx
    cases mF
    exact ⟨#[],trivial,.inl ⟨rfl,rfl⟩⟩
   ·rename_i r0 hc; rw [hc] at hx
    cases hx with
    | map hb =>
     split at mF
     ·rename_i es0 EE BY
      cases mF
      obtain ⟨x,CF,_,_,_,hh,B0⟩:=hw.RP hb BY; exact ⟨CF,B0,.inr ⟨_,_,rfl,hh⟩⟩
     ·cases mF
   ·cases mF
  obtain ⟨CF,B0,uS⟩:=this; obtain ⟨r',LQ,Ix,A9⟩:=Lb hr hk B0
  have Hk:∀ y:Value × Bool,((r'=none∧y=(z,false))∨∃ j,r'=some (j,y.1)∧y.2=true) →
    (Instr.lookup t (e' x) (e' k) ok).run P w=.ok (if ok then .tuple #[y.1,.bool y.2] else y.1) w:=by
   intro y hy
   rcases uS with ⟨hc,rfl⟩ | ⟨r,EE,hc,hh⟩ <;> rcases hy with ⟨rfl,rfl⟩ | ⟨j,rfl,h2⟩
   ·simp only [Instr.lookup,Sem.run_bind,AG ht,Result.andThen_ok,hc,Sem.run_pure,LQ,Ix,BZ KC]
   ·simp only [Instr.lookup,Sem.run_bind,AG ht,Result.andThen_ok,hc,Sem.run_pure,LQ,Ix,h2]
   ·simp only [Instr.lookup,Sem.run_bind,AG ht,Result.andThen_ok,hc,As hh (by simp),Sem.run_pure,LQ,Ix,BZ KC]
   ·simp only [Instr.lookup,Sem.run_bind,AG ht,Result.andThen_ok,hc,As hh (by simp),Sem.run_pure,LQ,Ix,h2]
  rcases A9 with ⟨rfl,rfl⟩ | ⟨j,x1,x1',en,rfl,rfl,uT,_,_⟩
  ·cases hv
   refine .value hw ?_ ?_ (v':=if ok then .tuple #[z,.bool false] else z)
   ·simp only [execOp,ho]; exact A_ (Hk (z,false) (.inl ⟨rfl,rfl⟩))
   ·cases ok
    ·exact hz.rel KC ρ
    ·exact .tuple' (.cons (hz.rel KC ρ) (.cons (.bool _) (.nil _)))
  ·cases hv
   refine .value hw ?_ ?_ (v':=if ok then .tuple #[x1',.bool true] else x1')
   ·simp only [execOp,ho]; exact A_ (Hk (x1',true) (.inr ⟨j,rfl,rfl⟩))
   ·cases ok
    ·exact uT
    ·exact .tuple' (.cons uT (.cons (.bool _) (.nil _)))
 ·cases hv
theorem Bp.push:∀ {es CF:List MapEntry},Bp ρ es CF→∀ {a b:MapEntry},XW ρ a b→Bp ρ (es++[a]) (CF++[b])
 | [],[],_,_,_,h=>⟨h,trivial⟩
 | _::_,_::_,h,_,_,k=>⟨h.1,h.2.push k⟩
 | [],_::_,h,_,_,_=>h.elim
 | _::_,[],h,_,_,_=>h.elim
theorem Bp.Iu:∀ {es CF:List MapEntry},Bp ρ es CF→∀ {v v' k k':Value},AT ρ v v'→AT ρ k k'→∀ i,Bp ρ (Iu v k i es) (CF.modify i fun en=>{ en with key:=k',val:=v' })
 | [],[],_,_,_,_,_,_,_,i=>by cases i <;> simp [Ce.Iu,Bp]
 | en::es,Y8::CF,h,_,_,_,_,hv,hk,0=>by
  cases h.1 with
  | mk b _ _=>simp only [Ce.Iu,List.modify_zero_cons]; exact ⟨.mk b hk hv,h.2⟩
 | en::es,Y8::CF,h,_,_,_,_,hv,hk,i+1=>by
  simp only [Ce.Iu,List.modify_succ_cons]; exact ⟨h.1,Bp.Iu h.2 hv hk i⟩
 | [],_::_,h,_,_,_,_,_,_,_=>h.elim
 | _::_,[],h,_,_,_,_,_,_,_=>h.elim
theorem Bp.KE:∀ {es CF:List MapEntry},Bp ρ es CF→∀ i,Bp ρ (KE i es) (CF.eraseIdx i)
 | [],[],_,i=>by cases i <;> simp [Ce.KE,Bp]
 | en::es,Y8::CF,h,0=>by simp only [Ce.KE,List.eraseIdx_cons_zero]; exact h.2
 | en::es,Y8::CF,h,i+1=>by simp only [Ce.KE,List.eraseIdx_cons_succ]; exact ⟨h.1,Bp.KE h.2 i⟩
 | [],_::_,h,_=>h.elim
 | _::_,[],h,_=>h.elim
theorem Bp.length:∀ {es CF:List MapEntry},Bp ρ es CF→es.length=CF.length
 | [],[],_=>rfl
 | _::_,_::_,h=>by simp [Bp.length h.2]
 | [],_::_,h=>h.elim
 | _::_,[],h=>h.elim
theorem OL {t:TypeId} {m k x:Operand} (ho:o.op=.mapUpdate t m k x∨o.op=.insert t m k x) (h:BS P o e W=some outs) (hw:Ac P w0 ρ W w) (hm:AT ρ (e m) (e' m)) (hk:AT ρ (e k) (e' k)) (hx:AT ρ (e x) (e' x)) :
  A6 P w0 ρ W ((execOp e' o).run P w) outs:=by
 rcases ho with ho | ho
 all_goals
  simp only [BS,ho] at h; obtain ⟨W1,hv,rfl⟩:=gG h
  split at hv
  ·rename_i kt elem r ht hc; rw [hc] at hm; generalize Ei:e' m=vm' at hm
   cases hm with
   | @map _ r' hb =>
    split at hv
    ·rename_i es EE BY; obtain ⟨y,CF,hy,rfl,pT,hh,B0⟩:=hw.RP hb BY; obtain ⟨f,hf,hv⟩:=Af hv; obtain ⟨r',LQ,Ix,A9⟩:=Lb hf hk B0
     rcases A9 with ⟨rfl,rfl⟩ | ⟨j,x1,x1',en,rfl,rfl,uT,FG,Zl⟩
     ·cases hv
      refine ⟨_,_,ρ,List.mem_singleton.2 rfl,.refl _,.skip (w:={ w with heap:=w.heap.setIfInBounds y.b (.map (CF.push { key:=e' k,val:=e' x,born:=EE }) (EE+1)) }) ?_ ?_⟩
      ·simp only [execOp,ho,Ei]; refine cw ?_; simp only [Instr.mapUpdate,Sem.run_bind,AG ht,Result.andThen_ok,As hh (by simp),LQ,Ix,DB hh (by simp)]
      ·refine hw.Az BY rfl hy (.map pT ?_); rw [Array.toList_push]; exact B0.push (.mk EE hk hx)
     ·cases hv
      refine ⟨_,_,ρ,List.mem_singleton.2 rfl,.refl _,.skip (w:={ w with heap:=w.heap.setIfInBounds y.b (.map (CF.modify j fun en=>{ en with key:=e' k,val:=e' x }) EE) }) ?_ ?_⟩
      ·simp only [execOp,ho,Ei]; refine cw ?_; have uU:CF[j]?=some en:=by simpa using FG
       simp only [Instr.mapUpdate,Sem.run_bind,AG ht,Result.andThen_ok,As hh (by simp),LQ,Ix,Instr.keyThatStays,uU,Option.map_some,Option.getD_some,Zl,if_true,Sem.run_pure,DB hh (by simp)]
      ·refine hw.Az BY rfl hy (.map pT ?_); rw [Array.toList_modify]; exact B0.Iu hx hk j
    ·cases hv
  ·cases hv
theorem mH {t:TypeId} {x:Operand} (ho:o.op=.range t x) (h:BS P o e W=some outs) (hw:Ac P w0 ρ W w) (hx:AT ρ (e x) (e' x)) :
  A6 P w0 ρ W ((execOp e' o).run P w) outs:=by
 simp only [BS,ho] at h; obtain ⟨v,W1,hv,rfl⟩:=ML h; generalize Ei:e' x=RK at *
 split at hv
 ·rename_i kt elem ht hc; rw [hc] at hx
  cases hx
  simp only [Option.some.injEq,Prod.mk.injEq] at hv; obtain ⟨rfl,rfl⟩:=hv; obtain ⟨C',Fy⟩:=hw.new (o:=.iter none 0 [] 0) (o':=.mapIter none 0 #[] 0) ⟨w.heap.size,0,0,0,0⟩ rfl (.OF rfl); refine ⟨_,_,_,List.mem_singleton.2 rfl,C',.value (v':=.pointer (some ⟨w.heap.size,0,none⟩)) (w:={ w with heap:=w.heap.push (.mapIter none 0 #[] 0) }) ?_ (.ptr ⟨rfl,⟨w.heap.size,0,0,0,0⟩,by simp,by simp⟩) Fy⟩; simp only [execOp,ho,Ei]; refine A_ ?_; simp [Instr.range,AG ht]
 ·rename_i kt elem r ht hc; rw [hc] at hx
  cases hx with
  | @map _ r' hb =>
   split at hv
   ·rename_i es EE BY; simp only [Option.some.injEq,Prod.mk.injEq] at hv; obtain ⟨rfl,rfl⟩:=hv; obtain ⟨y,CF,hy,rfl,pT,hh,B0⟩:=hw.RP hb BY; have A0:=hw.SU r y hy; obtain ⟨C',Fy⟩:=hw.new (o:=.iter (some r) EE [] EE) (o':=.mapIter (some y.b) EE [].toArray EE) ⟨w.heap.size,0,0,0,0⟩ rfl (.iter rfl ⟨y,by simp [show r≠W.sz by omega,hy],rfl⟩); refine ⟨_,_,_,List.mem_singleton.2 rfl,C',.value (v':=.pointer (some ⟨w.heap.size,0,none⟩)) (w:={ w with heap:=w.heap.push (.mapIter (some y.b) EE [].toArray EE) }) ?_ (.ptr ⟨rfl,⟨w.heap.size,0,0,0,0⟩,by simp,by simp⟩) Fy⟩; simp only [execOp,ho,Ei]; refine A_ ?_; simp [Instr.range,AG ht,As hh (by simp)]
   ·cases hv
 ·cases hv
theorem Bp.filter (p:Nat→Bool):∀ {es CF:List MapEntry},Bp ρ es CF→Bp ρ (es.filter fun e=>p e.born) (CF.filter fun e=>p e.born)
 | [],[],_=>trivial
 | en::es,Y8::CF,h=>by
  cases h.1 with
  | mk b hk hv =>
   simp only [List.filter_cons]
   cases p b
   ·simpa using Bp.filter p h.2
   ·simpa using ⟨.mk b hk hv,Bp.filter p h.2⟩
 | [],_::_,h=>h.elim
 | _::_,[],h=>h.elim
theorem Bp.append:∀ {es CF us us':List MapEntry},Bp ρ es CF→Bp ρ us us'→Bp ρ (es++us) (CF++us')
 | [],[],_,_,_,h=>h
 | _::_,_::_,_,_,h,k=>⟨h.1,h.2.append k⟩
 | [],_::_,_,_,h,_=>h.elim
 | _::_,[],_,_,h,_=>h.elim
theorem Bp.get:∀ {es CF:List MapEntry},Bp ρ es CF→∀ {i:Nat} {b:MapEntry},CF[i]?=some b→∃ a,es[i]?=some a∧XW ρ a b
 | [],[],_,i,_,h=>by simp at h
 | a::es,a'::CF,h,0,b,hb=>by simp at hb; subst hb; exact ⟨a,rfl,h.1⟩
 | _::es,_::CF,h,i+1,b,hb=>by simpa using Bp.get h.2 (by simpa using hb)
 | [],_::_,h,_,_,_=>h.elim
 | _::_,[],h,_,_,_=>h.elim
theorem Bp.all (p:Nat→Bool):∀ {es CF:List MapEntry},Bp ρ es CF→(es.all fun e=>p e.born)=(CF.all fun e=>p e.born)
 | [],[],_=>rfl
 | en::es,Y8::CF,h=>by cases h.1 with | mk b _ _=>simp only [List.all_cons,Bp.all p h.2]
 | [],_::_,h=>h.elim
 | _::_,[],h=>h.elim
theorem Ac.mI (h:Ac P w0 ρ W w) {a a':Addr} (ha:KG ρ a a') {m s l:Nat} {seen:List Nat} (ho:W.obj a.block=some (.iter (some m) s seen l)) :
  ∃ x m',ρ a.block=some x∧a'=⟨x.b,a.off,none⟩∧x.o=0∧LW ρ m m'∧w.heap[x.b]?=some (.mapIter (some m') s seen.toArray l):=by
 obtain ⟨_,x,hx,rfl⟩:=ha; obtain ⟨o',Hi,hr⟩:=h.obj ho (by simp) hx rfl
 cases hr with
 | iter h1 h2=>exact ⟨x,_,hx,by rw [h1]; rfl,h1,h2,Hi⟩
theorem Bp.find (n:Nat):∀ {es CF:List MapEntry},Bp ρ es CF→∀ {a:MapEntry},es.find? (fun e=>Nat.beq e.born n)=some a→∃ b,CF.find? (fun e=>e.born == n)=some b∧XW ρ a b
 | [],[],_,_,h=>by simp at h
 | en::es,Y8::CF,h,a,ha=>by
  have hb:Y8.born=en.born:=by cases h.1 with | mk b _ _=>rfl
  rw [List.find?_cons] at ha ⊢; rw [hb]; have e1:Nat.beq en.born n=(en.born == n):=by rw [Bool.eq_iff_iff]; simp
  rw [e1] at ha
  cases hx:(en.born == n)
  ·rw [hx] at ha; exact Bp.find n h.2 ha
  ·rw [hx] at ha; cases ha; exact ⟨Y8,rfl,h.1⟩
 | [],_::_,h,_,_=>h.elim
 | _::_,[],h,_,_=>h.elim
theorem mJ {x:Operand} (ho:o.op=.entry x) (h:BS P o e W=some outs) (hw:Ac P w0 ρ W w) (hx:AT ρ (e x) (e' x)):A6 P w0 ρ W ((execOp e' o).run P w) outs:=by
 simp only [BS,ho] at h; obtain ⟨v,hv,rfl⟩:=EL h; generalize Ei:e' x=RK at *
 split at hv
 ·rename_i a hc; rw [hc] at hx
  cases hx with
  | @ptr _ a' ha =>
   rw [cond_eq_ite] at hv
   split at hv
   ·cases hv
   rename_i R_; have R_:a.off=0:=by simpa using R_
   split at hv
   ·rename_i r since seen SR BY; obtain ⟨y,m',hy,rfl,_,hm,hh⟩:=hw.mI ha BY
    split at hv
    ·rename_i st es EE RQ mK; obtain ⟨y2,CF,uV,rfl,_,uW,B0⟩:=hw.RP hm mK; rw [cond_eq_ite] at hv
     split at hv
     ·rename_i uX; have uX:=Nat.eq_of_beq_eq_true uX; subst uX; rw [Option.map_eq_some_iff] at hv; obtain ⟨en,FG,rfl⟩:=hv; obtain ⟨Y8,uU,hr⟩:=B0.find st FG; have hf:CF.find? (fun e=>e.born == st)=some Y8:=by rw [←Array.find?_toList]; exact uU
      have hl:seen.toArray.back?=some st:=by simpa [Array.back?_eq_getElem?,List.getLast?_eq_getElem?] using RQ
      refine .value hw (v':=.tuple #[Y8.key,Y8.val]) ?_ ?_
      ·simp only [execOp,ho,Ei]; refine A_ ?_; simp [Instr.entry,R_,As hh (by simp),As uW (by simp),hl,hf]
      ·cases hr with
       | mk b h1 h2=>exact .tuple' (.cons h1 (.cons h2 (.nil _)))
     ·cases hv
    ·cases hv
   ·cases hv
 ·cases hv
theorem ik {es CF:List MapEntry} (h:Bp ρ es CF) (since:Nat) (seen:List Nat) {c:Option MapEntry} (hc:c ∈ RE CF since seen) :
  ∃ c0,c0 ∈ RE es since seen∧((c0=none∧c=none)∨∃ a b,c0=some a∧c=some b∧XW ρ a b):=by
 unfold RE at hc ⊢; have hl:=h.filter (fun b=>!seen.contains b); have ho:=hl.filter (fun b=>decide (b<since)); have hn:=hl.filter (fun b=>!decide (b<since)); simp only [List.mem_append,List.mem_map] at hc
 rcases hc with hc | ⟨b,hb,rfl⟩
 ·have hlen:=ho.length
  refine ⟨none,?_,?_⟩
  ·simp only [List.mem_append]; left
   cases hx:(List.filter (fun e=>decide (e.born<since)) (List.filter (fun e=>!seen.contains e.born) CF)) with
   | nil =>
    rw [hx] at hlen; have:(List.filter (fun e=>decide (e.born<since)) (List.filter (fun e=>!seen.contains e.born) es))=[]:=List.length_eq_zero_iff.1 (by simpa using hlen); rw [this]; simp
   | cons y ys=>rw [hx] at hc; simp at hc
  ·left; refine ⟨rfl,?_⟩; rw [cond_eq_ite] at hc
   split at hc
   ·simpa using hc
   ·simp at hc
 ·rw [←List.mem_append] at hb; obtain ⟨i,hi,hbi⟩:=List.getElem_of_mem hb; obtain ⟨a,ha,hr⟩:=(ho.append hn).get (i:=i) (b:=b) (by rw [List.getElem?_eq_getElem hi,hbi]); refine ⟨some a,?_,.inr ⟨a,b,rfl,rfl,hr⟩⟩; simp only [List.mem_append]; right; exact List.mem_map_of_mem (List.mem_of_getElem? ha)
theorem qH {x:Operand} (ho:o.op=.next x false) (h:BS P o e W=some outs) (hw:Ac P w0 ρ W w) (hx:AT ρ (e x) (e' x)):A6 P w0 ρ W ((execOp e' o).run P w) outs:=by
 simp only [BS,ho] at h; generalize Ei:e' x=RK at *
 split at h
 ·rename_i a hc; rw [hc] at hx
  cases hx with
  | @ptr _ a' ha =>
   rw [cond_eq_ite] at h
   split at h
   ·cases h
   rename_i R_; have R_:a.off=0:=by simpa using R_
   split at h
   ·rename_i s1 s2 s3 BY
    cases h
    obtain ⟨_,y,hy,rfl⟩:=ha; obtain ⟨o',Hi,hr⟩:=hw.obj BY (by simp) hy rfl
    cases hr with
    | OF h0 =>
     refine .value hw ?_ (.tuple' (.cons (.bool _) (.nil _))) (v':=.tuple #[.bool false]); simp only [execOp,ho,Ei]; refine A_ ?_; simp [Instr.next,R_,h0,As Hi (by simp)]
   ·rename_i r since seen last BY; obtain ⟨y,m',hy,rfl,pT,hm,hh⟩:=hw.mI ha BY
    split at h
    ·rename_i es EE mK; obtain ⟨y2,CF,uV,rfl,_,uW,B0⟩:=hw.RP hm mK; rw [cond_eq_ite] at h
     split at h
     ·cases h
     ·rename_i BJ; simp only [Option.some.injEq] at h; subst h
      have mL:(!seen.toArray.isEmpty && !CF.isEmpty && CF.all (fun e=>decide (e.born≥last)))=false:=by
       have e1:seen.toArray.isEmpty=seen.isEmpty:=by cases seen <;> rfl
       have e2:CF.isEmpty=es.isEmpty:=by
        have:=B0.length
        cases es with
        | nil=>have:CF.size=0:=(by simpa using this.symm); simp [Array.isEmpty,this]
        | cons y ys=>have:CF.size=ys.length+1:=(by simpa using this.symm); simp [Array.isEmpty,this]
       have e3:CF.all (fun e=>decide (e.born≥last))=es.all (fun e=>!decide (e.born<last)):=by
        rw [←Array.all_toList,B0.all (fun b=>!decide (b<last))]; congr 1; funext en
        by_cases hb:en.born<last
        ·simp [hb]
        ·simp [hb]; omega
       rw [e1,e2,e3]
       simpa using BJ
      generalize hC:((if ((CF.filter fun e=>!seen.toArray.contains e.born).filter fun e=>decide (e.born<since)).isEmpty then #[none] else #[])++(((CF.filter fun e=>!seen.toArray.contains e.born).filter fun e=>decide (e.born<since))++((CF.filter fun e=>!seen.toArray.contains e.born).filter fun e=>decide (e.born≥since))).map some:Array (Option MapEntry))=C
      have mM:C.toList=RE CF.toList since seen:=by
       have e1:∀ n:Nat,seen.toArray.contains n=seen.contains n:=fun n=>by simp
       have e2:(fun e:MapEntry=>!decide (e.born<since))=(fun e:MapEntry=>decide (e.born≥since)):=by
        funext en
        by_cases hb:en.born<since
        ·simp [hb]
        ·simp [hb]; omega
       rw [←hC]; simp only [RE,e1,e2,Array.toList_append,Array.toList_map,Array.toList_filter,cond_eq_ite]; congr 1; have e3:∀ A:Array MapEntry,A.isEmpty=A.toList.isEmpty:=fun A=>by rw [Bool.eq_iff_iff]; simp [Array.isEmpty_iff]
       rw [e3]; simp only [Array.toList_filter]; split <;> rfl
      have Nb:0<C.size:=by
       rw [←Array.length_toList,mM]; unfold RE
       cases hx:(List.filter (fun e=>decide (e.born<since)) (List.filter (fun e=>!seen.contains e.born) CF.toList)) with
       | nil=>simp only [hx,List.isEmpty_nil,cond_true,List.length_append,List.length_cons]; omega
       | cons y ys=>simp only [hx,List.length_append,List.length_map,List.length_cons]; omega
      obtain ⟨i,w2,HU,hi,FW,mN⟩:∃ i w2,(choose (.mapNext C.size)).run P w=.ok i w2∧i<C.size∧Ac P w0 ρ W w2∧w2.heap=w.heap:=by
       rw [run_choose]
       split
       ·exact ⟨0,w,rfl,Nb,hw,rfl⟩
       ·exact ⟨_,_,rfl,by simp only [Question.cut]; exact Nat.mod_lt _ Nb,hw.drew _,rfl⟩
      have ic:C[i]?=some C[i]:=by simp [hi]
      obtain ⟨c0,zh,A9⟩:=ik (c:=C[i]) B0 since seen (by rw [←mM]; simp); rw [←mN] at hh uW
      rcases A9 with ⟨rfl,hcn⟩ | ⟨en,Y8,rfl,hcn,hr⟩
      ·refine ⟨.value (.tuple #[.bool false]),W,ρ,?_,.refl _,.value (v':=.tuple #[.bool false]) (w:=w2) ?_ (.tuple' (.cons (.bool _) (.nil _))) FW⟩
       ·exact List.mem_map.2 ⟨none,zh,rfl⟩
       ·simp only [execOp,ho,Ei]; refine A_ ?_; rw [hcn] at ic; rw [mN] at hh uW; simp only [Instr.next,R_,Sem.run_bind,As hh (by simp),As uW (by simp),Result.andThen_ok,mL,hC,HU,ic,Sem.run_pure,Bool.false_eq_true,if_false]
      ·refine ⟨.value (.tuple #[.bool true,en.key,en.val]),W.Az a.block (.iter (some r) since (seen++[en.born]) EE),ρ,?_,.refl _,
        .value (v':=.tuple #[.bool true,Y8.key,Y8.val]) (w:={ w2 with heap:=w2.heap.setIfInBounds y.b (.mapIter (some y2.b) since (seen++[en.born]).toArray EE) }) ?_ ?_ (FW.Az BY rfl hy (.iter pT hm))⟩
       ·exact List.mem_map.2 ⟨some en,zh,rfl⟩
       ·simp only [execOp,ho,Ei]; refine A_ ?_; rw [hcn] at ic; have AAN:Y8.born=en.born:=by cases hr with | mk b _ _=>rfl
        have AC9:=DB (P:=P) hh (by simp) (.mapIter (some y2.b) since (seen++[en.born]).toArray EE); rw [mN] at hh uW; have AAO:seen.toArray.push en.born=(seen++[en.born]).toArray:=by simp
        simp only [Instr.next,R_,Sem.run_bind,As hh (by simp),As uW (by simp),Result.andThen_ok,mL,hC,HU,ic,AAN,AAO,AC9,Sem.run_pure,Bool.false_eq_true,if_false]
       ·cases hr with
        | mk b h1 h2=>exact .tuple' (.cons (.bool _) (.cons h1 (.cons h2 (.nil _))))
    ·cases h
   ·cases h
 ·cases h
end
end Go.Ce
namespace Go.Ce
open Go.RowKit (Below)
section
variable {P:Program} {w0:World} {ρ:Bl} {W:CW} {w:World} {o:Oper} {e e':Operand→Value} {outs:List (BX × CW)}
theorem AT.F5 {a:Option Addr} {n c:Nat} {v:Value} (h:AT ρ (.slice a n c) v):∃ a' c',v=.slice a' n c'∧((a=none∧a'=none∧c'=c)∨∃ b b',a=some b∧a'=some b' ∧
  ((KG ρ b b'∧PY ρ b c c')∨(n=0∧c=0∧b.spot=none∧∃ x,ρ b.block=some x∧b'.block=x.b∧b'.spot=none∧(c'=0∨(0<x.sz∧b'.off+c'*x.sz=x.n')))∨(n=0∧c=0∧c'=0∧b.spot=some 0))):=by
 cases h with
 | ZV=>exact ⟨_,_,rfl,.inl ⟨rfl,rfl,rfl⟩⟩
 | slice _ ha hc=>exact ⟨_,_,rfl,.inr ⟨_,_,rfl,rfl,.inl ⟨ha,hc⟩⟩⟩
 | JL h0 h1 h2 h3 h4=>exact ⟨_,_,rfl,.inr ⟨_,_,rfl,rfl,.inr (.inl ⟨rfl,rfl,h0,_,h1,h2,h3,h4⟩)⟩⟩
 | Hz h0=>exact ⟨_,_,rfl,.inr ⟨_,_,rfl,rfl,.inr (.inr ⟨rfl,rfl,rfl,h0⟩)⟩⟩
theorem Lc (a:Addr) (w:World):(loadCells a 0).run P w=.ok #[] w:=by simp [loadCells,loadCellsFrom]
theorem KJ (hw:Ac P w0 ρ W w) {b:Option Addr} {n c k size:Nat} {v:Value} {l:List Value} (hv:AT ρ (.slice b n c) v) (hk:k≤n) (h:Eh b (k*size) W=some l) :
  ∃ l':Array Value,(∀ d,(Builtin.firstCells size k v).run P { w with drawn:=d }=.ok l' { w with drawn:=d })∧Ap ρ l l'.toList:=by
 obtain ⟨a',c',rfl,A9⟩:=hv.F5
 rcases A9 with ⟨rfl,rfl,_⟩ | ⟨b,b',rfl,rfl,A9⟩
 ·cases h
  exact ⟨#[],fun _=>rfl,.nil _⟩
 ·simp only [Eh,cond_eq_ite] at h
  split at h
  ·rename_i h0; have h0:=Nat.eq_of_beq_eq_true h0
   cases h
   refine ⟨#[],?_,.nil _⟩; intro d; simp only [Builtin.firstCells,h0]; exact Lc _ _
  rename_i h0; have h0:k*size≠0:=fun hh=>h0 (by rw [hh]; rfl); have hk0:k≠0:=fun hh=>h0 (by rw [hh]; omega)
  have ha:KG ρ b b':=by
   rcases A9 with ⟨ha,_⟩ | ⟨h1,_⟩ | ⟨h1,_⟩
   ·exact ha
   ·omega
   ·omega
  split at h
  ·rename_i cc kk zz ee BY
   split at h
   ·rename_i hle; have hle:=Nat.le_of_ble_eq_true hle
    cases h
    obtain ⟨x,c2,fr,hx,rfl,hb,_,_,hn,hs,ct,_,hc⟩:=hw.cells ha BY; refine ⟨(DJ c2 (k*size) (b.off+x.o)).toArray,?_,by simpa using ZY hc (k*size) b.off hle⟩; intro d; simp only [Builtin.firstCells]; exact run_loadCells (w:={ w with drawn:=d }) hb _ _ (by omega)
   ·cases h
  ·rename_i ff kk ee BY
   split at h
   ·rename_i hle; have hle:=Nat.le_of_ble_eq_true hle
    cases h
    obtain ⟨x,c2,_,fr,hx,rfl,hb,hn,hs,ct,_,hc⟩:=hw.fixed ha BY; refine ⟨(DJ c2 (k*size) (b.off+x.o)).toArray,?_,by simpa using RI hc (k*size) b.off hle⟩; intro d; simp only [Builtin.firstCells]; exact run_loadCells (w:={ w with drawn:=d }) hb _ _ (by omega)
   ·cases h
  ·cases h
theorem WI (hw:Ac P w0 ρ W w) {x x':Value} {n k size:Nat} {l:List Value} (hx:AT ρ x x') (hn:ca x=some n) (hk:k≤n) (h:G_ x k size W=some l) :
  ∃ l':Array Value,(∀ d,(Builtin.firstCells size k x').run P { w with drawn:=d }=.ok l' { w with drawn:=d })∧Ap ρ l l'.toList∧∀ w:World,(Builtin.lenOf x').run P w=.ok n w:=by
 unfold ca at hn
 split at hn
 ·rename_i b m c
  cases hn
  simp only [G_] at h; obtain ⟨l',h1,h2⟩:=KJ hw hx hk h; obtain ⟨b',c',rfl,_⟩:=hx.F5; exact ⟨l',h1,h2,fun _=>rfl⟩
 ·rename_i s
  cases hn
  cases hx
  simp only [G_,cond_eq_ite] at h
  split at h
  ·cases h
   refine ⟨(s.extract 0 k).data.map fun b=>.int .u8 b.toNat,fun d=>rfl,?_,fun _=>rfl⟩
   have:((s.extract 0 k).data.map fun b=>Value.int .u8 b.toNat).toList=C0 ((sb s).take k):=by
    simp [C0,sb,ByteArray.data_extract]
   rw [this]; exact Ap.map (ρ:=ρ) _ (fun b:UInt8=>Value.int .u8 b.toNat) (fun b:UInt8=>Value.int .u8 b.toNat) (fun _ _=>.int _ _)
  ·cases h
 ·cases hn
theorem Ap.Xi:∀ {xs ys:List Value},Ap ρ xs ys→xs.all BO=true→ys.all BO=true
 | [],[],_,_=>rfl
 | x::xs,y::ys,h,hx=>by
  simp only [List.all_cons,Bool.and_eq_true] at hx ⊢; exact ⟨by rw [h.head.one]; exact hx.1,Ap.Xi h.tail hx.2⟩
 | [],_::_,h,_=>by have:=h.1; simp at this
 | _::_,[],h,_=>by have:=h.1; simp at this
theorem Ac.kill (h:Ac P w0 ρ W w) {i:Nat} {o:Au} (ho:W.obj i=some o):Ac P w0 ρ (W.Az i .dead) w:=by
 have get:∀ j v,(W.Az i .dead).h.get j=some v→v≠.dead→W.h.get j=some v∧j≠i:=fun j v hv LP=>by
  simp only [CW.Az,Tr.Bf] at hv
  split at hv
  ·cases hv; exact (LP rfl).elim
  ·rename_i e; exact ⟨hv,e⟩
 refine ⟨h.SU,?_,?_,?_,h.below⟩
 ·intro j v hv; simp only [CW.Az,Tr.Bf] at hv
  split at hv
  ·rename_i e; subst e; exact h.top j o ho
  ·exact h.top j v hv
 ·intro j v y hv LP hy; exact h.live j v y (get j v hv LP).1 LP hy
 ·intro j k u v y z hu k_ hv LP hy hz lq; exact h.inj j k u v y z (get j u hu (Au.IN k_)).1 k_ (get k v hv (Au.IN LP)).1 LP hy hz lq
theorem Ac.rename (h:Ac P w0 ρ W w) {i:Nat} {o u:Au} {u':Obj} {x y:Info} (ho:W.obj i=some o) (hd:o.mut=true) (hx:ρ i=some x) (hb:y.b=x.b)
  (hr:HZ P (fun i=>if i=W.sz then some y else ρ i) y u u') (hm:u.mut=true:=by rfl) :
  D2 W ρ ((W.Az i .dead).new u) (fun i=>if i=W.sz then some y else ρ i)∧Ac P w0 (fun i=>if i=W.sz then some y else ρ i) ((W.Az i .dead).new u) { w with heap:=w.heap.setIfInBounds x.b u' }:=by
 obtain ⟨o',Hi,_,cI,_⟩:=h.live i o x ho (Au.IN hd) hx; have cI:=cI hd; have A0:=(Array.getElem?_eq_some_iff.1 Hi).1; have hi:=h.top i o ho
 have C':Ext ρ (fun i=>if i=W.sz then some y else ρ i):=fun j z hz=>by
  have:=h.SU j z hz; show (if j=W.sz then some y else ρ j)=some z; rw [if_neg (by omega)]; exact hz
 have get:∀ j v,((W.Az i .dead).new u).h.get j=some v→v≠.dead→(j=W.sz∧v=u)∨(j≠W.sz∧j≠i∧W.h.get j=some v):=fun j v hv LP=>by
  simp only [CW.new,CW.Az,Tr.Bf] at hv
  split at hv
  ·rename_i e; cases hv; exact .inl ⟨e,rfl⟩
  ·rename_i e
   split at hv
   ·cases hv; exact (LP rfl).elim
   ·rename_i e2; exact .inr ⟨e,e2,hv⟩
 refine ⟨⟨C',fun j hj=>by show (if j=W.sz then some y else ρ j)=ρ j; rw [if_neg (by omega)],Nat.le_succ _⟩,?_,?_,?_,?_,?_⟩
 ·intro j z hz; show j<W.sz+1
  by_cases e:j=W.sz
  ·omega
  ·have:ρ j=some z:=by simpa [e] using hz
   have:=h.SU j z this; omega
 ·intro j v hv; show j<W.sz+1; simp only [CW.new,CW.Az,Tr.Bf] at hv
  split at hv
  ·rename_i e; have e:j=W.sz:=e; omega
  ·split at hv
   ·omega
   ·have:=h.top j v hv; omega
 ·intro j v z hv LP hz
  rcases get j v hv LP with ⟨rfl,rfl⟩ | ⟨e1,e2,hg⟩
  ·have hz:some y=some z:=by simpa using hz
   cases hz
   refine ⟨u',?_,hr,fun _=>by rw [hb]; exact cI,fun hf=>by rw [hm] at hf; cases hf⟩; show (w.heap.setIfInBounds x.b u')[y.b]?=_; rw [hb]; simp [A0]
  ·have hz:ρ j=some z:=by simpa [e1] using hz
   obtain ⟨v',G4,pR,lB⟩:=h.live j v z hg LP hz; refine ⟨v',?_,pR.mono C',lB⟩
   have EB:x.b≠z.b:=fun NB=>by
    cases cj:v.mut with
    | true=>exact e2 (h.inj j i v o z x hg cj ho hd hz hx NB.symm)
    | false=>have:=lB.2 cj; omega
   show (w.heap.setIfInBounds x.b u')[z.b]?=_; rw [Array.getElem?_setIfInBounds_ne EB]; exact G4
 ·intro j k v v' z z' hv LP G4 ZX hz gK KC
  rcases get j v hv (Au.IN LP) with ⟨rfl,rfl⟩ | ⟨e1,e2,hg⟩ <;> rcases get k v' G4 (Au.IN ZX) with ⟨rfl,rfl⟩ | ⟨f1,f2,hg'⟩
  ·rfl
  ·simp only [if_true,Option.some.injEq] at hz; simp only [if_neg f1] at gK; subst hz; exact (f2 (h.inj k i v' o z' x hg' ZX ho hd gK hx (by rw [←KC,hb]))).elim
  ·simp only [if_true,Option.some.injEq] at gK; simp only [if_neg e1] at hz; subst gK; exact (e2 (h.inj j i v o z x hg LP ho hd hz hx (by rw [KC,hb]))).elim
  ·simp only [if_neg e1] at hz; simp only [if_neg f1] at gK; exact h.inj j k v v' z z' hg LP hg' ZX hz gK KC
 ·exact ⟨h.below.os,h.below.tape,h.below.output,by show w0.heap.size≤(w.heap.setIfInBounds x.b u').size; rw [Array.size_setIfInBounds]; exact h.below.size,fun k hk=>by
   show (w.heap.setIfInBounds x.b u')[k]?=_
   rw [Array.getElem?_setIfInBounds_ne (by omega)]; exact h.below.block k hk⟩
theorem WJ (m:Nat):∀ (r c:Nat),c≤m+m / 4+200→Builtin.growBy m r c≤m+m / 4+200
 | 0,c,h=>h
 | r+1,c,h=>by
  rw [Builtin.growBy]
  split
  ·exact h
  ·exact WJ m r _ (by omega)
theorem nextslicecap_le (m c:Nat) (h:c<m):Builtin.nextslicecap m c≤2*m+200:=by
 unfold Builtin.nextslicecap
 split
 ·omega
 ·split
  ·omega
  ·have:=WJ m 4 c (by omega); omega
theorem dG (w:World) {ts:Array TypeId} {t u ty:TypeId} {elem:TypeId} {size:Nat} {z:Value} {info:TypeInfo} {base:Option Addr} {sLen sCap n:Nat} {x:Value} {news:Array Value}
  (h0:ts[0]?=some t) (h1:ts[1]?=some u) (hu:HA P u=true) (ht:P.underlying t=some (.slice elem)) (hs:Db P elem=some size) (hz:Gp P elem=some z)
  (hi:P.info? elem=some info) (hb:info.bytes≤1024) (hn:sLen+n≤1000000)
  (GK:∀ d,(Builtin.firstCells size n x).run P { w with drawn:=d }=.ok news { w with drawn:=d }) (hlen:∀ w:World,(Builtin.lenOf x).run P w=.ok n w) :
  (sLen+n≤sCap→(Builtin.append_ ts ty #[.slice base sLen sCap,x]).run P w =
   (do
       if let some a:=base then storeCells (a.add (sLen*size)) news.toList
       pure (.slice base (sLen+n) sCap):Sem Value).run P w) ∧
  (sCap<sLen+n→∀ old:Array Value,(∀ d,(Builtin.firstCells size sLen (.slice base sLen sCap)).run P { w with drawn:=d }=.ok old { w with drawn:=d }) →
   ∃ nc d,sLen+n≤nc∧(Builtin.append_ ts ty #[.slice base sLen sCap,x]).run P w =
    .ok (.slice (some ⟨w.heap.size,0,none⟩) (sLen+n) nc) { w with drawn:=d,heap:=w.heap.push (.cells (old++news++Builtin.zeroCells z.cells (nc-(sLen+n))) elem) }):=by
 refine ⟨fun hle=>?_,fun A0 old hold=>?_⟩
 ·cases hd:P.underlying u with
  | none=>simp [HA,hd] at hu
  | some d =>
   cases d <;> first | (simp [HA,hd] at hu; done) | skip
   all_goals
    simp only [Builtin.append_,h0,h1,List.getElem?_toArray,List.getElem?_cons_zero,List.getElem?_cons_succ,Sem.run_bind,AG ht,AG hd,Result.andThen_ok,BC hs,Sem.run_pure,Bool.false_eq_true,if_false,hlen,if_pos hle,Bool.not_false,if_true,GK w.drawn]
    cases base <;> rfl
 ·have su:Builtin.nextslicecap (sLen+n) sCap*info.bytes≤2 ^ 48:=by
   have h2:=nextslicecap_le (sLen+n) sCap A0
   calc Builtin.nextslicecap (sLen+n) sCap*info.bytes≤2000200*1024:=Nat.mul_le_mul (by omega) hb
    _≤2 ^ 48:=by decide
  refine ⟨sLen+n+(w.tape w.drawn (.appendCap (sLen+n) sCap elem)) % (2 ^ 63-(sLen+n)),w.drawn+1,by omega,?_⟩
  have dD:¬((sLen+n:Nat):Int)>IntKind.i64.max:=by
   have:IntKind.i64.max=9223372036854775807:=by decide
   omega
  have qI:¬Builtin.nextslicecap (sLen+n) sCap*info.bytes>2 ^ 48:=by omega
  cases hd:P.underlying u with
  | none=>simp [HA,hd] at hu
  | some d =>
   cases d <;> first | (simp [HA,hd] at hu; done) | skip
   all_goals
    simp only [Builtin.append_,h0,h1,List.getElem?_toArray,List.getElem?_cons_zero,List.getElem?_cons_succ,Sem.run_bind,AG ht,AG hd,Result.andThen_ok,BC hs,Sem.run_pure,Bool.false_eq_true,if_false,hlen,if_neg (Nat.not_le.2 A0),Bool.not_false,if_true,G5 hi,dD,false_and,qI,run_choose,Question.forced,run_askRoom,Question.cut,BZ hz]; have e1:=hold (w.drawn+1); have e2:=GK (w.drawn+1); simp only [e1,e2,Result.andThen_ok,BZ hz,newRow,Sem.run_bind,run_newObj,Sem.run_pure]
theorem RR {old news:List Value} {old' ET rest:Array Value} (h1:Ap ρ old old'.toList) (h2:Ap ρ news ET.toList) (k:Nat) (hk:k<old.length+news.length) :
  AT ρ (cellAt (Tr.nil.Ah 0 (old++news)) #[] k) ((old'++ET++rest).getD (k+0) undef):=by
 rw [C_ _ _ _ (by simpa using hk)]; have h:=(h1.append h2).2 k (by simpa using hk); have hl:=(h1.append h2).1; have hk':k<(old'.toList++ET.toList).length:=by rw [←hl]; simpa using hk
 rw [List.getD_eq_getElem?_getD (l:=old'.toList++ET.toList)] at h
 have e:(old'++ET++rest).getD (k+0) undef=((old'.toList++ET.toList)[k]?).getD undef:=by
  rw [Array.getD_eq_getD_getElem?,←Array.getElem?_toList]; simp only [Array.toList_append,Nat.add_zero]; rw [List.getElem?_append_left hk']
 rw [e]; exact h
theorem Ld (z:Array Value) (n:Nat):(Builtin.zeroCells z n).size=n*z.size:=by simp [Builtin.zeroCells]
theorem Vf (hw:Ac P w0 ρ W w) {ts:Array TypeId} {t u ty:TypeId} {s s' x x' v:Value} {W1:CW} (h0:ts[0]?=some t) (h1:ts[1]?=some u) (hu:HA P u=true)
  (h:GI P t s x W=some (v,W1)) (hs:AT ρ s s') (hx:AT ρ x x') :
  ∃ v' w' ρ',D2 W ρ W1 ρ'∧(Builtin.append_ ts ty #[s',x']).run P w=.ok v' w'∧AT ρ' v v'∧Ac P w0 ρ' W1 w':=by
 unfold GI at h
 split at h
 ·rename_i elem base sLen sCap n ht il; obtain ⟨size,HD,h'⟩:=Af h; clear h; obtain ⟨z,KC,h⟩:=Af h'; clear h'; obtain ⟨news,GK,h'⟩:=Af h; clear h; have h:=h'; clear h'; rw [cond_eq_ite] at h; split at h
  rotate_left
  ·cases h
  rename_i BJ; simp only [Bool.and_eq_true] at BJ; obtain ⟨⟨⟨⟨⟨c1,c2⟩,c3⟩,c4⟩,c5⟩,c6⟩:=BJ; have c2:=Nat.eq_of_beq_eq_true c2; have c3:0<size:=by have:=Nat.le_of_ble_eq_true c3; omega
  have c4:=Nat.eq_of_beq_eq_true c4; have c5:=Nat.le_of_ble_eq_true c5; have c6:=Nat.le_of_ble_eq_true c6
  obtain ⟨info,Zd⟩:∃ i,P.info? elem=some i:=by
   unfold Db at HD
   cases hi:P.info? elem with
   | none=>simp [hi] at HD
   | some i=>exact ⟨i,rfl⟩
  have hb:info.bytes≤1024:=by simpa [Zd] using c6
  have P0:(P.info? elem).map (·.size)=some size:=HD; obtain ⟨ET,Zm,B0,AAP⟩:=WI hw hx il (Nat.le_refl n) GK; have uY:=hs; obtain ⟨NC,Hw,rfl,A9⟩:=hs.F5; obtain ⟨R1,R2⟩:=dG (P:=P) (ty:=ty) (base:=NC) (sLen:=sLen) (sCap:=Hw) w h0 h1 hu ht HD KC Zd hb c5 Zm AAP; have sv:ET.size=n*size:=by have:=B0.1; simp at this; omega
  have qI:sCap≤Hw:=by
   rcases A9 with ⟨_,_,h⟩ | ⟨b,b',_,_,⟨_,h⟩ | ⟨_,h,_⟩ | ⟨_,h,_⟩⟩
   ·omega
   ·rcases h with h | ⟨_,_,_,_,_,h⟩ <;> omega
   ·omega
   ·omega
  rw [cond_eq_ite] at h
  split at h
  ·rename_i hle; have hle:=Nat.le_of_ble_eq_true hle; have R1:=R1 (by omega); rw [cond_eq_ite] at h
   split at h
   ·rename_i RT; have RT:n=0:=Nat.eq_of_beq_eq_true RT; subst RT; simp only [Option.some.injEq,Prod.mk.injEq] at h; obtain ⟨rfl,rfl⟩:=h; refine ⟨.slice NC sLen Hw,w,ρ,.refl _,?_,uY,hw⟩; rw [R1]
    have:ET.toList=[]:=by
     have:ET.size=0:=by omega
     simpa using this
    rw [this]
    cases NC <;> simp [storeCells]
   ·rename_i RT; have RT:n≠0:=fun h=>RT (by rw [h]; rfl)
    rcases A9 with ⟨rfl,rfl,rfl⟩ | ⟨b,b',rfl,rfl,A9⟩
    ·simp only [Option.some.injEq,Prod.mk.injEq] at h; obtain ⟨rfl,rfl⟩:=h; exact ⟨.slice none (sLen+n) Hw,w,ρ,.refl _,by rw [R1]; simp,.ZV _ _,hw⟩
    ·rcases A9 with ⟨ha,hc⟩ | ⟨_,h0',_⟩ | ⟨_,h0',_⟩
     ·simp only at h
      split at h
      ·rename_i c m zz e BY; rw [cond_eq_ite] at h
       split at h
       ·rename_i qJ; have qJ:=Nat.le_of_ble_eq_true qJ; simp only [Option.some.injEq,Prod.mk.injEq] at h; obtain ⟨rfl,rfl⟩:=h; obtain ⟨x,Zn,fr,Vg,rfl,Y9,cq,hr,hn,dH,ct,_,Ei⟩:=hw.cells ha BY; have FW:=hw.Az BY rfl Vg (hr.write (vs:=news) (vs':=ET.toList) B0 (k:=b.off+sLen*size) (by omega)); refine ⟨_,_,ρ,.refl _,?_,.slice _ ha hc,FW⟩; rw [R1]; simp only [Sem.run_bind,LX]; rw [Ev (P:=P) (b.off+x.o+sLen*size) ET.toList 0 w Zn Y9 cq (by simp; omega) (B0.Xi c1)]; simp only [Result.andThen_ok,Sem.run_pure,Nat.add_zero]; have:b.off+x.o+sLen*size=b.off+sLen*size+x.o:=by omega
        rw [this]
       ·cases h
      ·cases h
     ·omega
     ·omega
  ·rename_i hle
   have hle:sCap<sLen+n:=by
    have:¬sLen+n≤sCap:=fun hh=>hle (Nat.ble_eq_true_of_le hh); omega
   have Xj:sLen=0→(∀ d,(Builtin.firstCells size sLen (.slice NC sLen Hw)).run P { w with drawn:=d }=.ok #[] { w with drawn:=d })→Hw<sLen+n →
     v=.slice (some ⟨W.sz,0,none⟩) (sLen+n) (sLen+n)→W1=W.new (.cells (Tr.nil.Ah 0 news) ((sLen+n)*size) #[] elem) →
     ∃ v' w' ρ',D2 W ρ W1 ρ'∧(Builtin.append_ ts ty #[.slice NC sLen Hw,x']).run P w=.ok v' w'∧AT ρ' v v'∧Ac P w0 ρ' W1 w':=by
    intro SV hold A0 hv hW; subst hv hW SV; obtain ⟨nc,d,su,Hk⟩:=R2 A0 #[] hold; have D7:=hw.drew d
    have uZ:((#[]:Array Value)++ET++Builtin.zeroCells z.cells (nc-(0+n))).size=nc*size:=by
     simp only [Array.size_append,Ld,sv,c4,List.size_toArray,List.length_nil]; obtain ⟨k,rfl⟩:∃ k,nc=0+n+k:=⟨nc-(0+n),by omega⟩
     have:0+n+k-(0+n)=k:=by omega
     rw [this,Nat.add_mul,Nat.zero_add n]; omega
    have C':Ext ρ (fun i=>if i=W.sz then some ⟨w.heap.size,0,size,(0+n)*size,nc*size⟩ else ρ i):=fun i y hy=>by
     have:=hw.SU i y hy; show (if i=W.sz then _ else ρ i)=some y; rw [if_neg (by omega)]; exact hy
    obtain ⟨hg,FW⟩:=D7.new (o:=.cells (Tr.nil.Ah 0 news) ((0+n)*size) #[] elem) (o':=.cells (#[]++ET++Builtin.zeroCells z.cells (nc-(0+n))) elem (0,0))
     ⟨w.heap.size,0,size,(0+n)*size,nc*size⟩ rfl (by
      refine .cells P0 uZ ?_ (fun k hk=>?_) ⟨NF.zero _,fun h=>(h rfl).elim⟩
      ·simp only [Nat.zero_add]; exact Nat.mul_le_mul_right _ (by omega)
      ·have:=RR (ρ:=ρ) (old:=[]) (old':=#[]) (rest:=Builtin.zeroCells z.cells (nc-(0+n))) (.nil _) B0 k (by simp [c2]; simpa using hk)
       exact this.mono C')
    refine ⟨_,_,_,hg,Hk,?_,FW⟩; refine .slice _ ⟨rfl,⟨w.heap.size,0,size,(0+n)*size,nc*size⟩,by simp,by simp⟩ (.inr ⟨⟨w.heap.size,0,size,(0+n)*size,nc*size⟩,by simp,c3,by simp,by simp,su⟩)
   rcases A9 with ⟨rfl,rfl,rfl⟩ | ⟨b,b',rfl,rfl,A9⟩
   ·simp only [cond_eq_ite] at h
    split at h
    ·rename_i SV; have SV:=Nat.eq_of_beq_eq_true SV; simp only [Option.some.injEq,Prod.mk.injEq] at h; obtain ⟨hv,hW⟩:=h; exact Xj SV (fun _=>rfl) (by omega) hv.symm hW.symm
    ·cases h
   ·simp only [cond_eq_ite] at h
    split at h
    ·rename_i Jg
     split at h
     ·rename_i SV; simp only [Bool.and_eq_true] at SV; have SW:=Nat.eq_of_beq_eq_true SV.1; have Vh:=Nat.eq_of_beq_eq_true SV.2; simp only [Option.some.injEq,Prod.mk.injEq] at h; obtain ⟨hv,hW⟩:=h
      have zh:Hw=0:=by
       rcases A9 with ⟨ha,_⟩ | ⟨_,_,hq,_⟩ | ⟨_,_,h1,_⟩
       ·rw [ha.1] at Jg; cases Jg
       ·rw [hq] at Jg; cases Jg
       ·exact h1
      refine Xj SW (fun d=>?_) (by omega) hv.symm hW.symm; rw [SW]; simp only [Builtin.firstCells,Nat.zero_mul]; exact Lc _ _
     ·cases h
    rename_i Jg
    have A9:(KG ρ b b'∧PY ρ b sCap Hw)∨(sLen=0∧sCap=0∧∃ x,ρ b.block=some x∧b'.block=x.b∧b'.spot=none∧(Hw=0∨(0<x.sz∧b'.off+Hw*x.sz=x.n'))):=by
     rcases A9 with h1 | ⟨h1,h2,_,h3⟩ | ⟨_,_,_,h1⟩
     ·exact .inl h1
     ·exact .inr ⟨h1,h2,h3⟩
     ·rw [h1] at Jg; exact (Jg rfl).elim
    clear Xj; split at h
    rotate_left
    ·cases h
    rename_i c m zz e BY; split at h
    rotate_left
    ·cases h
    rename_i BJ; simp only [Bool.and_eq_true] at BJ; have qJ:=Nat.le_of_ble_eq_true BJ.1; have hee:=Nat.eq_of_beq_eq_true BJ.2; subst hee; simp only [Option.some.injEq,Prod.mk.injEq] at h; obtain ⟨rfl,rfl⟩:=h
    obtain ⟨x,Zn,q,fr,Vg,hq,Y9,cq,hr,dH,R_,LZ⟩:∃ x Zn q fr,ρ b.block=some x∧b'=⟨x.b,q,none⟩∧w.heap[x.b]?=some (.cells Zn e fr)∧NF fr Zn.size∧HZ P ρ x (.cells c m zz e) (.cells Zn e fr)∧Zn.size=x.n' ∧
      (Hw=sCap∨(x.sz=size∧q+Hw*size=x.n'))∧(∀ k,k<sLen*size→AT ρ (cellAt c zz (b.off+k)) (Zn.getD (q+k) undef)):=by
     rcases A9 with ⟨ha,hc⟩ | ⟨SV,zh,x,Vg,WK,NB,hc⟩
     ·obtain ⟨x,Zn,fr,Vg,rfl,Y9,cq,hr,hn,dH,ct,he,Ei⟩:=hw.cells ha BY
      refine ⟨x,Zn,b.off+x.o,fr,Vg,rfl,Y9,cq,hr,dH,?_,fun k hk=>?_⟩
      ·rcases hc with hc | ⟨y,hy,_,_,h2,_⟩
       ·exact .inl hc
       ·rw [Vg] at hy; cases hy; have:=XY HD he; rw [this] at h2; exact .inr ⟨this,h2⟩
      ·have:=Ei (b.off+k) (by omega); have e1:b.off+k+x.o=b.off+x.o+k:=by omega
       rwa [e1] at this
     ·obtain ⟨o',Hi,hr⟩:=hw.obj BY (by simp) Vg rfl
      cases hr with
      | cells he Vh ct Ei hq =>
       refine ⟨x,_,b'.off,_,Vg,?_,Hi,hq.1,.cells he Vh ct Ei hq,Vh,?_,fun k hk=>?_⟩
       ·cases b'; simp_all
       ·rcases hc with hc | ⟨_,hc⟩
        ·left; omega
        ·have:=XY HD he; rw [this] at hc; exact .inr ⟨this,hc⟩
       ·rw [SV] at hk; omega
    subst hq
    by_cases Jq:sLen+n≤Hw
    ·have R_:=R_.resolve_left (by omega); have R1:=R1 Jq
     have AAQ:q+(sLen+n)*size≤x.n':=by
      have:=Nat.mul_le_mul_right size Jq; omega
     have hmul:(sLen+n)*size=sLen*size+n*size:=Nat.add_mul _ _ _; have pU:news.length=ET.toList.length:=B0.1
     have C':Ext ρ (fun i=>if i=W.sz then some ⟨x.b,q,size,(sLen+n)*size,x.n'⟩ else ρ i):=fun i y hy=>by
      have:=hw.SU i y hy; show (if i=W.sz then _ else ρ i)=some y; rw [if_neg (by omega)]; exact hy
     obtain ⟨hg,FW⟩:=hw.rename (u:=.cells (Tr.nil.Ah 0 (BW c zz (sLen*size) b.off++news)) ((sLen+n)*size) #[] e) (u':=.cells (Fp Zn (q+sLen*size) ET.toList) e fr)
      (y:=⟨x.b,q,size,(sLen+n)*size,x.n'⟩) BY rfl Vg rfl (by
       refine .cells P0 (by rw [GJ]; exact dH) AAQ (fun k hk=>?_) ⟨by rw [GJ]; exact cq,fun h=>(h rfl).elim⟩; have hk:k<(sLen+n)*size:=hk; refine AT.mono (ρ:=ρ) ?_ C'; rw [C_ _ _ _ (by simp [Aw,c2]; omega),RH _ _ _ _ (by rw [←pU]; omega)]; rw [←pU]; show AT ρ _ (if q+sLen*size≤k+q∧k+q<q+sLen*size+news.length then ET.toList.getD (k+q-(q+sLen*size)) undef else Zn.getD (k+q) undef)
       by_cases lG:k<sLen*size
       ·rw [if_neg (by omega)]; rw [List.getD_eq_getElem?_getD,List.getElem?_append_left (by rw [Aw]; exact lG),←List.getD_eq_getElem?_getD,Fi _ _ _ _ _ lG,Nat.add_comm k q]; exact LZ k lG
       ·rw [if_pos (by omega)]; rw [List.getD_eq_getElem?_getD,List.getElem?_append_right (by rw [Aw]; omega),←List.getD_eq_getElem?_getD,Aw]; have e1:k+q-(q+sLen*size)=k-sLen*size:=by omega
        rw [e1]
        exact B0.2 _ (by omega))
     refine ⟨.slice (some ⟨x.b,q,none⟩) (sLen+n) Hw,_,_,hg,?_,?_,FW⟩
     ·rw [R1]; simp only [Sem.run_bind,LX]; rw [Ev (P:=P) (q+sLen*size) ET.toList 0 w Zn Y9 cq (by rw [←pU]; omega) (B0.Xi c1)]; simp only [Result.andThen_ok,Sem.run_pure,Nat.add_zero]
     ·refine .slice _ ⟨rfl,⟨x.b,q,size,(sLen+n)*size,x.n'⟩,by simp,by simp⟩ (.inr ⟨⟨x.b,q,size,(sLen+n)*size,x.n'⟩,by simp,c3,by simp,?_,Jq⟩); show 0+q+Hw*size=x.n'; omega
    ·have hN:Eh (some b) (sLen*size) W=some (BW c zz (sLen*size) b.off):=by
      simp only [Eh,BY,cond_eq_ite]; rw [if_pos (Nat.ble_eq_true_of_le qJ)]
      split
      ·rename_i h0; rw [Nat.eq_of_beq_eq_true h0]; rfl
      ·rfl
     obtain ⟨old',Hi,pS⟩:=KJ hw uY (Nat.le_refl sLen) hN; obtain ⟨nc,d,su,Hk⟩:=R2 (by omega) old' Hi; have D7:=(hw.kill BY).drew d; have im:old'.size=sLen*size:=by have:=pS.1; rw [Aw] at this; simpa using this.symm
     have uZ:(old'++ET++Builtin.zeroCells z.cells (nc-(sLen+n))).size=nc*size:=by
      simp only [Array.size_append,Ld,sv,c4,im]; obtain ⟨k,rfl⟩:∃ k,nc=sLen+n+k:=⟨nc-(sLen+n),by omega⟩
      have:sLen+n+k-(sLen+n)=k:=by omega
      rw [this,Nat.add_mul,Nat.add_mul]
     have C':Ext ρ (fun i=>if i=W.sz then some ⟨w.heap.size,0,size,(sLen+n)*size,nc*size⟩ else ρ i):=fun i y hy=>by
      have:=hw.SU i y hy; show (if i=W.sz then _ else ρ i)=some y; rw [if_neg (by omega)]; exact hy
     obtain ⟨hg,FW⟩:=D7.new (o:=.cells (Tr.nil.Ah 0 (BW c zz (sLen*size) b.off++news)) ((sLen+n)*size) #[] e) (o':=.cells (old'++ET++Builtin.zeroCells z.cells (nc-(sLen+n))) e (0,0))
      ⟨w.heap.size,0,size,(sLen+n)*size,nc*size⟩ rfl (by
       refine .cells P0 uZ ?_ (fun k hk=>?_) ⟨NF.zero _,fun h=>(h rfl).elim⟩
       ·simp only [Nat.zero_add]; exact Nat.mul_le_mul_right _ (by omega)
       ·have hk:k<(sLen+n)*size:=hk; rw [Nat.add_mul] at hk
        exact (RR (ρ:=ρ) pS B0 k (by rw [Aw]; omega)).mono C')
     refine ⟨_,_,_,hg,Hk,?_,FW⟩
     refine .slice _ ⟨rfl,⟨w.heap.size,0,size,(sLen+n)*size,nc*size⟩,?_,by simp⟩ (.inr ⟨⟨w.heap.size,0,size,(sLen+n)*size,nc*size⟩,?_,c3,by simp,by simp,su⟩)
     ·show (if W.sz=W.sz then _ else _)=_; rw [if_pos rfl]
     ·show (if W.sz=W.sz then _ else _)=_; rw [if_pos rfl]
 ·cases h
end
end Go.Ce
namespace Go.Ce
open Go.RowKit (Below)
section
variable {P:Program} {w0:World} {ρ:Bl} {W:CW} {w:World} {o:Oper} {e e':Operand→Value} {outs:List (BX × CW)}
theorem Vi (hz:ZP P) {f:FuncId} {as:List Value} {as':Array Value} {v:Value} {W1:CW} (h:Iv P f as W=some (v,W1)) (hw:Ac P w0 ρ W w) (ha:Ap ρ as as'.toList) :
  ∃ v' w' ρ',(callFunc f as').run P w=.ok (.value v') w'∧D2 W ρ W1 ρ'∧AT ρ' v v'∧Ac P w0 ρ' W1 w':=by
 unfold Iv at h; split at h
 rotate_left
 ·cases h
 rename_i fn Xf; rw [cond_eq_ite] at h; split at h
 rotate_left
 ·cases h
 rename_i hb; rw [cond_eq_ite] at h; split at h
 rotate_left
 ·cases h
 rename_i hn; split at h
 rotate_left
 ·cases h
 rename_i t r; split at h
 rotate_left
 ·cases h
 rename_i es EE BY
 cases h
 obtain ⟨y,hy,hv⟩:=ha.get (i:=0) (x:=.iface t (.map (some r))) rfl
 have hl:as'=#[y]:=by
  have h1:=ha.1; apply Array.ext'
  cases hq:as'.toList with
  | nil=>rw [hq] at h1; cases h1
  | cons z l =>
   rw [hq] at h1 hy; have:l=[]:=by simpa using h1.symm
   subst this
   simpa using hy
 subst hl
 cases hv with
 | iface _ hv =>
  cases hv with
  | @map _ r' Y' =>
   obtain ⟨x,hx,rfl⟩:=Y'; obtain ⟨o',Hi,hr⟩:=hw.obj BY (by simp) hx rfl
   cases hr with
   | @map _ CF _ h1 h2 =>
    have C':Ext ρ (fun i=>if i=W.sz then some ⟨w.heap.size,0,0,0,0⟩ else ρ i):=fun i y hy=>by
     have:=hw.SU i y hy; show (if i=W.sz then _ else ρ i)=some y; rw [if_neg (by omega)]; exact hy
    obtain ⟨hg,Fy⟩:=hw.new (o:=.map es EE) (o':=.map CF EE) ⟨w.heap.size,0,0,0,0⟩ rfl (.map rfl (h2.mono C'))
    have Hk:(Extern.MapsClone.clone #[.iface t (.map (some x.b))]).run P w=.ok (.iface t (.map (some w.heap.size))) { w with heap:=w.heap.push (.map CF EE) }:=by
     have e1:Extern.MapsClone.clone #[.iface t (.map (some x.b))]=(getObj x.b >>= fun o=>match o with
       | .map entries clock=>(newObj (.map entries clock) >>= fun n=>pure (.iface t (.map (some n))))
       | _=>stuck "maps.clone: a map expected"):=rfl
     have hgo:(getObj x.b).run P w=.ok (.map CF EE) w:=As Hi (by simp); rw [e1]; simp only [Sem.run_bind,hgo,Result.andThen_ok,run_newObj,Sem.run_pure]
    exact ⟨_,_,_,hz.2 f fn Xf hb hn _ _ _ _ Hk,hg,.iface _ (.map ⟨⟨w.heap.size,0,0,0,0⟩,by simp,rfl⟩),Fy⟩
theorem Xk (hz:ZP P) {c:Call} {f:Operand} (ho:o.op=.call c) (hf:c.callee=.value f) (h:BS P o e W=some outs) (hw:Ac P w0 ρ W w) (hx:AT ρ (e f) (e' f))
  (ha:∀ x,x ∈ c.args.toList→AT ρ (e x) (e' x)):A6 P w0 ρ W ((execOp e' o).run P w) outs:=by
 simp only [BS,ho,hf] at h; have C4:Ap ρ (c.args.toList.map e) (c.args.map e').toList:=by simpa using Ap.map (ρ:=ρ) c.args.toList e e' ha
 generalize hn:Ht (e f) (c.args.toList.map e)=n at h; unfold Ht at hn
 split at hn
 ·rename_i fn first cap hc; rw [hc] at hx; generalize N8:e' f=RK at hx
  cases hx with
  | @func _ f' _ x' _ y' Xf h1 h2 h3 h4 =>
   cases Xf
   have hA:Ap ρ (first.toList++c.args.toList.map e++cap.toList) (x'++c.args.map e'++y').toList:=by
    have e1:=Ap.arr.2 ⟨h1,h2⟩; have e2:=Ap.arr.2 ⟨h3,h4⟩
    simpa using (e1.append C4).append e2
   have hE:(execOp e' o).run P w=(callFunc fn (x'++c.args.map e'++y')).run P w:=by
    simp only [execOp,ho,resolve,hf,N8,Deferred.ofValue,Sem.run_bind,Sem.run_pure,Result.andThen_ok,invoke]
   subst hn; simp only at h
   split at h
   ·rename_i v W1 C'
    cases h
    obtain ⟨v',w',ρ',Hk,hg,hv,Fy⟩:=Vi hz C' hw hA; exact ⟨_,_,ρ',List.mem_singleton.2 rfl,hg,.value (w:=w') (by rw [hE,Hk]) hv Fy⟩
   ·cases h
    exact ⟨_,_,ρ,List.mem_singleton.2 rfl,.refl _,.enter (args':=x'++c.args.map e'++y') (w:=w) hE hA hw⟩
 ·rename_i l first cap hc; subst hn
  cases h
  rw [hc] at hx; generalize N8:e' f=RK at hx
  cases hx with
  | @func _ f' _ x' _ y' Xf h1 h2 h3 h4 =>
   cases Xf with
   | yield hb =>
    refine ⟨_,_,ρ,List.mem_singleton.2 rfl,.refl _,.round (args':=x'++c.args.map e') (w:=w) ?_ hb ?_ hw⟩
    ·simp only [execOp,ho,resolve,hf,N8,Deferred.ofValue,Sem.run_bind,Sem.run_pure,Result.andThen_ok,invoke]
    ·have e1:=Ap.arr.2 ⟨h1,h2⟩
     simpa using e1.append C4
 ·subst hn
  cases h
theorem ND:∀ {l:List Value} {m:List UInt8},Gn l=some m→m.length=l.length∧∀ l',Ap ρ l l'→∃ ns:List Int,l'=ns.map (Value.int .u8)∧m=ns.map fun n=>UInt8.ofNat n.toNat
 | [],m,h=>by cases h; exact ⟨rfl,fun l' hl=>⟨[],List.length_eq_zero_iff.1 hl.1.symm,rfl⟩⟩
 | v::l,m,h=>by
  unfold Gn at h
  split at h
  ·cases ‹_::_=[]›
  ·rename_i n l2 heq
   cases heq
   split at h
   ·rename_i m2 hm
    cases h
    obtain ⟨h1,h2⟩:=ND hm; refine ⟨by simp [h1],fun l' hl=>?_⟩
    cases l' with
    | nil=>have:=hl.1; simp at this
    | cons y l' =>
     obtain ⟨ns,e1,e2⟩:=h2 l' hl.tail; have hv:=hl.head
     cases hv
     exact ⟨n::ns,by rw [e1]; rfl,by rw [e2]; rfl⟩
   ·cases h
  ·cases h
theorem dI (hw:Ac P w0 ρ W w) {s d el:TypeId} {x x' v:Value} (hs:P.underlying s=some (.slice el)) (hd:P.underlying d=some .string) (h:iU P el x W=some v) (hx:AT ρ x x') :
  (convert s d x').run P w=.ok v w∧AT ρ v v:=by
 unfold iU at h; split at h
 rotate_left
 ·cases h
 rename_i b n c P0; obtain ⟨l,hl,h⟩:=Af h; obtain ⟨m,hm,h⟩:=Af h
 cases h
 refine ⟨?_,.string _⟩; obtain ⟨b',c',rfl,A9⟩:=hx.F5; rw [run_convert_bytes_string w s d el b' n c' hs P0 hd]; have Xe:Eh b (n*1) W=some l:=by rw [Nat.mul_one]; exact hl
 obtain ⟨l',hr,B0⟩:=KJ hw hx (Nat.le_refl n) Xe; obtain ⟨_,hb⟩:=ND (ρ:=ρ) hm; obtain ⟨ns,e1,e2⟩:=hb _ B0
 rcases A9 with ⟨rfl,rfl,_⟩ | ⟨a,a',rfl,rfl,_⟩
 ·have Mw:l=[]:=by cases hl; rfl
  subst Mw
  cases hm
  simp [Conv.bytesToString]; rfl
 ·have hr:=hr w.drawn; simp only [Builtin.firstCells,Nat.mul_one] at hr; have e3:l'=(ns.map (Value.int .u8)).toArray:=by apply Array.ext'; rw [e1]
  rw [e3] at hr; rw [run_bytesToString w a' n c' ns hr,foldl_push_bytes,e2]; simp
theorem dJ (hw:Ac P w0 ρ W w) {s d el:TypeId} {b:ByteArray} {v:Value} {W1:CW} (hs:P.underlying s=some .string) (hd:P.underlying d=some (.slice el)) (h:p_ P el b W=some (v,W1)) :
  ∃ v' w' ρ',(convert s d (.string b)).run P w=.ok v' w'∧D2 W ρ W1 ρ'∧AT ρ' v v'∧Ac P w0 ρ' W1 w':=by
 unfold p_ at h; split at h
 rotate_left
 ·cases h
 rename_i P0 HD
 cases h
 let cap:=grownCap w b.size 0 el
 have ua:b.size≤cap:=by
  show b.size≤grownCap w b.size 0 el; simp only [grownCap,Question.cut]; omega
 have D7:=hw.drew (w.drawn+1)
 have C':Ext ρ (fun i=>if i=W.sz then some ⟨w.heap.size,0,1,b.size,cap⟩ else ρ i):=fun i y hy=>by
  have:=hw.SU i y hy; show (if i=W.sz then _ else ρ i)=some y; rw [if_neg (by omega)]; exact hy
 have hbs:b.data.size=b.size:=rfl
 have gL:(bytesRow b cap).size=cap:=by
  simp [bytesRow,hbs]; omega
 obtain ⟨hg,FW⟩:=D7.new (o:=.cells (Tr.nil.Ah 0 (C0 (sb b))) b.size #[] el) (o':=.cells (bytesRow b cap) el ((bytesRow b cap).size,(bytesRow b cap).size+1)) ⟨w.heap.size,0,1,b.size,cap⟩ rfl (by
  refine .cells HD gL (by show 0+b.size≤cap; omega) (fun k hk=>?_) ⟨fun k hk=>by simp; omega,fun h=>(h rfl).elim⟩; have hk:k<b.size:=hk; have lG:k<b.data.size:=hk; have hlen:(C0 (sb b)).length=b.size:=by simp [C0,sb,hbs]
  rw [C_ _ _ _ (by omega)]
  have e1:(bytesRow b cap).getD (k+0) undef=.int .u8 b.data[k].toNat:=by
   rw [Array.getD_eq_getD_getElem?,Nat.add_zero,bytesRow,Array.getElem?_append_left (by simpa using lG)]; simp [Array.getElem?_eq_getElem lG]
  have e2:(C0 (sb b)).getD k undef=.int .u8 b.data[k].toNat:=by
   simp [C0,sb,List.getD_eq_getElem?_getD,Array.getElem?_eq_getElem lG]
  rw [e1,e2]
  exact .int _ _)
 refine ⟨.slice (some ⟨w.heap.size,0,none⟩) b.size cap,_,_,?_,hg,.slice _ ⟨rfl,⟨w.heap.size,0,1,b.size,cap⟩,by simp,by simp⟩ (.inr ⟨⟨w.heap.size,0,1,b.size,cap⟩,by simp,by show 0<1; omega,by simp,by simp,ua⟩),FW⟩; exact run_bytes_of_string w s d el b hs hd P0
theorem dK {s d:TypeId} {x:Operand} (ho:o.op=.convert s d x) (h:BS P o e W=some outs) (hw:Ac P w0 ρ W w) (hx:AT ρ (e x) (e' x)) :
  A6 P w0 ρ W ((execOp e' o).run P w) outs:=by
 simp only [BS,ho] at h
 split at h
 ·rename_i ud k k0 n hs hd hc
  cases h
  rw [hc] at hx; generalize Ei:e' x=RK at hx
  cases hx
  refine .value hw ?_ (.int _ _); simp only [execOp,ho,Ei]; refine A_ ?_; simp only [convert,Sem.run_bind,AG hs,AG hd,Result.andThen_ok,Conv.intToInt,Sem.run_pure]
 ·rename_i ud s0 hs hd hc
  cases h
  rw [hc] at hx; generalize Ei:e' x=RK at hx
  cases hx
  refine .value hw ?_ (.string _); simp only [execOp,ho,Ei]; refine A_ ?_
  cases ud <;> simp [convert,AG hs,AG hd]
 ·rename_i el s0 hs hd hc; obtain ⟨v,W1,hv,rfl⟩:=ML h; rw [hc] at hx; generalize Ei:e' x=RK at hx
  cases hx
  obtain ⟨v',w',ρ',hr,hg,Xg,Fy⟩:=dJ hw hs hd hv; refine ⟨_,_,ρ',List.mem_singleton.2 rfl,hg,.value (w:=w') ?_ Xg Fy⟩; simp only [execOp,ho,Ei]; exact A_ hr
 ·rename_i el _ hs hd _; obtain ⟨v,hv,rfl⟩:=EL h; obtain ⟨hr,Xg⟩:=dI hw hs hd hv hx; refine .value hw ?_ Xg; simp only [execOp,ho]; exact A_ hr
 ·cases h
theorem Zo (hw:Ac P w0 ρ W w) {ts:Array TypeId} {t ty:TypeId} {d d' s s' v:Value} {W1:CW} (h0:ts[0]?=some t)
  (h:ZS P t d s W=some (v,W1)) (hd:AT ρ d d') (hs:AT ρ s s'):∃ v' w',(Builtin.copy_ ts ty #[d',s']).run P w=.ok v' w'∧AT ρ v v'∧Ac P w0 ρ W1 w':=by
 unfold ZS at h
 split at h
 ·rename_i elem base ZT AFR sLen ht il; obtain ⟨size,HD,h2⟩:=Af h; clear h; obtain ⟨news,GK,h⟩:=Af h2; clear h2; have qK:Nat.min sLen ZT≤sLen:=Nat.min_le_left _ _; obtain ⟨ET,Zm,B0,hl⟩:=WI hw hs il qK GK; obtain ⟨NC,AAR,rfl,A9⟩:=hd.F5
  have Hk:(Builtin.copy_ ts ty #[.slice NC ZT AAR,s']).run P w=(do
      if let some a:=NC then storeCells a ET.toList
      pure (goInt (Nat.min sLen ZT)):Sem Value).run P w:=by
   simp only [Builtin.copy_,h0,List.getElem?_toArray,List.getElem?_cons_zero,List.getElem?_cons_succ,Sem.run_bind,AG ht,Result.andThen_ok,hl,BC HD,Zm w.drawn]
   cases NC <;> rfl
  rw [cond_eq_ite] at h
  split at h
  ·rename_i RT; have RT:=Nat.eq_of_beq_eq_true RT; simp only [Option.some.injEq,Prod.mk.injEq] at h; obtain ⟨rfl,rfl⟩:=h; refine ⟨_,w,?_,.int _ _,hw⟩; rw [Hk]
   have Mw:ET.toList=[]:=by
    have hlen:=B0.1
    have:news=[]:=by
     rw [RT] at GK; unfold G_ at GK
     split at GK
     ·rw [Nat.zero_mul] at GK; unfold Eh at GK
      split at GK
      ·cases GK; rfl
      ·cases GK; rfl
     ·rw [cond_eq_ite] at GK
      split at GK
      ·cases GK; rfl
      ·cases GK
     ·cases GK
    rw [this] at hlen; exact List.length_eq_zero_iff.1 hlen.symm
   rw [Mw]
   cases NC <;> simp [storeCells,goInt]
  ·rename_i RT
   rcases A9 with ⟨rfl,_,_⟩ | ⟨b,b',rfl,rfl,A9⟩
   ·cases h
   ·simp only at h
    split at h
    ·rename_i c m zz ee BY; rw [cond_eq_ite] at h
     split at h
     ·rename_i BJ; simp only [Bool.and_eq_true] at BJ; have hle:=Nat.le_of_ble_eq_true BJ.2; simp only [Option.some.injEq,Prod.mk.injEq] at h; obtain ⟨rfl,rfl⟩:=h
      rcases A9 with ⟨ha,_⟩ | ⟨hd0,_,_⟩ | ⟨hd0,_,_⟩
      ·obtain ⟨x,Zn,fr,Vg,rfl,Y9,cq,hr,hn,dH,ct,_,Ei⟩:=hw.cells ha BY; have FW:=hw.Az BY rfl Vg (hr.write (vs:=news) (vs':=ET.toList) B0 (k:=b.off) (by omega)); refine ⟨_,_,?_,.int _ _,FW⟩; rw [Hk]; simp only [Sem.run_bind]; rw [Ev (P:=P) (b.off+x.o) ET.toList 0 w Zn Y9 cq (by have:=B0.1; omega) (B0.Xi BJ.1)]; simp only [Result.andThen_ok,Sem.run_pure,Nat.add_zero]; rfl
      ·exact (RT (by rw [hd0]; simp)).elim
      ·exact (RT (by rw [hd0]; simp)).elim
     ·cases h
    ·cases h
 ·cases h
theorem dL (hw:Ac P w0 ρ W w) {ts:Array TypeId} {t ty:TypeId} {x x' v:Value} (h0:ts[0]?=some t) (h:A8 P t x W=some v) (hx:AT ρ x x') :
  ∃ v',(Builtin.len_ ts ty #[x']).run P w=.ok v' w∧AT ρ v v':=by
 unfold A8 at h
 split at h
 ·rename_i s ht
  cases h; cases hx
  exact ⟨_,by simp [Builtin.len_,h0,AG ht,goInt],.int _ _⟩
 ·rename_i el a0 n c ht
  cases h
  obtain ⟨a',c',rfl,_⟩:=hx.F5; exact ⟨_,by simp [Builtin.len_,h0,AG ht,goInt],.int _ _⟩
 ·rename_i kt el ht
  cases h; cases hx
  exact ⟨_,by simp [Builtin.len_,h0,AG ht,goInt],.int _ _⟩
 ·rename_i kt el r ht
  cases hx with
  | map hb =>
   split at h
   ·rename_i es EE BY
    cases h
    obtain ⟨y,CF,hy,rfl,_,hh,B0⟩:=hw.RP hb BY; have hl:=B0.length; refine ⟨.int .i64 CF.size,by simp [Builtin.len_,h0,AG ht,goInt,As hh (by simp)],?_⟩; rw [hl]
    simpa using AT.int .i64 _
   ·cases h
 ·cases h
theorem dM (hw:Ac P w0 ρ W w) {ts:Array TypeId} {t ty:TypeId} {x x' v:Value} (h0:ts[0]?=some t) (h:uG P t x W=some v) (hx:AT ρ x x') :
  ∃ v',(Builtin.cap_ ts ty #[x']).run P w=.ok v' w∧AT ρ v v':=by
 unfold uG at h
 split at h
 ·rename_i el n c ht
  cases h
  cases hx
  refine ⟨_,?_,.int _ _⟩; simp [Builtin.cap_,h0,AG ht,goInt]
 ·rename_i el a n c ht
  split at h
  ·rename_i cc m z e BY; rw [cond_eq_ite] at h
   split at h
   ·cases h
   ·rename_i hz; simp only [Bool.or_eq_true,Nat.beq_eq,not_or] at hz
    cases h
    cases hx with
    | @slice _ a' _ _ c' ha hc =>
     have:c'=c:=by
      rcases hc with hc | ⟨x,hx,hp,h1,h2,_⟩
      ·exact hc
      ·obtain ⟨_,y,hy,rfl⟩:=ha; rw [hx] at hy; cases hy; obtain ⟨o',Hi,hr⟩:=hw.obj BY (by simp) hx rfl
       cases hr with
       | cells _ _ _ _ hq =>
        obtain ⟨e1,e2⟩:=hq.2 hz.1; have:c*x.sz=c'*x.sz:=by omega
        exact (Nat.eq_of_mul_eq_mul_right hp this).symm
     subst this; refine ⟨_,?_,.int _ _⟩; simp [Builtin.cap_,h0,AG ht,goInt]
    | JL=>exact (hz.2 rfl).elim
    | Hz=>exact (hz.2 rfl).elim
  ·cases h
 ·cases h
theorem Vj (hw:Ac P w0 ρ W w) {ts:Array TypeId} {t ty:TypeId} {m m' k k':Value} {W1:CW} (h0:ts[0]?=some t) (h:N' P t m k W=some W1) (hm:AT ρ m m') (hk:AT ρ k k') :
  ∃ w',(Builtin.delete_ ts ty #[m',k']).run P w=.ok (.tuple #[]) w'∧Ac P w0 ρ W1 w':=by
 unfold N' at h
 split at h
 ·rename_i kt el r ht
  cases hm with
  | @map _ r' hb =>
   split at h
   ·rename_i es EE BY; obtain ⟨f,hf,h2⟩:=Af h; clear h; have h:=h2; obtain ⟨y,CF,hy,rfl,pT,hh,B0⟩:=hw.RP hb BY; obtain ⟨r',LQ,Ix,A9⟩:=Lb hf hk B0
    rcases A9 with ⟨rfl,rfl⟩ | ⟨j,x1,x1',en,rfl,rfl,uT,FG,Zl⟩
    ·cases h
     refine ⟨{ w with heap:=w.heap.setIfInBounds y.b (.map CF EE) },?_,hw.Az BY rfl hy (.map pT B0)⟩; simp [Builtin.delete_,h0,AG ht,As hh (by simp),LQ,Ix,DB hh (by simp)]
    ·cases h
     refine ⟨{ w with heap:=w.heap.setIfInBounds y.b (.map (CF.eraseIdxIfInBounds j) EE) },?_,hw.Az BY rfl hy (.map pT ?_)⟩
     ·simp [Builtin.delete_,h0,AG ht,As hh (by simp),LQ,Ix,DB hh (by simp)]
     ·have:=B0.KE j; have e1:(CF.eraseIdxIfInBounds j).toList=CF.toList.eraseIdx j:=by simp
      rw [e1]; exact this
   ·cases h
 ·cases h
theorem Xl (hz:ZP P) (hw:Ac P w0 ρ W w) {ts:Array TypeId} {t ty:TypeId} {x x':Value} {W1:CW} (h0:ts[0]?=some t) (h:TX P t x W=some W1) (hx:AT ρ x x') :
  ∃ w',(Builtin.clear_ ts ty #[x']).run P w=.ok (.tuple #[]) w'∧Ac P w0 ρ W1 w':=by
 unfold TX at h
 split at h
 ·rename_i kt el r ht
  split at h
  ·rename_i es EE BY
   cases h
   cases hx with
   | @map _ r' hb =>
    obtain ⟨y,CF,hy,rfl,pT,hh,B0⟩:=hw.RP hb BY; refine ⟨{ w with heap:=w.heap.setIfInBounds y.b (.map #[] EE) },?_,hw.Az BY rfl hy (.map pT trivial)⟩; simp [Builtin.clear_,h0,AG ht,As hh (by simp),DB hh (by simp)]
  ·cases h
 ·rename_i kt el ht
  cases h; cases hx
  exact ⟨w,by simp [Builtin.clear_,h0,AG ht],hw⟩
 ·rename_i el a n c ht; obtain ⟨size,HD,h2⟩:=Af h; clear h; obtain ⟨z0,KC,h⟩:=Af h2; clear h2; obtain ⟨a',c',rfl,A9⟩:=hx.F5; rw [cond_eq_ite] at h
  split at h
  ·rename_i RT; have RT:=Nat.eq_of_beq_eq_true RT; subst RT
   cases h
   refine ⟨w,?_,hw⟩
   cases a' <;> simp [Builtin.clear_,h0,AG ht]
  ·rename_i RT; have RT:n≠0:=fun h=>RT (by rw [h]; rfl)
   split at h
   ·rename_i cc m zz ee BY; rw [cond_eq_ite] at h
    split at h
    ·rename_i BJ; simp only [Bool.and_eq_true] at BJ; have hle:=Nat.le_of_ble_eq_true BJ.1
     cases h
     rcases A9 with ⟨h1,_⟩ | ⟨b,b',WK,rfl,A9⟩
     ·cases h1
     ·cases WK
      rcases A9 with ⟨ha,_⟩ | ⟨h1,_⟩ | ⟨h1,_⟩
      ·obtain ⟨x,Zn,fr,Vg,rfl,Y9,cq,hr,hn,dH,ct,_,Ei⟩:=hw.cells ha BY
       have mO:Ap ρ (BW .nil z0.cells (n*z0.cells.size) 0) (Builtin.zeroCells z0.cells n).toList:=by
        refine ⟨by simp [Aw,Builtin.zeroCells],fun i hi=>?_⟩; rw [Aw] at hi; rw [Fi _ _ _ _ _ hi,Nat.zero_add]
        have h1:=MM (ρ:=ρ) hz KC (n*z0.cells.size) (by
         rcases Nat.eq_zero_or_pos z0.cells.size with h0 | h0
         ·left; rw [h0]; rfl
         ·exact .inr h0) i hi
        simp only [Builtin.zeroCells]; rw [Array.getD_eq_getD_getElem?,←Array.getElem?_toList] at h1; rw [List.getD_eq_getElem?_getD]; exact h1
       have CA:(Builtin.zeroCells z0.cells n).toList.all BO=true:=by
        rw [List.all_eq_true]; intro y hy; simp only [Builtin.zeroCells,Array.toList_map,List.mem_map,Array.toList_range,List.mem_range] at hy; obtain ⟨i,hi,rfl⟩:=hy
        have Nb:0<z0.cells.size:=by
         rcases Nat.eq_zero_or_pos z0.cells.size with h0 | h0
         ·rw [h0] at hi; omega
         ·exact h0
        have A0:i % z0.cells.size<z0.cells.size:=Nat.mod_lt _ Nb; have:=List.all_eq_true.1 BJ.2 (z0.cells[i % z0.cells.size]) (by simp)
        simpa [A0] using this
       have FW:=hw.Az BY rfl Vg (hr.write (vs:=BW .nil z0.cells (n*z0.cells.size) 0) mO (k:=a.off) (by rw [Aw]; omega)); refine ⟨_,?_,FW⟩; have Ef:=Ev (P:=P) (a.off+x.o) (Builtin.zeroCells z0.cells n).toList 0 w Zn Y9 cq (by simp [Builtin.zeroCells]; omega) CA; obtain ⟨n,rfl⟩:∃ k,n=k+1:=⟨n-1,by omega⟩
       simp only [Builtin.clear_,h0,List.getElem?_toArray,List.getElem?_cons_zero,Sem.run_bind,AG ht,Result.andThen_ok,BZ KC,Ef,Sem.run_pure,Nat.add_zero]
      ·exact (RT h1).elim
      ·exact (RT h1).elim
    ·cases h
   ·cases h
 ·rename_i el n c ht
  cases h
  obtain ⟨a',c',rfl,A9⟩:=hx.F5
  have:a'=none:=by
   rcases A9 with ⟨_,h,_⟩ | ⟨b,b',h,_⟩
   ·exact h
   ·cases h
  subst this; refine ⟨w,?_,hw⟩
  cases n <;> simp [Builtin.clear_,h0,AG ht]
 ·cases h
theorem mP {t:TypeId} {d s v:Value} {W1:CW} (h:ZS P t d s W=some (v,W1)):W.sz≤W1.sz:=by
 unfold ZS at h
 split at h
 ·obtain ⟨_,_,h⟩:=Af h; obtain ⟨_,_,h⟩:=Af h
  repeat' (first | (cases h; done) | (cases h; exact Nat.le_refl _) | (rw [cond_eq_ite] at h) | split at h)
 ·cases h
theorem dN {t:TypeId} {d s:Value} {W1:CW} (h:N' P t d s W=some W1):W.sz≤W1.sz:=by
 unfold N' at h
 split at h
 ·split at h
  ·obtain ⟨_,_,h⟩:=Af h
   repeat' (first | (cases h; done) | (cases h; exact Nat.le_refl _) | (rw [cond_eq_ite] at h) | split at h)
  ·cases h
 ·cases h
theorem iq {t:TypeId} {d:Value} {W1:CW} (h:TX P t d W=some W1):W.sz≤W1.sz:=by
 unfold TX at h
 split at h
 ·repeat' (first | (cases h; done) | (cases h; exact Nat.le_refl _) | (rw [cond_eq_ite] at h) | split at h)
 ·cases h; exact Nat.le_refl _
 ·obtain ⟨_,_,h⟩:=Af h; obtain ⟨_,_,h⟩:=Af h
  repeat' (first | (cases h; done) | (cases h; exact Nat.le_refl _) | (rw [cond_eq_ite] at h) | split at h)
 ·cases h; exact Nat.le_refl _
 ·cases h
theorem Xm {c:Call} {b:Builtin} (ho:o.op=.call c) (hf:c.callee=.builtin b) (w:World) :
  (execOp e' o).run P w=(builtin b c.argTypes o.type (c.args.map fun | .const _=>true | _=>false) (c.args.map e')).run P w:=by
 simp only [execOp,ho,resolve,hf,Sem.run_bind,Sem.run_pure,Result.andThen_ok,invoke]; rfl
theorem WL {α:Type} {a:Array α} {x:α} {l:List α} (h:a.toList=x::l):a[0]?=some x:=by rw [←Array.getElem?_toList,h]; rfl
theorem AAS {α:Type} {a:Array α} {x y:α} {l:List α} (h:a.toList=x::y::l):a[1]?=some y:=by rw [←Array.getElem?_toList,h]; rfl
theorem ofList {α:Type} {a:Array α} {l:List α} (h:a.toList=l):a=l.toArray:=by rw [←h]
theorem dO (hz:ZP P) {c:Call} {b:Builtin} (ho:o.op=.call c) (hf:c.callee=.builtin b) (h:BS P o e W=some outs) (hw:Ac P w0 ρ W w)
  (ha:∀ x,x ∈ c.args.toList→AT ρ (e x) (e' x)):A6 P w0 ρ W ((execOp e' o).run P w) outs:=by
 rw [Xm ho hf]; simp only [BS,ho,hf] at h; split at h
 rotate_left
 ·cases h
 rename_i r hr
 cases h
 generalize hB:c.args.map e'=B; have C4:Ap ρ (c.args.toList.map e) B.toList:=by rw [←hB]; simpa using Ap.map (ρ:=ρ) c.args.toList e e' ha
 clear hB; generalize c.args.toList.map e=A at hr C4; unfold IL at hr
 have one:∀ {x:Value},Ap ρ [x] B.toList→∃ x',B=#[x']∧AT ρ x x':=by
  intro x hl
  cases hB:B.toList with
  | nil=>rw [hB] at hl; have:=hl.1; simp at this
  | cons y ys =>
   rw [hB] at hl; have:ys=[]:=by have:=hl.1; simp at this; first | exact this | exact this.symm | exact List.length_eq_zero_iff.1 this.symm
   subst this; exact ⟨y,ofList hB,hl.head⟩
 have two:∀ {x y:Value},Ap ρ [x,y] B.toList→∃ x' y',B=#[x',y']∧AT ρ x x'∧AT ρ y y':=by
  intro x y hl
  cases hB:B.toList with
  | nil=>rw [hB] at hl; have:=hl.1; simp at this
  | cons x' ys =>
   rw [hB] at hl; have h1:=hl.head; have hl:=hl.tail
   cases ys with
   | nil=>have:=hl.1; simp at this
   | cons y' ys =>
    have:ys=[]:=by have:=hl.1; simp at this; first | exact this | exact this.symm | exact List.length_eq_zero_iff.1 this.symm
    subst this; exact ⟨x',y',ofList hB,h1,hl.head⟩
 split at hr
 ·rename_i t ts x Io; obtain ⟨x',rfl,hx⟩:=one C4; rw [Option.map_eq_some_iff] at hr; obtain ⟨v,hv,rfl⟩:=hr; obtain ⟨v',Ij,G4⟩:=dL (ty:=o.type) hw (WL Io) hv hx; exact .value hw (A_ Ij) G4
 ·rename_i t ts x Io; obtain ⟨x',rfl,hx⟩:=one C4; rw [Option.map_eq_some_iff] at hr; obtain ⟨v,hv,rfl⟩:=hr; obtain ⟨v',Ij,G4⟩:=dM (ty:=o.type) hw (WL Io) hv hx; exact .value hw (A_ Ij) G4
 ·rename_i t u ts s x Io; obtain ⟨s',x',rfl,hs,hx⟩:=two C4; rw [cond_eq_ite] at hr
  split at hr
  ·rename_i hu; rw [Option.map_eq_some_iff] at hr; obtain ⟨⟨v,W1⟩,hv,rfl⟩:=hr; obtain ⟨v',w',ρ',C',Ij,G4,Fy⟩:=Vf (ty:=o.type) hw (WL Io) (AAS Io) hu hv hs hx; exact ⟨_,_,ρ',List.mem_singleton.2 rfl,C',.value (A_ Ij) G4 Fy⟩
  ·cases hr
 ·rename_i t ts d s Io; obtain ⟨d',s',rfl,hd,hs⟩:=two C4; rw [Option.map_eq_some_iff] at hr; obtain ⟨⟨v,W1⟩,hv,rfl⟩:=hr; obtain ⟨v',w',Ij,G4,Fy⟩:=Zo (ty:=o.type) hw (WL Io) hv hd hs; exact ⟨_,_,ρ,List.mem_singleton.2 rfl,.refl _ (mP hv),.value (A_ Ij) G4 Fy⟩
 ·rename_i t ts x Io; obtain ⟨x',rfl,hx⟩:=one C4; rw [Option.map_eq_some_iff] at hr; obtain ⟨W1,hv,rfl⟩:=hr; obtain ⟨w',Ij,Fy⟩:=Xl (ty:=o.type) hz hw (WL Io) hv hx; exact ⟨_,_,ρ,List.mem_singleton.2 rfl,.refl _ (iq hv),.value (A_ Ij) (.tuple' (.nil _)) Fy⟩
 ·rename_i t ts m k Io; obtain ⟨m',k',rfl,hm,hk⟩:=two C4; rw [Option.map_eq_some_iff] at hr; obtain ⟨W1,hv,rfl⟩:=hr; obtain ⟨w',Ij,Fy⟩:=Vj (ty:=o.type) hw (WL Io) hv hm hk; exact ⟨_,_,ρ,List.mem_singleton.2 rfl,.refl _ (dN hv),.value (A_ Ij) (.tuple' (.nil _)) Fy⟩
 ·rename_i k a k2 b2; obtain ⟨x',y',rfl,hx,hy⟩:=two C4
  cases hx; cases hy; cases hr
  refine .value hw (A_ (s:=Builtin.max_ c.argTypes o.type #[.int k a,.int k2 b2]) (by simp [Builtin.max_,Builtin.max2]; rfl)) ?_; simp only [cond_eq_ite,decide_eq_true_eq]; exact .int _ _
 ·rename_i k a k2 b2; obtain ⟨x',y',rfl,hx,hy⟩:=two C4
  cases hx; cases hy; cases hr
  refine .value hw (A_ (s:=Builtin.min_ c.argTypes o.type #[.int k a,.int k2 b2]) (by simp [Builtin.min_,Builtin.min2]; rfl)) ?_; simp only [cond_eq_ite,decide_eq_true_eq]; exact .int _ _
 ·cases hr
  exact ⟨_,_,ρ,List.mem_singleton.2 rfl,.refl _,.recover rfl hw⟩
 ·cases hr
theorem OM (hz:ZP P) (Ai:TY o=true) (Mx:∀ g,e (.global g)=.complex .f32 0 0) (he:∀ x,x ∈ o.op.operands→Al x=true→AT ρ (e x) (e' x)) (hw:Ac P w0 ρ W w) (h:BS P o e W=some outs):A6 P w0 ρ W ((execOp e' o).run P w) outs:=by
 have al:∀ l:List Operand,(∀ x,x ∈ l→x ∈ o.op.operands)→l.all Al=true→∀ x,x ∈ l→AT ρ (e x) (e' x):=fun l hm hl x hx=>he x (hm x hx) (List.all_eq_true.1 hl x hx); have al2:∀ l:List (Nat × Operand),(∀ x,x ∈ l→x.2 ∈ o.op.operands)→(l.all fun p=>Al p.2)=true→∀ p,p ∈ l→AT ρ (e p.2) (e' p.2):=fun l hm hl x hx=>he x.2 (hm x hx) (List.all_eq_true.1 hl x hx); have op:∀ m:Option Operand,(∀ x,m=some x→x ∈ o.op.operands)→m.all Al=true→∀ x,m=some x→AT ρ (e x) (e' x):=fun m B3 hm x hx=>he x (B3 x hx) (by subst hx; simpa using hm); unfold TY at Ai; split at Ai <;> (try simp only [Bool.and_eq_true] at Ai)
 case h_1 ho=>exact gH (.inl ho) h hw (he _ (by rw [ho]; simp [Op.operands]) Ai)
 case h_2 ho=>exact gH (.inr ho) h hw (he _ (by rw [ho]; simp [Op.operands]) Ai)
 case h_3 ho=>exact Za ho h hw (he _ (by rw [ho]; simp [Op.operands]) Ai)
 case h_4 ho=>exact qG ho h hw (he _ (by rw [ho]; simp [Op.operands]) Ai)
 case h_5 ho=>exact dK ho h hw (he _ (by rw [ho]; simp [Op.operands]) Ai)
 case h_6 ho=>exact P1 ho h hw (he _ (by rw [ho]; simp [Op.operands]) Ai)
 case h_7 ho=>exact mA ho h hw (he _ (by rw [ho]; simp [Op.operands]) Ai)
 case h_8 ho=>exact Xc ho h hw (he _ (by rw [ho]; simp [Op.operands]) Ai)
 case h_9 ho=>exact mH ho h hw (he _ (by rw [ho]; simp [Op.operands]) Ai)
 case h_10 ho=>exact qH ho h hw (he _ (by rw [ho]; simp [Op.operands]) Ai)
 case h_11 ho=>exact mJ ho h hw (he _ (by rw [ho]; simp [Op.operands]) Ai)
 case h_12 ho=>exact Ve hz ho h hw (he _ (by rw [ho]; simp [Op.operands]) Ai)
 case h_13 ho=>exact cz ho h hw (he _ (by rw [ho]; simp [Op.operands]) Ai)
 case h_14 ho=>exact mD ho h hw (he _ (by rw [ho]; simp [Op.operands]) Ai)
 case h_15 ho=>exact uR ho h hw (he _ (by rw [ho]; simp [Op.operands]) Ai)
 case h_16 t x ho =>
  rw [Bool.or_eq_true] at Ai
  rcases Ai with Ai | Ai
  ·exact qF ho h hw (he _ (by rw [ho]; simp [Op.operands]) Ai)
  ·split at Ai
   ·simp only [BS,ho,Mx] at h
    cases h
   ·cases Ai
 case h_17 ho=>exact qD ho h hw (he _ (by rw [ho]; simp [Op.operands]) Ai.1.1) (he _ (by rw [ho]; simp [Op.operands]) Ai.1.2) (he _ (by rw [ho]; simp [Op.operands]) Ai.2)
 case h_18 ho=>exact l4 hz ho h hw
 case h_19 ho=>exact dF ho h hw
 case h_20 ho=>exact l_ hz ho h hw (al2 _ (fun x hx=>by rw [ho]; simp [Op.operands]; exact ⟨x.1,by simpa using hx⟩) Ai)
 case h_21 ho=>exact Vd hz ho h hw (al2 _ (fun x hx=>by rw [ho]; simp [Op.operands]; exact ⟨x.1,by simpa using hx⟩) Ai)
 case h_22 ho=>exact lu ho h hw (he _ (by rw [ho]; simp [Op.operands]) Ai.1) (he _ (by rw [ho]; simp [Op.operands]) Ai.2)
 case h_23 ho=>exact l8 ho h hw (he _ (by rw [ho]; simp [Op.operands]) Ai.1) (he _ (by rw [ho]; simp [Op.operands]) Ai.2)
 case h_24 ho=>exact Xb hz ho h hw (he _ (by rw [ho]; simp [Op.operands]) Ai.1) (he _ (by rw [ho]; simp [Op.operands]) Ai.2)
 case h_25 ho=>exact Xd ho h hw (he _ (by rw [ho]; simp [Op.operands]) Ai.1) (he _ (by rw [ho]; simp [Op.operands]) Ai.2)
 case h_26 ho=>exact mB ho h hw (he _ (by rw [ho]; simp [Op.operands]) Ai.1) (he _ (by rw [ho]; simp [Op.operands]) Ai.2)
 case h_27 ho=>exact ig hz ho h hw (he _ (by rw [ho]; simp [Op.operands]) Ai.1) (he _ (by rw [ho]; simp [Op.operands]) Ai.2)
 case h_28 ho=>exact Ze ho h hw (al _ (fun x hx=>by rw [ho]; simp [Op.operands]; first | exact .inl hx | exact .inr hx | exact .inl (by simpa using hx) | exact .inr (by simpa using hx)) Ai.1) (al _ (fun x hx=>by rw [ho]; simp [Op.operands]; first | exact .inl hx | exact .inr hx | exact .inl (by simpa using hx) | exact .inr (by simpa using hx)) Ai.2)
 case h_29 ho=>exact mC ho h hw (he _ (by rw [ho]; simp [Op.operands]) Ai.1.1.1) (op _ (fun x hx=>by rw [ho]; simp [Op.operands,hx]) Ai.1.1.2) (op _ (fun x hx=>by rw [ho]; simp [Op.operands,hx]) Ai.1.2) (op _ (fun x hx=>by rw [ho]; simp [Op.operands,hx]) Ai.2)
 case h_30 ho=>exact OL (.inl ho) h hw (he _ (by rw [ho]; simp [Op.operands]) Ai.1.1) (he _ (by rw [ho]; simp [Op.operands]) Ai.1.2) (he _ (by rw [ho]; simp [Op.operands]) Ai.2)
 case h_31 ho=>exact OL (.inr ho) h hw (he _ (by rw [ho]; simp [Op.operands]) Ai.1.1) (he _ (by rw [ho]; simp [Op.operands]) Ai.1.2) (he _ (by rw [ho]; simp [Op.operands]) Ai.2)
 case h_32 c ho =>
  obtain ⟨h1,h2⟩:=Ai
  split at h2
  ·rename_i f hf; exact Xk hz ho hf h hw (he _ (by rw [ho]; simp [Op.operands,Call.operands,hf]) h2) (al _ (fun x hx=>by rw [ho]; simp [Op.operands,Call.operands,hf]; exact .inr (by simpa using hx)) h1)
  ·rename_i b hf; exact dO hz ho hf h hw (al _ (fun x hx=>by rw [ho]; simp [Op.operands,Call.operands,hf]; simpa using hx) h1)
  ·cases h2
 case h_33 c ho =>
  obtain ⟨h1,h2⟩:=Ai
  split at h2
  ·rename_i f hf; exact mE ho hf h hw (he _ (by rw [ho]; simp [Op.operands,Call.operands,hf]) h2) (al _ (fun x hx=>by rw [ho]; simp [Op.operands,Call.operands,hf]; exact .inr (by simpa using hx)) h1)
  ·cases h2
 case h_34=>cases Ai
end
end Go.Ce
