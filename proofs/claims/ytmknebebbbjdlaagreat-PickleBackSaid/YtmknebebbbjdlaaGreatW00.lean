/- A part of the proof: Ca, Cb, Cc, Cd, Ce, Cf, Cg, Ch, Ci, Cj, Ck, Cl, Cm, Cn. -/
import Derived.OrdersIn
import Derived.RangeFuncIn
import Derived.DefersIn
import Derived.RecoverIn
import Derived.KernelRfl
import Derived.Below
import Derived.Laws.StructEq
import Derived.Laws.Concat
import Derived.MapKept
import Derived.Laws.BytesArg
import Derived.Laws.IdiomStrings
set_option linter.unusedSectionVars false
set_option linter.unusedVariables false
set_option linter.unusedSimpArgs false
set_option maxRecDepth 200000
namespace Go.Ce
inductive Tr (α:Type) where
 | nil
 | node (l:Tr α) (v:Option α) (r:Tr α)
def Tr.get {α:Type}:Tr α→Nat→Option α
 | .nil,_=>none
 | .node l v r,i=>cond (Nat.beq i 0) v (cond (Nat.beq (i % 2) 1) (l.get (i / 2)) (r.get (i / 2-1)))
def Tr.ZE {α:Type}:Nat→Tr α→Nat→α→Tr α
 | 0,t,_,_=>t
 | f+1,.nil,i,x=>cond (Nat.beq i 0) (.node .nil (some x) .nil) (cond (Nat.beq (i % 2) 1) (.node (Tr.ZE f .nil (i / 2) x) none .nil) (.node .nil none (Tr.ZE f .nil (i / 2-1) x)))
 | f+1,.node l v r,i,x=>cond (Nat.beq i 0) (.node l (some x) r) (cond (Nat.beq (i % 2) 1) (.node (Tr.ZE f l (i / 2) x) v r) (.node l v (Tr.ZE f r (i / 2-1) x)))
def Tr.set {α:Type} (t:Tr α) (i:Nat) (x:α):Tr α:=Tr.ZE (i+1) t i x
def Tr.Ag {α:Type} (t:Tr α) (k:Nat):List α→Tr α
 | []=>t
 | x::xs=>(t.set k x).Ag (k+1) xs
inductive Av where
 | cells (c:Tr Value) (n:Nat) (z:Array Value) (elem:TypeId)
 | map (es:List MapEntry) (clock:Nat)
 | iter (m:Option Nat) (since:Nat) (seen:List Nat) (last:Nat)
 | loop (state:LoopState) (pending:Option Code) (fn:FuncId) (tmps:Tr Value) (nt:Nat) (params:Array Tmp) (assign body:Code) (defers:Nat)
 | deferred
 | dead
 | fixed (f:Nat→Value) (n:Nat) (elem:TypeId)
def Av.mut:Av→Bool
 | .dead=>false
 | .fixed _ _ _=>false
 | _=>true
structure CW where
 h:Tr Av
 sz:Nat
structure AJ where
 t:Tr Value
 nt:Nat
 defers:List Deferred
inductive Ba where
 | value (v:Value)
 | skip
 | enter (f:FuncId) (args:List Value)
 | round (l:Nat) (args:List Value)
 | defer (d:Deferred)
 | recover
 | panic (v:Value)
def AJ.eval (a:AJ):Operand→Value
 | .tmp t=>match a.t.get t with | some v=>v | none=>undef
 | .const v=>v
 | .global _=>.complex .f32 0 0
 | .func f=>.func (.func f) #[] #[]
def AJ.put (a:AJ) (d:Option Tmp) (v:Value):AJ :=
 match d with
 | some d=>{ a with t:=a.t.set d v }
 | none=>a
def CW.new (W:CW) (o:Av):CW:=⟨W.h.set W.sz o,W.sz+1⟩
def CW.obj (W:CW) (i:Nat):Option Av:=W.h.get i
def CW.A5 (W:CW) (i:Nat) (o:Av):CW:=⟨W.h.set i o,W.sz⟩
def cellAt (c:Tr Value) (z:Array Value) (k:Nat):Value :=
 match c.get k with
 | some v=>v
 | none=>z.getD (k % z.size) undef
def BX (c:Tr Value) (z:Array Value):Nat→Nat→List Value
 | 0,_=>[]
 | m+1,k=>cellAt c z k::BX c z m (k+1)
def Vh:List UInt8→List UInt8→Bool
 | [],[]=>true
 | a::x,b::y=>Nat.beq a.toNat b.toNat && Vh x y
 | _,_=>false
def S7:List UInt8→List UInt8→Bool
 | _,[]=>false
 | [],_::_=>true
 | a::x,b::y=>Nat.blt a.toNat b.toNat || (Nat.beq a.toNat b.toNat && S7 x y)
def sb (s:ByteArray):List UInt8:=s.data.toList
def uh (op:BinOp) (a b:ByteArray):Option Value :=
 match op with
 | .add=>cond (Nat.ble (a.size+b.size) 9223372036854775807) (some (.string ⟨(sb a++sb b).toArray⟩)) none
 | .eql=>some (.bool (Vh (sb a) (sb b)))
 | .neq=>some (.bool (!Vh (sb a) (sb b)))
 | .lss=>some (.bool (S7 (sb a) (sb b)))
 | .leq=>some (.bool (S7 (sb a) (sb b) || Vh (sb a) (sb b)))
 | .gtr=>some (.bool (!(S7 (sb a) (sb b) || Vh (sb a) (sb b))))
 | .geq=>some (.bool (!S7 (sb a) (sb b)))
 | _=>none
def C0 (l:List UInt8):List Value:=l.map fun b=>.int .u8 b.toNat
def FG:List Value→Option (List UInt8)
 | []=>some []
 | .int .u8 n::l=>match FG l with
  | some m=>some (UInt8.ofNat n.toNat::m)
  | none=>none
 | _::_=>none
def NY (d:TypeDesc) (k v:Value):Option Bool :=
 match d,k,v with
 | .string,.string a,.string b=>some (Vh (sb a) (sb b))
 | d,k,v=>Instr.sameNow d k v
def J8 (d:TypeDesc) (k:Value):List MapEntry→Nat→Option (Option (Nat × Value))
 | [],_=>some none
 | e::es,i=>match NY d k e.key with
  | some true=>some (some (i,e.val))
  | some false=>J8 d k es (i+1)
  | none=>none
def EH (f:Nat→Value):Nat→Nat→List Value
 | 0,_=>[]
 | m+1,k=>f k::EH f m (k+1)
section
variable (P:Program)
def DM (t:TypeId):Option Nat:=(P.info? t).map (·.size)
def Gm (t:TypeId):Option Value:=cond (Nat.blt t P.types.size) ((P.info? t).bind (·.zero)) none
def agg? (t:TypeId):Option Bool:=(P.underlying t).map fun d=>match d with | .struct _ | .array _ _=>true | _=>false
def CV {α β:Type} (o:Option α) (f:α→Option β):Option β:=match o with | some a=>f a | none=>none
def JB (t:TypeId) (a:Addr) (W:CW):Option Value :=
 match W.obj a.block with
 | some (.cells c n z _) =>
  match agg? P t with
  | some true=>match DM P t with
   | some m=>cond (Nat.ble (a.off+m) n) (some (.agg (BX c z m a.off).toArray)) none
   | none=>none
  | some false=>cond (Nat.blt a.off n) (some (cellAt c z a.off)) none
  | none=>none
 | some (.fixed f n _) =>
  match agg? P t with
  | some true=>match DM P t with
   | some m=>cond (Nat.ble (a.off+m) n) (some (.agg (EH f m a.off).toArray)) none
   | none=>none
  | some false=>cond (Nat.blt a.off n) (some (f a.off)) none
  | none=>none
 | _=>none
def BN:Value→Bool
 | .agg _ | .tuple _=>false
 | _=>true
def Jc (t:TypeId) (a:Addr) (v:Value) (W:CW):Option CW :=
 match W.obj a.block with
 | some (.cells c n z e) =>
  match v with
  | .agg cs=>match DM P t with
   | some m=>cond (Nat.beq cs.size m && Nat.ble (a.off+m) n && cs.toList.all BN) (some (W.A5 a.block (.cells (c.Ag a.off cs.toList) n z e))) none
   | none=>none
  | .tuple _=>none
  | v=>match DM P t with
   | some m=>cond (Nat.beq m 1 && Nat.blt a.off n) (some (W.A5 a.block (.cells (c.set a.off v) n z e))) none
   | none=>none
 | _=>none
def S8 (t:TypeId) (v:Value) (W:CW):Value × CW :=
 (.pointer (some ⟨W.sz,0,none⟩),W.new (.cells (Tr.nil.Ag 0 v.cells.toList) v.cells.size #[] t))
def Oi (op:BinOp) (k:IntKind) (a b:Int):Option Value :=
 match op with
 | .add=>some (.int k (k.wrap (a+b)))
 | .sub=>some (.int k (k.wrap (a-b)))
 | .mul=>some (.int k (k.wrap (a*b)))
 | .quo=>cond (b == 0) none (some (.int k (k.wrap (a.tdiv b))))
 | .rem=>cond (b == 0) none (some (.int k (a.tmod b)))
 | .eql=>some (.bool (a == b))
 | .neq=>some (.bool (a != b))
 | .lss=>some (.bool (a<b))
 | .leq=>some (.bool (a≤b))
 | .gtr=>some (.bool (a>b))
 | .geq=>some (.bool (a≥b))
 | .and=>some (.int k (k.wrap ((BitVec.ofInt k.bits a &&& BitVec.ofInt k.bits b).toNat)))
 | .or=>some (.int k (k.wrap ((BitVec.ofInt k.bits a ||| BitVec.ofInt k.bits b).toNat)))
 | .xor=>some (.int k (k.wrap ((BitVec.ofInt k.bits a ^^^ BitVec.ofInt k.bits b).toNat)))
 | .andNot=>some (.int k (k.wrap ((BitVec.ofInt k.bits a &&& ~~~(BitVec.ofInt k.bits b)).toNat)))
 | _=>none
def qK (d:TypeDesc) (x y:Value):Option Bool :=
 match d,x,y with
 | .bool,.bool a,.bool b=>some (a == b)
 | .pointer _,.pointer none,.pointer b=>some b.isNone
 | .pointer _,.pointer (some _),.pointer none=>some false
 | .interface _,.nilIface,.iface _ _=>some false
 | .interface _,.iface _ _,.nilIface=>some false
 | .slice _,.slice none _ _,.slice b _ _=>some b.isNone
 | .slice _,.slice (some _) _ _,.slice none _ _=>some false
 | .map _ _,.map none,.map b=>some b.isNone
 | .map _ _,.map (some _),.map none=>some false
 | .func _ _ _,.nilFunc,.nilFunc=>some true
 | .func _ _ _,.nilFunc,.func _ _ _=>some false
 | .func _ _ _,.func _ _ _,.nilFunc=>some false
 | _,_,_=>none
def R5 (t:TypeId) (cs:Array Value) (off:Nat):Option Value :=
 match agg? P t,DM P t with
 | some true,some m=>some (.agg (cs.extract off (off+m)))
 | some false,_=>cs[off]?
 | _,_=>none
def ZF (eq:TypeId→Value→Value→Option Bool) (xs ys:Array Value):List Field→Option Bool
 | []=>some true
 | f::fs=>cond (f.name == "_") (ZF eq xs ys fs) (match R5 P f.type xs f.offset,R5 P f.type ys f.offset with
  | some u,some v=>match eq f.type u v with
   | some true=>ZF eq xs ys fs
   | some false=>some false
   | none=>none
  | _,_=>none)
def gC (eq:Value→Value→Option Bool) (elem:TypeId) (n:Nat) (xs ys:Array Value):Nat→Nat→Option Bool
 | 0,_=>some true
 | m+1,i=>match R5 P elem xs (i*n),R5 P elem ys (i*n) with
  | some u,some v=>match eq u v with
   | some true=>gC eq elem n xs ys m (i+1)
   | some false=>some false
   | none=>none
  | _,_=>none
def ZG:Nat→TypeId→Value→Value→Option Bool
 | 0,_,_,_=>none
 | n+1,t,x,y=>match P.underlying t with
  | none=>none
  | some d=>match d,x,y with
   | .struct fs,.agg xs,.agg ys=>cond (P.stoodInHeld t) none (ZF P (ZG n) xs ys fs.toList)
   | .array len elem,.agg xs,.agg ys=>match DM P elem with
    | some s=>gC P (ZG n elem) elem s xs ys len 0
    | none=>none
   | .int _,.int k a,.int k' b=>cond (decide (k=k')) (some (a == b)) none
   | .string,.string a,.string b=>some (Vh (sb a) (sb b))
   | d,x,y=>qK d x y
def isConst:Operand→Bool
 | .const _=>true
 | _=>false
def AU (op:BinOp) (t:TypeId) (k:Bool) (x y:Value):Option Value :=
 match op,x,y with
 | .shl,.int k a,.int _ b=>cond (decide (b<0)) none (some (.int k (k.wrap (a*2 ^ (min b.toNat k.bits)))))
 | .shr,.int k a,.int _ b=>cond (decide (b<0)) none (some (.int k (a.fdiv (2 ^ (min b.toNat k.bits)))))
 | op,.int k a,.int k' b=>cond (decide (k=k')) (Oi op k a b) none
 | op,.string a,.string b=>uh op a b
 | .eql,.agg xs,.agg ys=>cond (P.eqGuardType P.depth t) none ((ZG P 20 t (.agg xs) (.agg ys)).map .bool)
 | .neq,.agg xs,.agg ys=>cond (P.eqGuardType P.depth t) none ((ZG P 20 t (.agg xs) (.agg ys)).map fun b=>.bool (!b))
 | .eql,.nilIface,.nilIface=>match P.underlying t with | some (.interface _)=>cond k (some (.bool true)) none | _=>none
 | .neq,.nilIface,.nilIface=>match P.underlying t with | some (.interface _)=>cond k (some (.bool false)) none | _=>none
 | .eql,x,y=>match P.underlying t with | some d=>(qK d x y).map .bool | none=>none
 | .neq,x,y=>match P.underlying t with | some d=>(qK d x y).map fun b=>.bool (!b) | none=>none
 | _,_,_=>none
def bound (x:Option Value) (ADJ y:Nat):Option Nat :=
 match x with
 | some (.int _ i)=>cond (decide (0≤i) && decide (i≤y)) (some i.toNat) none
 | some _=>none
 | none=>some ADJ
def Tp (W:CW) (a:Option Addr) (elem:TypeId):Bool :=
 match a with
 | none=>true
 | some a=>a.spot.isSome || match W.obj a.block with
  | some (.cells _ _ _ e)=>Nat.beq e elem
  | some (.fixed _ _ e)=>Nat.beq e elem
  | _=>false
def QK (W:CW) (t:TypeId) (x:Value) (lo hi mx:Option Value):Option Value :=
 match P.underlying t,x with
 | some (.slice elem),.slice a len cap=>CV (bound mx cap cap) fun m=>CV (bound hi len m) fun h=>CV (bound lo 0 h) fun l =>
   cond (mx.isSome && hi.isNone || !Nat.ble h m || !(mx.isSome || Tp W a elem)) none (CV (DM P elem) fun s =>
   some (.slice (cond (Nat.beq m l) a (a.map fun a=>⟨a.block,a.off+l*s,none⟩)) (h-l) (m-l)))
 | some (.array n elem),.pointer (some a)=>CV (bound mx n n) fun m=>CV (bound hi n m) fun h=>CV (bound lo 0 h) fun l =>
   cond (mx.isSome && hi.isNone || !Nat.ble h m) none (CV (DM P elem) fun s =>
   some (.slice (some (cond (Nat.beq m l) a ⟨a.block,a.off+l*s,none⟩)) (h-l) (m-l)))
 | _,_=>none
def H_:TypeDesc→Bool
 | .int _ | .string | .bool=>true
 | _=>false
def JC (v k:Value):Nat→List MapEntry→List MapEntry
 | _,[]=>[]
 | 0,e::es=>{ e with key:=k,val:=v }::es
 | i+1,e::es=>e::JC v k i es
def K3:Nat→List MapEntry→List MapEntry
 | _,[]=>[]
 | 0,_::es=>es
 | i+1,e::es=>e::K3 i es
def N6:Value→Value→Bool
 | .int j a,.int k b=>decide (j=k) && decide (a=b)
 | .string a,.string b=>Vh (sb a) (sb b)
 | .bool a,.bool b=>a == b
 | _,_=>false
def Oj:List Value→List Value→Bool
 | [],[]=>true
 | x::xs,y::ys=>N6 x y && Oj xs ys
 | _,_=>false
def Xf:Value→Value→Bool
 | .agg xs,.agg ys=>Oj xs.toList ys.toList
 | _,_=>false
def gD (t:TypeId) (k:Value):Bool :=
 match P.underlying t,k with
 | some (.struct fs),.agg cs=>!(P.stoodInHeld t) && fs.toList.all fun f=>!(f.name == "_") && (match P.underlying f.type with | some d=>H_ d | none=>false) && (R5 P f.type cs f.offset).isSome
 | _,_=>false
def ZH (t:TypeId) (k:Value):List MapEntry→Nat→Option (Option (Nat × Value))
 | [],_=>some none
 | e::es,i=>match ZG P 20 t k e.key with
  | some true=>cond (Xf k e.key) (some (some (i,e.val))) none
  | some false=>ZH t k es (i+1)
  | none=>none
def NZ (t:TypeId) (k:Value) (es:List MapEntry):Option (Option (Nat × Value)) :=
 match P.underlying t with
 | some d=>cond (H_ d) (J8 d k es 0) (cond (gD P t k) (ZH P t k es 0) none)
 | none=>none
def EI (b:Option Addr) (m:Nat) (W:CW):Option (List Value) :=
 match b with
 | none=>some []
 | some b=>cond (Nat.beq m 0) (some []) <| match W.obj b.block with
  | some (.cells c k z _)=>cond (Nat.ble (b.off+m) k) (some (BX c z m b.off)) none
  | some (.fixed f k _)=>cond (Nat.ble (b.off+m) k) (some (EH f m b.off)) none
  | _=>none
def dD (x:Value):Option Nat :=
 match x with
 | .slice _ n _=>some n
 | .string s=>some s.size
 | _=>none
def HE (x:Value) (n size:Nat) (W:CW):Option (List Value) :=
 match x with
 | .slice xb _ _=>EI xb (n*size) W
 | .string s=>cond (Nat.beq size 1) (some (C0 ((sb s).take n))) none
 | _=>none
def GM (t:TypeId) (s x:Value) (W:CW):Option (Value × CW) :=
 match P.underlying t,s,dD x with
 | some (.slice elem),.slice base sLen sCap,some n =>
  CV (DM P elem) fun size=>CV (Gm P elem) fun z=>CV (HE x n size W) fun news =>
  cond (news.all BN && Nat.beq news.length (n*size) && Nat.blt 0 size && Nat.beq z.cells.size size && Nat.ble (sLen+n) 1000000 && Nat.ble ((P.info? elem).map (·.bytes) |>.getD 2000) 1024)
   (cond (Nat.ble (sLen+n) sCap)
    (cond (Nat.beq n 0) (some (.slice base (sLen+n) sCap,W)) (match base with
     | none=>some (.slice none (sLen+n) sCap,W)
     | some a=>match W.obj a.block with
      | some (.cells c m z e)=>cond (Nat.ble (a.off+sLen*size+n*size) m)
        (some (.slice (some a) (sLen+n) sCap,W.A5 a.block (.cells (c.Ag (a.off+sLen*size) news) m z e))) none
      | _=>none))
    (match base with
     | none=>cond (Nat.beq sLen 0) (some (.slice (some ⟨W.sz,0,none⟩) (sLen+n) (sLen+n),W.new (.cells (Tr.nil.Ag 0 news) ((sLen+n)*size) #[] elem))) none
     | some a=>cond a.spot.isSome (cond (Nat.beq sLen 0 && Nat.beq sCap 0) (some (.slice (some ⟨W.sz,0,none⟩) (sLen+n) (sLen+n),W.new (.cells (Tr.nil.Ag 0 news) ((sLen+n)*size) #[] elem))) none) (match W.obj a.block with
      | some (.cells c m z e)=>cond (Nat.ble (a.off+sLen*size) m && Nat.beq e elem)
        (some (.slice (some ⟨W.sz,0,none⟩) (sLen+n) (sLen+n),(W.A5 a.block .dead).new (.cells (Tr.nil.Ag 0 (BX c z (sLen*size) a.off++news)) ((sLen+n)*size) #[] elem))) none
      | _=>none)))
   none
 | _,_,_=>none
def ZI (t:TypeId) (d s:Value) (W:CW):Option (Value × CW) :=
 match P.underlying t,d,dD s with
 | some (.slice elem),.slice base ZJ _,some sLen =>
  CV (DM P elem) fun size=>CV (HE s (Nat.min sLen ZJ) size W) fun news =>
  cond (Nat.beq (Nat.min sLen ZJ) 0) (some (.int .i64 (Nat.min sLen ZJ),W)) (match base with
  | none=>none
  | some a=>match W.obj a.block with
   | some (.cells c m z e)=>cond (news.all BN && Nat.ble (a.off+news.length) m) (some (.int .i64 (Nat.min sLen ZJ),W.A5 a.block (.cells (c.Ag a.off news) m z e))) none
   | _=>none)
 | _,_,_=>none
def Tq (t:TypeId) (x:Value) (W:CW):Option CW :=
 match P.underlying t,x with
 | some (.map _ _),.map (some r)=>match W.obj r with
  | some (.map _ EC)=>some (W.A5 r (.map [] EC))
  | _=>none
 | some (.map _ _),.map none=>some W
 | some (.slice elem),.slice (some a) n _=>CV (DM P elem) fun size=>CV (Gm P elem) fun z0 =>
  cond (Nat.beq n 0) (some W) (match W.obj a.block with
  | some (.cells c m z e)=>cond (Nat.ble (a.off+n*z0.cells.size) m && z0.cells.toList.all BN)
    (some (W.A5 a.block (.cells (c.Ag a.off (BX .nil z0.cells (n*z0.cells.size) 0)) m z e))) none
  | _=>none)
 | some (.slice _),.slice none _ _=>some W
 | _,_=>none
def Aj (t:TypeId) (x:Value) (W:CW):Option Value :=
 match P.underlying t,x with
 | some .string,.string s=>some (.int .i64 s.size)
 | some (.slice _),.slice _ n _=>some (.int .i64 n)
 | some (.map _ _),.map none=>some (.int .i64 0)
 | some (.map _ _),.map (some r)=>match W.obj r with
  | some (.map es _)=>some (.int .i64 es.length)
  | _=>none
 | _,_=>none
def Ok (t:TypeId) (m k:Value) (W:CW):Option CW :=
 match P.underlying t,m with
 | some (.map kt _),.map (some r)=>match W.obj r with
  | some (.map es EC)=>CV (NZ P kt k es) fun f=>match f with
   | some (i,_)=>some (W.A5 r (.map (K3 i es) EC))
   | none=>some (W.A5 r (.map es EC))
  | _=>none
 | _,_=>none
def HF (t:TypeId):Bool :=
 match P.underlying t with
 | some (.int _)=>false
 | some _=>true
 | none=>false
def ui (t:TypeId) (x:Value) (W:CW):Option Value :=
 match P.underlying t,x with
 | some (.slice _),.slice none _ c=>some (.int .i64 c)
 | some (.slice _),.slice (some a) _ c=>match W.obj a.block with
  | some (.cells _ _ z _)=>cond (Nat.beq z.size 0 || Nat.beq c 0) none (some (.int .i64 c))
  | _=>none
 | _,_=>none
def IH (b:Builtin) (ts:List TypeId) (args:List Value) (W:CW):Option (Ba × CW) :=
 match b,ts,args with
 | .len,t::_,[x]=>(Aj P t x W).map fun v=>(.value v,W)
 | .cap,t::_,[x]=>(ui P t x W).map fun v=>(.value v,W)
 | .append,t::u::_,[s,x]=>cond (HF P u) ((GM P t s x W).map fun (v,W)=>(.value v,W)) none
 | .copy,t::_,[d,s]=>(ZI P t d s W).map fun (v,W)=>(.value v,W)
 | .clear,t::_,[x]=>(Tq P t x W).map fun W=>(.value (.tuple #[]),W)
 | .delete,t::_,[m,k]=>(Ok P t m k W).map fun W=>(.value (.tuple #[]),W)
 | .max,_,[.int k a,.int _ b]=>some (.value (.int k (cond (decide (b>a)) b a)),W)
 | .min,_,[.int k a,.int _ b]=>some (.value (.int k (cond (decide (b<a)) b a)),W)
 | .recover,_,[]=>some (.recover,W)
 | _,_,_=>none
def qL (elem:TypeId) (s:ByteArray) (W:CW):Option (Value × CW) :=
 match P.underlying elem,DM P elem with
 | some (.int .u8),some 1=>some (.slice (some ⟨W.sz,0,none⟩) s.size s.size,W.new (.cells (Tr.nil.Ag 0 (C0 (sb s))) s.size #[] elem))
 | _,_=>none
def dE (elem:TypeId) (x:Value) (W:CW):Option Value :=
 match P.underlying elem,x with
 | some (.int .u8),.slice b n _=>CV (EI b n W) fun l=>CV (FG l) fun m=>some (.string ⟨m.toArray⟩)
 | _,_=>none
def Hm (d:Value) (args:List Value):Option Ba :=
 match d with
 | .func (.func f) first cap=>some (.enter f (first.toList++args++cap.toList))
 | .func (.yield l) first _=>some (.round l (first.toList++args))
 | _=>none
def JD (f:FuncId) (args:List Value) (W:CW):Option (Value × CW) :=
 match P.funcs[f]? with
 | some fn=>cond fn.body.isNone (cond (fn.name == "maps.clone") (match args with
  | [.iface t (.map (some r))]=>match W.obj r with
   | some (.map es EC)=>some (.iface t (.map (some W.sz)),W.new (.map es EC))
   | _=>none
  | _=>none) none) none
 | none=>none
def R6 (es:List MapEntry) (since:Nat) (seen:List Nat):List (Option MapEntry) :=
 let left:=es.filter fun e=>!seen.contains e.born
 let old:=left.filter fun e=>e.born<since
 let new:=left.filter fun e=>!(e.born<since)
 (cond old.isEmpty [none] [])++(old++new).map some
def BP (o:Oper) (e:Operand→Value) (W:CW):Option (List (Ba × CW)) :=
 let v (x:Option Value):Option (List (Ba × CW)):=match x with | some v=>some [(.value v,W)] | none=>none
 let vw (x:Option (Value × CW)):Option (List (Ba × CW)):=match x with | some (v,W)=>some [(.value v,W)] | none=>none
 let sw (x:Option CW):Option (List (Ba × CW)):=match x with | some W=>some [(.skip,W)] | none=>none
 match o.op with
 | .move x | .assign x=>some [(.value (e x),W)]
 | .pick c a b=>match e c with | .bool b0=>some [(.value (cond b0 (e a) (e b)),W)] | _=>none
 | .alloc t=>match Gm P t with
  | some z=>match DM P t with
   | some _=>some [(.value (.pointer (some ⟨W.sz,0,none⟩)),W.new (.cells .nil z.cells.size z.cells t))]
   | none=>none
  | none=>none
 | .box t x=>match DM P t with
  | some _=>some [(.value (S8 t (e x) W).1,(S8 t (e x) W).2)]
  | none=>none
 | .build t parts=>v (match Gm P t,P.underlying t with
  | some z,some (.struct fields)=>match fields.toList.mapM fun f=>(DM P f.type).map fun s=>(f.offset,s) with
   | some N7=>(Instr.fill (N7[·]?) z.cells (parts.toList.map fun (i,x)=>(i,e x))).map .agg
   | none=>none
  | some z,some (.array _ elem)=>match DM P elem with
   | some s=>(Instr.fill (fun i=>some (i*s,s)) z.cells (parts.toList.map fun (i,x)=>(i,e x))).map .agg
   | none=>none
  | _,_=>none)
 | .buildSlice t len parts=>vw (match P.underlying t with
  | some (.slice elem)=>CV (DM P elem) fun s=>CV (Gm P elem) fun z =>
   cond (Nat.ble (len*s) 65536 && Nat.beq z.cells.size s) (match Instr.fill (fun i=>some (i*s,s)) ((BX .nil z.cells (len*s) 0).toArray) (parts.toList.map fun (i,x)=>(i,e x)) with
    | some cs=>some (.slice (some ⟨W.sz,0,none⟩) len len,W.new (.cells (Tr.nil.Ag 0 cs.toList) cs.size #[] elem))
    | none=>none) none
  | _=>none)
 | .load t a=>v (match e a with | .pointer (some a)=>JB P t a W | _=>none)
 | .store t a x=>sw (match e a with | .pointer (some a)=>Jc P t a (e x) W | _=>none)
 | .nilCheck x=>v (match e x with
  | .pointer (some a)=>some (.pointer (some a))
  | .iface t v=>some (.iface t v)
  | .func (.func f) a b=>some (.func (.func f) a b)
  | .func (.yield f) a b=>some (.func (.yield f) a b)
  | _=>none)
 | .binOp op t x y _=>v (AU P op t (isConst x || isConst y) (e x) (e y))
 | .unOp .not _ x=>v (match e x with | .bool b=>some (.bool (!b)) | _=>none)
 | .unOp .neg _ x=>v (match e x with | .int k n=>some (.int k (k.wrap (0-n))) | _=>none)
 | .convert src dst x=>match P.underlying src,P.underlying dst,e x with
  | some _,some (.int k),.int _ n=>some [(.value (.int k (k.wrap n)),W)]
  | some _,some .string,.string s=>some [(.value (.string s),W)]
  | some .string,some (.slice el),.string s=>vw (qL P el s W)
  | some (.slice el),some .string,x=>v (dE P el x W)
  | _,_,_=>none
 | .makeInterface t x=>v (match P.underlying t with | some (.interface _) | none=>none | _=>some (.iface t (e x)))
 | .makeFunc fn first cap=>v (some (.func fn (first.map e) (cap.map e)))
 | .makeMap _ none=>some [(.value (.map (some W.sz)),W.new (.map [] 0))]
 | .makeSlice t l c=>vw (match P.underlying t,e l,e c with
  | some (.slice elem),.int _ l,.int _ c=>CV (DM P elem) fun s=>CV (Gm P elem) fun z =>
   cond (decide (0≤l) && decide (l≤c) && decide (c≤2000000) && Nat.ble ((P.info? elem).map (·.bytes) |>.getD 0) 1024 && Nat.beq z.cells.size s && Nat.blt 0 s)
    (some (.slice (some ⟨W.sz,0,none⟩) l.toNat c.toNat,W.new (.cells .nil (c.toNat*s) z.cells elem))) none
  | _,_,_=>none)
 | .slice t x lo hi mx=>v (match P.underlying t,e x with
  | some .string,.string s=>CV (bound (hi.map e) s.size s.size) fun h=>CV (bound (lo.map e) 0 h) fun l=>cond mx.isSome none (some (.string (s.extract l h)))
  | _,x=>QK P W t x (lo.map e) (hi.map e) (mx.map e))
 | .fieldAddr s x f=>v (match P.underlying s,e x with
  | some (.struct fs),.pointer (some a)=>match fs[f]? with
   | some fd=>match DM P fd.type with
    | some m=>cond (Nat.beq m 0) none (some (.pointer (some ⟨a.block,a.off+fd.offset,none⟩)))
    | none=>none
   | none=>none
  | _,_=>none)
 | .field t x f=>v (match P.underlying t,e x with
  | some (.struct fs),.agg cs=>match fs[f]? with
   | some fd=>match agg? P fd.type,DM P fd.type with
    | some true,some m=>some (.agg (cs.extract fd.offset (fd.offset+m)))
    | some false,_=>cs[fd.offset]?
    | _,_=>none
   | none=>none
  | _,_=>none)
 | .indexAddr t x ix=>v (match e ix with
  | .int _ i=>match P.underlying t,e x with
   | some (.array len elem),.pointer (some a)=>CV (DM P elem) fun s=>cond (decide (0≤i) && decide (i<len)) (some (.pointer (some ⟨a.block,a.off+i.toNat*s,none⟩))) none
   | some (.slice elem),.slice (some a) len _=>CV (DM P elem) fun s=>cond (decide (0≤i) && decide (i<len)) (some (.pointer (some ⟨a.block,a.off+i.toNat*s,none⟩))) none
   | _,_=>none
  | _=>none)
 | .index t x ix=>v (match e ix with
  | .int _ i=>match P.underlying t,e x with
   | some (.array len elem),.agg cs=>cond (decide (0≤i) && decide (i<len)) (match agg? P elem,DM P elem with
    | some true,some m=>some (.agg (cs.extract (i.toNat*m) (i.toNat*m+m)))
    | some false,some m=>cs[i.toNat*m]?
    | _,_=>none) none
   | some .string,.string s=>cond (decide (0≤i)) ((s[i.toNat]?).map fun b=>.int .u8 b.toNat) none
   | _,_=>none
  | _=>none)
 | .lookup t x k ok=>v (match P.underlying t,e x with
  | some (.map kt elem),m=>CV (Gm P elem) fun z=>CV (match m with
    | .map none=>some []
    | .map (some r)=>match W.obj r with | some (.map es _)=>some es | _=>none
    | _=>none) fun es=>CV (NZ P kt (e k) es) fun r=>match r with
     | some (_,x)=>some (cond ok (.tuple #[x,.bool true]) x)
     | none=>some (cond ok (.tuple #[z,.bool false]) z)
  | _,_=>none)
 | .mapUpdate t m k x | .insert t m k x=>sw (match P.underlying t,e m with
  | some (.map kt _),.map (some r)=>match W.obj r with
   | some (.map es EC)=>CV (NZ P kt (e k) es) fun f=>match f with
    | some (i,_)=>some (W.A5 r (.map (JC (e x) (e k) i es) EC))
    | none=>some (W.A5 r (.map (es++[{ key:=e k,val:=e x,born:=EC }]) (EC+1)))
   | _=>none
  | _,_=>none)
 | .range t x=>vw (match P.underlying t,e x with
  | some (.map _ _),.map none=>some (.pointer (some ⟨W.sz,0,none⟩),W.new (.iter none 0 [] 0))
  | some (.map _ _),.map (some r)=>match W.obj r with
   | some (.map _ EC)=>some (.pointer (some ⟨W.sz,0,none⟩),W.new (.iter (some r) EC [] EC))
   | _=>none
  | _,_=>none)
 | .next it false=>match e it with
  | .pointer (some a)=>cond (!Nat.beq a.off 0) none <| match W.obj a.block with
   | some (.iter none _ _ _)=>some [(.value (.tuple #[.bool false]),W)]
   | some (.iter (some r) since seen last)=>match W.obj r with
    | some (.map es EC) =>
     cond (!seen.isEmpty && !es.isEmpty && es.all fun e=>!(e.born<last)) none
      (some ((R6 es since seen).map fun c=>match c with
       | some en=>(.value (.tuple #[.bool true,en.key,en.val]),W.A5 a.block (.iter (some r) since (seen++[en.born]) EC))
       | none=>(.value (.tuple #[.bool false]),W)))
    | _=>none
   | _=>none
  | _=>none
 | .entry it=>v (match e it with
  | .pointer (some a)=>cond (!Nat.beq a.off 0) none <| match W.obj a.block with
   | some (.iter (some r) _ seen S9)=>match seen.getLast?,W.obj r with
    | some st,some (.map es EC)=>cond (Nat.beq EC S9) ((es.find? fun e=>Nat.beq e.born st).map fun e=>.tuple #[e.key,e.val]) none
    | _,_=>none
   | _=>none
  | _=>none)
 | .typeAssert x _ t ok=>v (match P.underlying t,e x with
  | some (.interface _),_=>none
  | some _,.iface u y=>cond (Nat.beq t u) (some (cond ok (.tuple #[y,.bool true]) y)) (cond ok ((Gm P t).map fun z=>.tuple #[z,.bool false]) none)
  | _,_=>none)
 | .extract x i=>v (match e x with | .tuple vs=>vs[i]? | _=>none)
 | .call c=>match c.callee with
  | .value f=>match Hm (e f) (c.args.toList.map e) with
   | some (.enter g as)=>match JD P g as W with
    | some (v,W1)=>some [(.value v,W1)]
    | none=>some [(.enter g as,W)]
   | some n=>some [(n,W)]
   | none=>none
  | .builtin b=>match IH P b c.argTypes.toList (c.args.toList.map e) W with | some r=>some [r] | none=>none
  | _=>none
 | .defer c=>match c.callee with
  | .value f=>match e f with
   | .func (.func g) first cap=>some [(.defer { target:=.fn (.func g) cap,args:=first++c.args.map e },W)]
   | _=>none
  | _=>none
 | .panic x=>match e x with | .iface t y=>some [(.panic (.iface t y),W)] | _=>none
 | _=>none
end
end Go.Ce
namespace Go.Ce
abbrev K4:=Option (List (Exit × AJ × CW))
abbrev Ends:=Option (List (Ending × CW))
abbrev AAF:=Option (List (Ending × FrameMode × CW))
structure CL where
 code:Option Nat→FuncId→Code→AJ→CW→K4
 call:FuncId→List Value→CW→Ends
 round:Nat→List Value→CW→Ends
 GN:FuncId→List Value→FrameMode→CW→AAF
 eqv:Value→Value→Bool
def CL.base (eqv:Value→Value→Bool):CL:=⟨fun _ _ _ _ _=>Option.none,fun _ _ _=>Option.none,fun _ _ _=>Option.none,fun _ _ _ _=>Option.none,eqv⟩
def Em {α β:Type} (f:α→Option (List β)):List α→Option (List β)
 | []=>some []
 | x::xs=>match f x with
  | Option.none=>Option.none
  | some l=>match Em f xs with
   | Option.none=>Option.none
   | some m=>some (l++m)
def CI {α β:Type} (o:Option (List α)) (f:α→Option (List β)):Option (List β) :=
 match o with
 | Option.none=>Option.none
 | some l=>Em f l
def Jd (ops:Array Oper) (a:AJ) (j:Nat):Option Bool :=
 match ops[j]? with
 | some o=>match o.dst with
  | some d=>match a.t.get d with
   | some (.bool b)=>some b
   | _=>none
  | none=>none
 | none=>none
def C5 (ops:Array Oper) (o:Oper) (a:AJ):Bool :=
 match o.guard with
 | none=>true
 | some (j,want)=>match Jd ops a j with
  | some b=>b == want
  | none=>false
section
variable (P:Program)
def Y5 (ops:Array Oper) (i:Nat):List Nat :=
 match ops[i]? with
 | some o=>(o.after.toList.filter (Region.binds .any)).map (·.on)
 | none=>[]
def Xg (l:List Nat):List Nat→List Nat
 | []=>l
 | x::xs=>Xg (cond (l.any (Nat.beq x)) l (l++[x])) xs
def qM (ops:Array Oper):Nat→List Nat→List Nat
 | 0,l=>l
 | f+1,l=>let m:=Xg l (l.flatMap (Y5 ops)); cond (Nat.beq m.length l.length) l (qM ops f m)
def FW (ops:Array Oper) (i:Nat):List Nat:=qM ops ops.size (Y5 ops i)
def uj (ops:Array Oper) (i j:Nat):Bool:=(FW ops i).any (Nat.beq j)
def C9 (o:Oper):Bool :=
 match o.op with
 | .move _ | .assign _ | .pick .. | .build .. | .nilCheck _ | .binOp .. | .unOp .. | .makeInterface .. | .makeFunc .. | .field .. | .fieldAddr .. | .indexAddr .. | .index .. | .typeAssert .. | .extract ..=>true
 | .convert s d _=>(match P.underlying s with | some (.slice _)=>false | _=>true) && (match P.underlying d with | some (.slice _)=>false | _=>true)
 | _=>false
def DW (o:Oper):Bool :=
 match o.op with
 | .load .. | .slice .. | .lookup .. | .entry _=>true
 | .call c=>match c.callee with
  | .builtin .len=>true
  | _=>false
 | .convert s d _=>(match P.underlying s with | some (.slice _)=>true | _=>false) && (match P.underlying d with | some .string=>true | _=>false)
 | _=>false
def Xh (ops:Array Oper):Nat→Operand→Bool
 | n+1,.tmp t=>match ops.toList.find? (fun o=>match o.dst with | some d=>Nat.beq d t | none=>false) with
  | some o=>C9 P o && o.guard.isNone && o.op.operands.toList.all (Xh ops n)
  | none=>true
 | 0,.tmp _=>false
 | _,_=>true
def floatKind (ops:Array Oper) (o:Oper):Bool :=
 match o.op,o.guard with
 | .alloc _,none=>true
 | .makeMap _ none,none=>true
 | .makeSlice _ l c,none=>Xh P ops 6 l && Xh P ops 6 c
 | _,_=>false
def QL (o:Oper):Bool:=!(C9 P o || DW P o)
def F4 (ops:Array Oper):List Nat :=
 let n:=ops.size
 let ws:=(List.range n).filter fun i=>match ops[i]? with | some o=>QL P o | none=>false
 ws.filter fun i=>match ops[i]? with
  | some o=>floatKind P ops o && ws.any fun j=>!Nat.beq i j && !uj ops i j && !uj ops j i
  | none=>false
def Bt (l:List Nat) (i:Nat):Bool:=l.any (Nat.beq i)
def HS (ops:Array Oper):Bool :=
 let n:=ops.size
 let fl:=F4 P ops
 (List.range n).all fun i=>match ops[i]? with
  | some oi =>
   let an:=FW ops i
   (Y5 ops i).all (fun p=>Nat.blt p i) && (List.range i).all fun j=>Bt an j || (match ops[j]? with
    | some oj=>oj.apart ops oi && !(QL P oi && QL P oj && !Bt fl i && !Bt fl j)
    | none=>true)
  | none=>true
def Xi:Nat→Value→Value→Bool
 | 0,_,_=>false
 | n+1,v,w=>match v,w with
  | .bool a,.bool b=>a == b
  | .int j a,.int k b=>decide (j=k) && a == b
  | .pointer none,.pointer none=>true
  | .pointer (some ⟨a,i,none⟩),.pointer (some ⟨b,j,none⟩)=>Nat.beq a b && Nat.beq i j
  | .slice none n c,.slice none m d=>Nat.beq n m && Nat.beq c d
  | .slice (some ⟨a,i,none⟩) n c,.slice (some ⟨b,j,none⟩) m d=>Nat.beq a b && Nat.beq i j && Nat.beq n m && Nat.beq c d
  | .map none,.map none=>true
  | .map (some a),.map (some b)=>Nat.beq a b
  | .nilIface,.nilIface=>true
  | .nilFunc,.nilFunc=>true
  | .string a,.string b=>Vh (sb a) (sb b)
  | .iface t v,.iface u w=>Nat.beq t u && Xi n v w
  | .agg x,.agg y=>Nat.beq x.size y.size && (x.toList.zip y.toList).all fun (v,w)=>Xi n v w
  | .tuple x,.tuple y=>Nat.beq x.size y.size && (x.toList.zip y.toList).all fun (v,w)=>Xi n v w
  | .func (.func f) x x',.func (.func g) y y'=>Nat.beq f g && Nat.beq x.size y.size && Nat.beq x'.size y'.size && (x.toList.zip y.toList).all (fun (v,w)=>Xi n v w) && (x'.toList.zip y'.toList).all fun (v,w)=>Xi n v w
  | _,_=>false
def CM:Option Av→Option Av→Bool
 | some (.map [] 0),some (.map [] 0)=>true
 | some (.cells .nil n z e),some (.cells .nil m y f)=>Nat.beq n m && Nat.beq e f && Nat.beq z.size y.size && (z.toList.zip y.toList).all fun (v,w)=>Xi 6 v w
 | _,_=>false
def um (xs ys:List Value):Bool:=Nat.beq xs.length ys.length && (xs.zip ys).all fun (v,w)=>Xi 8 v w
def uo:Option Value→Option Value→Bool
 | none,none=>true
 | some v,some w=>Xi 8 v w
 | _,_=>false
def uq:Nat→Tr Value→Tr Value→Bool
 | _,.nil,.nil=>true
 | n+1,.node l v r,.node l' v' r'=>uo v v' && uq n l l' && uq n r r'
 | _,_,_=>false
def meq (a b:MapEntry):Bool:=Xi 8 a.key b.key && Xi 8 a.val b.val && Nat.beq a.born b.born
def ur:Av→Av→Bool
 | .cells c n z e,.cells c' n' z' e'=>Nat.beq n n' && Nat.beq e e' && um z.toList z'.toList && uq 30 c c'
 | .map es k,.map CG k'=>Nat.beq k k' && Nat.beq es.length CG.length && (es.zip CG).all fun (a,b)=>meq a b
 | .deferred,.deferred=>true
 | _,_=>false
def tF:Option Av→Option Av→Option Av
 | some o,some o'=>cond (ur o o') (some o) none
 | _,_=>none
def R7:Nat→Tr Av→Tr Av→Tr Av
 | n+1,.node l v r,.node l' v' r'=>.node (R7 n l l') (tF v v') (R7 n r r')
 | _,_,_=>.nil
def meet (W W':CW):CW:=⟨R7 30 W.h W'.h,max W.sz W'.sz⟩
def II:List (Ending × CW)→Option (Value × CW)
 | [(.returned v,W)]=>some (v,W)
 | (.returned v,W)::rest=>match II rest with
  | some (u,W')=>cond (Xi 8 v u) (some (v,meet W W')) none
  | none=>none
 | _=>none
def merged (o:Ends):Ends :=
 match o with
 | some (x::y::l)=>match II (x::y::l) with
  | some (v,W)=>some [(.returned v,W)]
  | none=>some (x::y::l)
 | o=>o
def En (R:CL) (ops:Array Oper):List Oper→AJ→CW→K4
 | [],a,W=>some [(.normal,a,W)]
 | o::rest,a,W =>
  match C5 ops o a with
  | true=>CI (BP P o a.eval W) fun (n,W)=>match n with
    | .value v=>En R ops rest (a.put o.dst v) W
    | .skip=>En R ops rest (a.put o.dst undef) W
    | .defer d=>En R ops rest ({ a with defers:=d::a.defers }.put o.dst undef) W
    | .enter f args=>CI (R.call f args W) fun (e,W)=>match e with
     | .returned v=>En R ops rest (a.put o.dst v) W
     | .panicked ch=>some [(.panic ch,a,W)]
     | .outgrown=>none
    | .round l args=>CI (R.round l args W) fun (e,W)=>match e with
     | .returned v=>En R ops rest (a.put o.dst v) W
     | .panicked ch=>some [(.panic ch,a,W)]
     | .outgrown=>none
    | .recover=>none
    | .panic v=>some [(.panic [{ v,recovered:=false }],a,W)]
  | false=>En R ops rest (a.put o.dst undef) W
def Ev:Nat→Value→Bool
 | 0,_=>false
 | n+1,v=>match v with
  | .bool _ | .int _ _ | .float _ _ | .complex _ _ _ | .string _ | .pointer none | .slice none _ _ | .map none | .chan none | .nilFunc | .nilIface=>true
  | .agg x=>x.toList.all (Ev n)
  | .tuple x=>x.toList.all (Ev n)
  | .iface _ v=>Ev n v
  | _=>false
def Am:Operand→Bool
 | .tmp _=>true
 | .const v=>Ev 8 v
 | .global _=>false
 | .func _=>true
def Ts (o:Oper):Bool :=
 match o.op with
 | .move x | .assign x | .nilCheck x | .unOp _ _ x | .convert _ _ x | .makeInterface _ x | .field _ x _ | .fieldAddr _ x _ | .range _ x | .next x false | .entry x | .typeAssert x _ _ _ | .extract x _ | .panic x | .box _ x=>Am x
 | .load _ x=>Am x || (match x with | .global _=>true | _=>false)
 | .pick c a b=>Am c && Am a && Am b
 | .alloc _ | .makeMap _ none=>true
 | .build _ ps | .buildSlice _ _ ps=>ps.toList.all fun p=>Am p.2
 | .store _ a x=>Am a && Am x
 | .binOp _ _ x y _ | .makeSlice _ x y | .indexAddr _ x y | .index _ x y | .lookup _ x y _=>Am x && Am y
 | .makeFunc (.func _) f c=>f.toList.all Am && c.toList.all Am
 | .slice _ x l h m=>Am x && l.all Am && h.all Am && m.all Am
 | .mapUpdate _ m k x | .insert _ m k x=>Am m && Am k && Am x
 | .call c=>c.args.toList.all Am && (match c.callee with | .value f=>Am f | .builtin _=>true | _=>false)
 | .defer c=>c.args.toList.all Am && (match c.callee with | .value f=>Am f | _=>false)
 | _=>false
def ZK (nt:Nat) (o:Oper):Bool:=match o.dst with | some d=>Nat.blt d nt | none=>true
def Ol (o:Oper):Bool:=match o.op with | .defer _=>false | _=>true
def Om (o:Oper):Bool:=match o.guard with
 | none=>true
 | some _=>match o.op with
  | .call c=>match c.callee with
   | .value (.func g)=>(P.funcs[g]?).isSome
   | .value _=>false
   | _=>true
  | _=>true
def J9 (nt:Nat) (ph:Bool) (ops:List Oper):Bool:=ops.all fun o=>(Ts o && Om P o) && ZK nt o && (!ph || Ol o)
def AAG (nt:Nat) (ps:Array Tmp):Bool:=ps.toList.all fun p=>Nat.blt p nt
def codeOk (nt:Nat) (ph:Bool):Code→Bool
 | .skip | .label _ | .exit _ | .ret=>true
 | .region _ ops d=>J9 P nt ph ops.toList && (!d || HS P ops)
 | .seq x y=>codeOk nt ph x && codeOk nt ph y
 | .cond c x y=>Am c && (codeOk nt ph x && codeOk nt ph y)
 | .block _ b=>codeOk nt ph b
 | .scope b=>codeOk nt ph b
 | .loop b=>codeOk nt ph b
 | .rangeFunc f ps as bd=>Am f && AAG nt ps && codeOk nt true as && codeOk nt true bd
 | _=>false
structure EJ where
 a:AJ
 W:CW
 ws:List (Nat × CW)
 rd:List (Nat × Oper × AJ × Value)
def early (ops:Array Oper) (a:AJ) (W:CW):Nat→Operand→Value
 | n+1,.tmp t=>match ops.toList.find? (fun o=>match o.dst with | some d=>Nat.beq d t | none=>false) with
  | some o=>cond (C9 P o) ((BP P o (early ops a W n) W).elim undef fun l=>l.head?.elim undef fun p=>match p.1 with | .value v=>v | _=>undef) undef
  | none=>a.eval (.tmp t)
 | _,x=>a.eval x
def Tt (ops:Array Oper) (a:AJ) (W:CW) (o:Oper):Operand→Value :=
 match o.op with
 | .makeSlice _ _ _=>early P ops a W 6
 | _=>a.eval
def On (o:Oper) (a:AJ) (v:Value) (ob:Option Av):Bool :=
 match o.op with
 | .makeSlice _ _ _=>match v with
  | .slice (some b) _ _=>(BP P o a.eval ⟨.nil,b.block⟩).any fun l=>l.head?.any fun p=>match p.1 with
   | .value u=>Xi 8 u v && CM (p.2.obj b.block) ob
   | _=>false
  | _=>false
 | _=>true
def HG (ops:Array Oper) (a:AJ):List Nat→CW→Option (List (Nat × Value × Option Av) × CW)
 | [],W=>some ([],W)
 | i::is,W=>match ops[i]? with
  | some o=>match BP P o (Tt P ops a W o) W with
   | some [(.value v,W1)]=>match HG ops a is W1 with
    | some (l,W2)=>some ((i,v,W1.obj W.sz)::l,W2)
    | none=>none
   | _=>none
  | none=>none
def Dj (ops:Array Oper) (o:Oper) (a:AJ):Option Bool :=
 match o.guard with
 | none=>some true
 | some (j,want)=>match Jd ops a j with
  | some b=>some (b == want)
  | none=>some false
def BU (R:CL) (ops:Array Oper) (fl:List (Nat × Value × Option Av)) (i:Nat) (o:Oper) (s:EJ):Option EJ :=
 match fl.find? fun p=>Nat.beq p.1 i with
 | some (_,v,ob)=>cond (On P o s.a v ob) (some { s with a:=s.a.put o.dst v }) none
 | none=>match Dj ops o s.a with
  | none=>none
  | some false=>some { s with a:=s.a.put o.dst undef }
  | some true =>
   cond (C9 P o) (match BP P o s.a.eval s.W with
    | some [(.value v,_)]=>some { s with a:=s.a.put o.dst v }
    | _=>none)
   (cond (DW P o) (match BP P o s.a.eval s.W with
    | some [(.value v,_)]=>some { s with a:=s.a.put o.dst v,rd:=(i,o,s.a,v)::s.rd }
    | _=>none)
   (match BP P o s.a.eval s.W with
   | some [(.value v,W1)]=>some { s with a:=s.a.put o.dst v,W:=W1,ws:=(i,s.W)::s.ws }
   | some [(.skip,W1)]=>some { s with a:=s.a.put o.dst undef,W:=W1,ws:=(i,s.W)::s.ws }
   | some [(.enter f args,W1)]=>match merged (R.call f args W1) with
    | some [(.returned v,W2)]=>some { s with a:=s.a.put o.dst v,W:=W2,ws:=(i,s.W)::s.ws }
    | _=>none
   | some [(.round l args,W1)]=>match merged (R.round l args W1) with
    | some [(.returned v,W2)]=>some { s with a:=s.a.put o.dst v,W:=W2,ws:=(i,s.W)::s.ws }
    | _=>none
   | _=>none))
def Dk (R:CL) (ops:Array Oper) (fl:List (Nat × Value × Option Av)):Nat→List Oper→EJ→Option EJ
 | _,[],s=>some s
 | i,o::rest,s=>match BU P R ops fl i o s with
  | some s=>Dk R ops fl (i+1) rest s
  | none=>none
def CX (F:Nat→Oper→EJ→Option EJ):Nat→List Oper→EJ→Option EJ
 | _,[],s=>some s
 | i,o::rest,s=>match F i o s with
  | some s=>CX F (i+1) rest s
  | none=>none
def Dy (R:CL) (ops:Array Oper) (fl:List (Nat × Value × Option Av)) (i:Nat) (o:Oper) (s:EJ):Option (List PanicEntry × CW) :=
 match fl.find? fun p=>Nat.beq p.1 i with
 | some _=>none
 | none=>match Dj ops o s.a with
  | some true=>cond (C9 P o) none (cond (DW P o) none (match BP P o s.a.eval s.W with
   | some [(.enter f args,W1)]=>match R.call f args W1 with
    | some [(.panicked ch,W2)]=>some (ch,W2)
    | _=>none
   | some [(.round l args,W1)]=>match R.round l args W1 with
    | some [(.panicked ch,W2)]=>some (ch,W2)
    | _=>none
   | _=>none))
  | _=>none
def Dl (R:CL) (ops:Array Oper) (fl:List (Nat × Value × Option Av)):Nat→List Oper→EJ→Option (Nat × List PanicEntry × CW)
 | _,[],_=>none
 | i,o::rest,s=>match Dy P R ops fl i o s with
  | some (ch,W)=>some (i,ch,W)
  | none=>match BU P R ops fl i o s with
   | some s=>Dl R ops fl (i+1) rest s
   | none=>none
def Lr (ops:Array Oper) (i0 i:Nat):Bool:=Nat.beq i i0 || (Nat.blt i0 i && Bt (FW ops i) i0)
theorem gE {ops:Array Oper} {i0 i:Nat} (h:i<i0):Lr ops i0 i=false:=by
 unfold Lr
 have h1:Nat.beq i i0=false:=by
  cases hq:Nat.beq i i0 with
  | false=>rfl
  | true=>have:=Nat.eq_of_beq_eq_true hq; omega
 have h2:Nat.blt i0 i=false:=by
  cases hq:Nat.blt i0 i with
  | false=>rfl
  | true=>have:=Nat.le_of_ble_eq_true hq; omega
 rw [h1,h2]; rfl
def Gv (R:CL) (ops:Array Oper) (fl:List (Nat × Value × Option Av)) (i0:Nat) (i:Nat) (o:Oper) (s:EJ):Option EJ :=
 cond (Lr ops i0 i) (some { s with a:=s.a.put o.dst undef }) (BU P R ops fl i o s)
def AJ.bad (a:AJ):AJ:={ a with t:=Tr.nil.set 0 (.complex .f64 0 0) }
def AJ.Lh (a:AJ):Bool:=match a.t.get 0 with
 | some (.complex .f64 _ _)=>true
 | _=>false
def C' (ops:Array Oper) (i:Nat) (an:List Nat) (ok:CW→Bool):List (Nat × CW)→CW→Bool
 | [],W=>ok W
 | (j,Wj)::before,W =>
  (uj ops j i || ok W) && cond (Bt an j) true (C' ops i an ok before Wj)
def HT (R:CL) (ops:Array Oper) (a:AJ) (W:CW):K4 :=
 match HG P ops a (F4 P ops) W with
 | none=>none
 | some (fl,W1)=>match Dk P R ops fl 0 ops.toList ⟨a,W1,[],[]⟩ with
  | none=>match Dl P R ops fl 0 ops.toList ⟨a,W1,[],[]⟩ with
   | none=>none
   | some (i0,ch,W2)=>match CX (Gv P R ops fl i0) 0 ops.toList ⟨a,W1,[],[]⟩ with
    | none=>none
    | some s=>cond (fl.isEmpty && s.ws.all fun x=>Bt (FW ops i0) x.1)
     (cond (s.rd.all fun (i,o,a,v)=>C' ops i (FW ops i) (fun W=>match BP P o a.eval W with | some [(.value u,_)]=>R.eqv u v | _=>false) s.ws s.W)
      (some [(.panic ch,a.bad,W2)]) none) none
  | some s =>
   cond (s.rd.all fun (i,o,a,v)=>C' ops i (FW ops i) (fun W=>match BP P o a.eval W with | some [(.value u,_)]=>R.eqv u v | _=>false) s.ws s.W)
    (cond (fl.all fun (i,v,ob)=>C' ops i (FW ops i) (fun W=>match v with | .pointer (some b)=>CM (W.obj b.block) ob | .map (some b)=>CM (W.obj b) ob | .slice (some b) _ _=>CM (W.obj b.block) ob | _=>false) s.ws s.W)
     (some [(.normal,s.a,s.W)]) none) none
def HH (o:K4) (f:AJ→CW→K4):K4 :=
 CI o fun (e,a,W)=>match e with
  | .normal=>f a W
  | e=>some [(e,a,W)]
def G9 (a:AJ) (W:CW):ResultVar→Option Value
 | .tmp t=>some (match a.t.get t with | some v=>v | none=>undef)
 | .cell s ty=>match a.t.get s with
  | some (.pointer (some p))=>JB P ty p W
  | _=>none
def Fl (fn:Func) (a:AJ) (W:CW):Option Value :=
 match fn.results.toList.mapM (G9 P a W) with
 | some [v]=>some v
 | some vs=>some (.tuple vs.toArray)
 | none=>none
def leaves (R:CL) (fn:Func) (a:AJ):List Deferred→FrameMode→CW→Ends
 | [],.returning,W=>match Fl P fn a W with
  | some v=>some [(.returned v,W)]
  | none=>none
 | [],.panicking ch,W=>some [(.panicked ch,W)]
 | [],.run,_=>none
 | d::ds,u,W=>match d.target with
  | .collected r=>match W.obj r with
   | some .deferred=>leaves R fn a ds u (W.A5 r .dead)
   | _=>none
  | .fn (.func f) cap=>CI (R.GN f (d.args.toList++cap.toList) u W) fun (e,u,W)=>match e with
   | .returned _=>leaves R fn a ds (settle u) W
   | _=>none
  | _=>none
def Fu:List Deferred→List PanicEntry→CW→Ends
 | [],ch,W=>some [(.panicked ch,W)]
 | d::ds,ch,W=>match d.target with
  | .collected r=>match W.obj r with
   | some .deferred=>Fu ds ch (W.A5 r .dead)
   | _=>none
  | _=>none
def Tu (ro:Option Nat) (W:CW):Option (Nat × List Deferred × CW) :=
 match ro with
 | some l=>match W.obj l with
  | some (.loop _ _ _ _ _ _ _ _ d)=>some (d,[],W)
  | _=>none
 | none=>some (W.sz,[{ target:=.collected W.sz,args:=#[] }],W.new .deferred)
def Bo (R:CL) (ro:Option Nat) (fn:FuncId) (c:Code) (a:AJ) (W:CW):K4 :=
 match c with
 | .skip=>some [(.normal,a,W)]
 | .label _=>some [(.normal,a,W)]
 | .exit id=>some [(.exit id,a,W)]
 | .ret=>some [(.ret,a,W)]
 | .region _ ops false=>En P R ops ops.toList a W
 | .region _ ops true=>HT P R ops a W
 | .seq x y=>HH (R.code ro fn x a W) (R.code ro fn y)
 | .cond c x y=>match a.eval c with
  | .bool b=>R.code ro fn (cond b x y) a W
  | _=>none
 | .block id b=>CI (R.code ro fn b a W) fun (e,a,W)=>match e with
  | .exit R8=>cond (Nat.beq R8 id) (some [(.normal,a,W)]) (some [(.exit R8,a,W)])
  | e=>some [(e,a,W)]
 | .scope b=>R.code ro fn b a W
 | .loop b=>HH (R.code ro fn b a W) (R.code ro fn (.loop b))
 | .rangeFunc f ps assign body =>
  match Tu ro W with
  | none=>none
  | some (dl,mark,W1) =>
   match Hm (a.eval f) [.func (.yield W1.sz) #[] #[]] with
   | some (.enter g args)=>CI (R.call g args (W1.new (.loop .ready none fn a.t a.nt ps assign body dl))) fun (e,W3)=>match e with
    | .returned _=>match W3.obj W1.sz with
     | some (.loop st DX lf lt ln lp la lb ld) =>
      match st with
      | .busy=>none
      | _=>match DX with
       | none=>some [(.normal,{ a with defers:=mark++a.defers },W3.A5 W1.sz (.loop .exhausted DX lf lt ln lp la lb ld))]
       | some .ret=>some [(.ret,{ a with defers:=mark++a.defers },W3.A5 W1.sz (.loop .exhausted DX lf lt ln lp la lb ld))]
       | some (.exit id)=>some [(.exit id,{ a with defers:=mark++a.defers },W3.A5 W1.sz (.loop .exhausted DX lf lt ln lp la lb ld))]
       | _=>none
     | _=>none
    | .panicked ch=>some [(.panic ch,{ a with defers:=mark++a.defers },W3)]
    | _=>none
   | _=>none
 | _=>none
def CN (R:CL) (ops:Array Oper):List Oper→AJ→FrameMode→CW→Option (List (Exit × AJ × FrameMode × CW))
 | [],a,u,W=>some [(.normal,a,u,W)]
 | o::rest,a,u,W =>
  match C5 ops o a with
  | true=>CI (BP P o a.eval W) fun (n,W)=>match n with
    | .value v=>CN R ops rest (a.put o.dst v) u W
    | .skip=>CN R ops rest (a.put o.dst undef) u W
    | .recover=>match u with
     | .panicking ({ v,recovered:=false,goexit:=false }::WJ)=>CN R ops rest (a.put o.dst v) (.panicking ({ v,recovered:=true }::WJ)) W
     | _=>CN R ops rest (a.put o.dst .nilIface) u W
    | .panic v=>some [(.panic [{ v,recovered:=false }],a,u,W)]
    | _=>none
  | false=>CN R ops rest (a.put o.dst undef) u W
def Sq (R:CL) (fn:FuncId):Code→AJ→FrameMode→CW→Option (List (Exit × AJ × FrameMode × CW))
 | .region _ ops false,a,u,W=>CN P R ops ops.toList a u W
 | .seq x y,a,u,W=>CI (Sq R fn x a u W) fun (e,a,u,W)=>match e with
  | .normal=>Sq R fn y a u W
  | e=>some [(e,a,u,W)]
 | .cond c x y,a,u,W=>match a.eval c with
  | .bool true=>Sq R fn x a u W
  | .bool false=>Sq R fn y a u W
  | _=>none
 | c,a,u,W=>CI (R.code none fn c a W) fun (e,a,W)=>some [(e,a,u,W)]
def Tv (l:Nat) (j:Option Code) (W:CW):Ends :=
 match W.obj l with
 | some (.loop _ _ f t nt ps assign body ld)=>some [(.returned (.bool j.isNone),W.A5 l (.loop (match j with | none=>.ready | some _=>.done) j f t nt ps assign body ld))]
 | _=>none
def GO (fn:Func) (args:List Value):AJ:=⟨Tr.nil.Ag 0 args,fn.ntmps,[]⟩
def CD (L:List FuncId) (R:CL):CL where
 eqv:=R.eqv
 code:=Bo P R
 call f args W:=cond (!Bt L f) none <| (fun r=>cond (Bt L (f+2000000) && args.isEmpty) (some [(.returned (.bool true),W)]) r) <| (fun r=>cond (Bt L (f+1000000)) (merged r) r) <|
  match P.funcs[f]? with
  | some fn=>match fn.body with
   | some c=>cond (Nat.ble args.length fn.ntmps) (CI (R.code none f c (GO fn args) W) fun (e,a,W) =>
    match e with
    | .normal=>leaves P R fn a a.defers .returning W
    | .ret=>leaves P R fn a a.defers .returning W
    | .panic ch=>cond a.Lh (Fu a.defers ch W) (leaves P R fn a a.defers (.panicking ch) W)
    | _=>none) none
   | _=>none
  | _=>none
 GN f args u W:=cond (!Bt L f) none <|
  match P.funcs[f]? with
  | some fn=>match fn.body with
   | some c=>cond (Nat.ble args.length fn.ntmps) (CI (Sq P R f c (GO fn args) u W) fun (e,a,u,W) =>
    cond a.defers.isEmpty (match e with
    | .normal=>match Fl P fn a W with
     | some v=>some [(.returned v,u,W)]
     | none=>none
    | .ret=>match Fl P fn a W with
     | some v=>some [(.returned v,u,W)]
     | none=>none
    | _=>none) none) none
   | _=>none
  | _=>none
 round l args W :=
  match W.obj l with
  | some (.loop .ready _ f t nt ps assign body _) =>
   cond (Nat.beq args.length ps.size) (CI (R.code (some l) f assign ⟨(ps.toList.zip args).foldl (fun t (p:Tmp × Value)=>t.set p.1 p.2) t,nt,[]⟩ W) fun (e,a,W)=>match e with
    | .normal=>match W.obj l with
     | some (.loop .ready DX f t nt ps qN AAH ld) =>
      CI (R.code (some l) f body a (W.A5 l (.loop .busy DX f t nt ps qN AAH ld))) fun (e,a,W)=>match e with
       | .normal=>Tv l none W
       | .ret=>Tv l (some .ret) W
       | .exit id=>Tv l (some (.exit id)) W
       | .panic ch=>cond a.defers.isEmpty (some [(.panicked ch,W)]) none
       | _=>none
     | _=>none
    | _=>none) none
  | _=>none
def qO (eqv:Value→Value→Bool) (L:List FuncId):Nat→CL:=fun n=>Nat.rec (CL.base eqv) (fun _ ih=>CD P L ih) n
def cS (L:List FuncId):Nat→CL:=qO P (Xi 8) L
def evR (L:List FuncId):Nat→CL
 | 0=>CL.base (Xi 8)
 | n+1=>CD P L (evR L n)
def Xe (L:List FuncId):Bool:=L.all fun f=>match P.funcs[f]? with
 | some fn=>match fn.body with
  | some c=>codeOk P fn.ntmps false c
  | none=>true
 | none=>true
end
def W0 (g:Nat):CW:=⟨.nil,g⟩
def Mu:Ends→Bool
 | some l=>l.all fun (e,_)=>match e with | .returned (.bool true)=>true | _=>false
 | none=>false
@[noinline] def cnt (P:Program) (f:Nat) (L:List Nat:=List.range 300) (g:Nat:=0):String:=match (evR P L 6000).call f [] (W0 g) with
 | some l=>s!"outcomes {l.length}: "++String.join ((l.take 3).map fun (e,W)=>s!"blocks {W.sz} {match e with | .returned (.bool b) => toString b | .panicked _ => "pan" | _ => "?"}; ")
 | none=>"none"
end Go.Ce
namespace Go.Ce
open Go.RowKit (Below)
theorem Tr.get_nil {α:Type} (i:Nat):(Tr.nil:Tr α).get i=none:=rfl
theorem Tr.Fm {α:Type} (l:Tr α) (v:Option α) (r:Tr α) (i:Nat) :
  (Tr.node l v r).get i=if i=0 then v else if i % 2=1 then l.get (i / 2) else r.get (i / 2-1):=by
 simp only [Tr.get,cond_eq_ite,Nat.beq_eq]
theorem Tr.lO {α:Type} (f:Nat):∀ (t:Tr α) (i:Nat) (x:α) (j:Nat),i<f→(Tr.ZE f t i x).get j=if j=i then some x else t.get j:=by
 induction f with
 | zero=>intro t i x j h; omega
 | succ f ih =>
  intro t i x j h; have h1:i≠0→i / 2<f:=by omega
  have h2:i≠0→i / 2-1<f:=by omega
  cases t with
  | nil =>
   simp only [Tr.ZE,cond_eq_ite,Nat.beq_eq]
   by_cases hi:i=0
   ·subst hi; simp only [if_true,Tr.Fm,Tr.get_nil]
    by_cases hj:j=0
    ·simp [hj]
    ·simp [hj]
   ·rw [if_neg hi]
    by_cases hm:i % 2=1
    ·rw [if_pos hm,Tr.Fm,ih _ _ _ _ (h1 hi)]
     by_cases hj:j=0
     ·simp [hj,Tr.get_nil]; omega
     ·rw [if_neg hj]
      by_cases Xj:j % 2=1
      ·rw [if_pos Xj]
       by_cases e:j=i
       ·simp [e]
       ·rw [if_neg (by omega),if_neg e]; rfl
      ·rw [if_neg Xj,if_neg (by omega)]; rfl
    ·rw [if_neg hm,Tr.Fm,ih _ _ _ _ (h2 hi)]
     by_cases hj:j=0
     ·simp [hj,Tr.get_nil]; omega
     ·rw [if_neg hj]
      by_cases Xj:j % 2=1
      ·rw [if_pos Xj,if_neg (by omega)]; rfl
      ·rw [if_neg Xj]
       by_cases e:j=i
       ·simp [e]
       ·rw [if_neg (by omega),if_neg e]; rfl
  | node l v r =>
   simp only [Tr.ZE,cond_eq_ite,Nat.beq_eq]
   by_cases hi:i=0
   ·subst hi; simp only [if_true,Tr.Fm]
    by_cases hj:j=0
    ·simp [hj]
    ·simp [hj]
   ·rw [if_neg hi]
    by_cases hm:i % 2=1
    ·rw [if_pos hm,Tr.Fm,ih _ _ _ _ (h1 hi),Tr.Fm]
     by_cases hj:j=0
     ·simp [hj]; omega
     ·rw [if_neg hj,if_neg hj]
      by_cases Xj:j % 2=1
      ·rw [if_pos Xj,if_pos Xj]
       by_cases e:j=i
       ·simp [e]
       ·rw [if_neg (by omega),if_neg e]
      ·rw [if_neg Xj,if_neg Xj,if_neg (by omega)]
    ·rw [if_neg hm,Tr.Fm,ih _ _ _ _ (h2 hi),Tr.Fm]
     by_cases hj:j=0
     ·simp [hj]; omega
     ·rw [if_neg hj,if_neg hj]
      by_cases Xj:j % 2=1
      ·rw [if_pos Xj,if_pos Xj,if_neg (by omega)]
      ·rw [if_neg Xj,if_neg Xj]
       by_cases e:j=i
       ·simp [e]
       ·rw [if_neg (by omega),if_neg e]
theorem Tr.Bi {α:Type} (t:Tr α) (i:Nat) (x:α) (j:Nat):(t.set i x).get j=if j=i then some x else t.get j :=
 Tr.lO _ _ _ _ _ (by omega)
theorem Tr.JE {α:Type} (xs:List α):∀ (t:Tr α) (k j:Nat),(t.Ag k xs).get j=if k≤j∧j<k+xs.length then xs[j-k]? else t.get j:=by
 induction xs with
 | nil=>intro t k j; simp only [Tr.Ag,List.length_nil,Nat.add_zero]; rw [if_neg (by omega)]
 | cons x xs ih =>
  intro t k j; simp only [Tr.Ag,ih,Tr.Bi,List.length_cons]
  by_cases h:k+1≤j∧j<k+1+xs.length
  ·rw [if_pos h,if_pos (by omega)]; obtain ⟨m,rfl⟩:∃ m,j=k+(m+1):=⟨j-k-1,by omega⟩
   have e1:k+(m+1)-(k+1)=m:=by omega
   have e2:k+(m+1)-k=m+1:=by omega
   rw [e1,e2]; rfl
  ·rw [if_neg h]
   by_cases e:j=k
   ·subst e; simp
   ·rw [if_neg e,if_neg (by omega)]
structure Info where
 b:Nat
 o:Nat
 sz:Nat
 n:Nat
 n':Nat
abbrev Bn:=Nat→Option Info
def Ext (ρ ρ':Bn):Prop:=∀ i x,ρ i=some x→ρ' i=some x
theorem Ext.refl (ρ:Bn):Ext ρ ρ:=fun _ _ h=>h
theorem Ext.trans {ρ ρ' ρ'':Bn} (h:Ext ρ ρ') (k:Ext ρ' ρ''):Ext ρ ρ'':=fun i x e=>k i x (h i x e)
def K5 (ρ:Bn) (a a':Addr):Prop:=a.spot=none∧∃ x,ρ a.block=some x∧a'=⟨x.b,a.off+x.o,none⟩
def L8 (ρ:Bn) (r r':Nat):Prop:=∃ x,ρ r=some x∧r'=x.b
def QM (ρ:Bn) (a:Addr) (c c':Nat):Prop:=c'=c∨∃ x,ρ a.block=some x∧0<x.sz∧a.off+c*x.sz=x.n∧a.off+x.o+c'*x.sz=x.n'∧c≤c'
inductive Oo (ρ:Bn):Fn→Fn→Prop
 | func (f:FuncId):Oo ρ (.func f) (.func f)
 | yield {l l':Nat}:L8 ρ l l'→Oo ρ (.yield l) (.yield l')
 | method (s:String):Oo ρ (.method s) (.method s)
 | methodOf (t:TypeId) (s:String):Oo ρ (.methodOf t s) (.methodOf t s)
 | via (t:TypeId) (p:Array FieldStep) (f:FuncId) (b:Bool):Oo ρ (.via t p f b) (.via t p f b)
inductive AO (ρ:Bn):Value→Value→Prop
 | bool (b:Bool):AO ρ (.bool b) (.bool b)
 | int (k:IntKind) (n:Int):AO ρ (.int k n) (.int k n)
 | float (k:FloatKind) (n:Nat):AO ρ (.float k n) (.float k n)
 | complex (k:FloatKind) (n m:Nat):AO ρ (.complex k n m) (.complex k n m)
 | string (s:ByteArray):AO ρ (.string s) (.string s)
 | uu:AO ρ (.pointer none) (.pointer none)
 | ptr {a a':Addr}:K5 ρ a a'→AO ρ (.pointer (some a)) (.pointer (some a'))
 | ZL (n c:Nat):AO ρ (.slice none n c) (.slice none n c)
 | slice {a a':Addr} (n:Nat) {c c':Nat}:K5 ρ a a'→QM ρ a c c'→AO ρ (.slice (some a) n c) (.slice (some a') n c')
 | Ht {a a':Addr}:a.spot=some 0→AO ρ (.slice (some a) 0 0) (.slice (some a') 0 0)
 | Je {a a':Addr} {c':Nat} {x:Info}:a.spot=none→ρ a.block=some x→a'.block=x.b→a'.spot=none→(c'=0∨(0<x.sz∧a'.off+c'*x.sz=x.n'))→AO ρ (.slice (some a) 0 0) (.slice (some a') 0 c')
 | uv:AO ρ (.map none) (.map none)
 | map {r r':Nat}:L8 ρ r r'→AO ρ (.map (some r)) (.map (some r'))
 | uw:AO ρ (.chan none) (.chan none)
 | func {f f':Fn} {x x' y y':Array Value}:Oo ρ f f'→x.size=x'.size→(∀ i,i<x.size→AO ρ (x.getD i undef) (x'.getD i undef)) →
   y.size=y'.size→(∀ i,i<y.size→AO ρ (y.getD i undef) (y'.getD i undef))→AO ρ (.func f x y) (.func f' x' y')
 | nilFunc:AO ρ .nilFunc .nilFunc
 | iface (t:TypeId) {v v':Value}:AO ρ v v'→AO ρ (.iface t v) (.iface t v')
 | nilIface:AO ρ .nilIface .nilIface
 | agg {x x':Array Value}:x.size=x'.size→(∀ i,i<x.size→AO ρ (x.getD i undef) (x'.getD i undef))→AO ρ (.agg x) (.agg x')
 | tuple {x x':Array Value}:x.size=x'.size→(∀ i,i<x.size→AO ρ (x.getD i undef) (x'.getD i undef))→AO ρ (.tuple x) (.tuple x')
theorem K5.mono {ρ ρ':Bn} {a a':Addr} (h:K5 ρ a a') (e:Ext ρ ρ'):K5 ρ' a a' :=
 ⟨h.1,let ⟨x,hx,h'⟩:=h.2; ⟨x,e _ _ hx,h'⟩⟩
theorem L8.mono {ρ ρ':Bn} {a a':Nat} (h:L8 ρ a a') (e:Ext ρ ρ'):L8 ρ' a a':=let ⟨x,hx,h'⟩:=h; ⟨x,e _ _ hx,h'⟩
theorem QM.mono {ρ ρ':Bn} {a:Addr} {c c':Nat} (h:QM ρ a c c') (e:Ext ρ ρ'):QM ρ' a c c' :=
 h.imp id fun ⟨x,hx,h'⟩=>⟨x,e _ _ hx,h'⟩
theorem Oo.mono {ρ ρ':Bn} {f f':Fn} (h:Oo ρ f f') (e:Ext ρ ρ'):Oo ρ' f f':=by
 cases h with
 | yield h=>exact .yield (h.mono e)
 | func f=>exact .func f
 | method s=>exact .method s
 | methodOf t s=>exact .methodOf t s
 | via t p f b=>exact .via t p f b
theorem AO.mono {ρ ρ':Bn} {v v':Value} (h:AO ρ v v') (e:Ext ρ ρ'):AO ρ' v v':=by
 induction h with
 | bool b=>exact .bool b
 | int k n=>exact .int k n
 | float k n=>exact .float k n
 | complex k n m=>exact .complex k n m
 | string s=>exact .string s
 | uu=>exact .uu
 | ptr h=>exact .ptr (h.mono e)
 | ZL n c=>exact .ZL n c
 | slice n h h'=>exact .slice n (h.mono e) (h'.mono e)
 | Ht a=>exact .Ht a
 | Je q a b c d=>exact .Je q (e _ _ a) b c d
 | uv=>exact .uv
 | map h=>exact .map (h.mono e)
 | uw=>exact .uw
 | func hf hx _ hy _ Xk Xl=>exact .func (hf.mono e) hx Xk hy Xl
 | nilFunc=>exact .nilFunc
 | iface t _ ih=>exact .iface t ih
 | nilIface=>exact .nilIface
 | agg hx _ ih=>exact .agg hx ih
 | tuple hx _ ih=>exact .tuple hx ih
theorem AO.undef (ρ:Bn):AO ρ undef undef:=.tuple rfl fun i h=>by simp at h
theorem AO.Oq (ρ:Bn):∀ (n:Nat) (v:Value),Ev n v=true→AO ρ v v:=by
 intro n
 induction n with
 | zero=>intro v h; simp [Ev] at h
 | succ n ih =>
  intro v h
  have all:∀ x:Array Value,x.toList.all (Ev n)=true→∀ i,i<x.size→AO ρ (x.getD i Go.undef) (x.getD i Go.undef):=by
   intro x hx i hi; rw [List.all_eq_true] at hx; have e:x.getD i Go.undef=x[i]:=by simp [Array.getD,hi]
   rw [e]; exact ih _ (hx _ (by simp))
  cases v with
  | bool b=>exact .bool b
  | int k m=>exact .int k m
  | float k m=>exact .float k m
  | complex k m l=>exact .complex k m l
  | string s=>exact .string s
  | pointer a=>cases a with
   | none=>exact .uu
   | some a=>simp [Ev] at h
  | slice a l c=>cases a with
   | none=>exact .ZL l c
   | some a=>simp [Ev] at h
  | map r=>cases r with
   | none=>exact .uv
   | some a=>simp [Ev] at h
  | chan r=>cases r with
   | none=>exact .uw
   | some a=>simp [Ev] at h
  | func f x y=>simp [Ev] at h
  | nilFunc=>exact .nilFunc
  | iface t v=>exact .iface t (ih v (by simpa only [Ev] using h))
  | nilIface=>exact .nilIface
  | agg x=>exact .agg rfl (all x (by simpa only [Ev] using h))
  | tuple x=>exact .tuple rfl (all x (by simpa only [Ev] using h))
theorem AO.one {ρ:Bn} {v v':Value} (h:AO ρ v v'):BN v'=BN v:=by cases h <;> rfl
def Aq (ρ:Bn) (xs ys:List Value):Prop:=xs.length=ys.length∧∀ i,i<xs.length→AO ρ (xs.getD i undef) (ys.getD i undef)
theorem Aq.nil (ρ:Bn):Aq ρ [] []:=⟨rfl,fun i h=>by simp at h⟩
theorem Aq.cons {ρ:Bn} {x y:Value} {xs ys:List Value} (h:AO ρ x y) (k:Aq ρ xs ys):Aq ρ (x::xs) (y::ys) :=
 ⟨by simp [k.1],fun i hi=>by
  cases i with
  | zero=>exact h
  | succ i=>exact k.2 i (by simpa using hi)⟩
theorem Aq.head {ρ:Bn} {x y:Value} {xs ys:List Value} (h:Aq ρ (x::xs) (y::ys)):AO ρ x y:=h.2 0 (by simp)
theorem Aq.tail {ρ:Bn} {x y:Value} {xs ys:List Value} (h:Aq ρ (x::xs) (y::ys)):Aq ρ xs ys :=
 ⟨by simpa using h.1,fun i hi=>h.2 (i+1) (by simpa using hi)⟩
theorem Aq.mono {ρ ρ':Bn} {xs ys:List Value} (h:Aq ρ xs ys) (e:Ext ρ ρ'):Aq ρ' xs ys:=⟨h.1,fun i hi=>(h.2 i hi).mono e⟩
theorem Aq.append {ρ:Bn} {xs ys Od S_:List Value} (h:Aq ρ xs ys) (k:Aq ρ Od S_):Aq ρ (xs++Od) (ys++S_):=by
 induction xs generalizing ys with
 | nil=>cases ys with
  | nil=>exact k
  | cons y ys=>simpa using h.1
 | cons x xs ih=>cases ys with
  | nil=>simpa using h.1
  | cons y ys=>exact .cons h.head (ih h.tail)
theorem Aq.map {ρ:Bn} {α:Type} (xs:List α) (f g:α→Value) (h:∀ x,x ∈ xs→AO ρ (f x) (g x)):Aq ρ (xs.map f) (xs.map g):=by
 induction xs with
 | nil=>exact .nil ρ
 | cons x xs ih=>exact .cons (h x (by simp)) (ih fun y hy=>h y (by simp [hy]))
theorem Aq.get {ρ:Bn} {xs ys:List Value} (h:Aq ρ xs ys) {i:Nat} {x:Value} (hx:xs[i]?=some x):∃ y,ys[i]?=some y∧AO ρ x y:=by
 obtain ⟨hi,e⟩:=List.getElem?_eq_some_iff.1 hx; have IJ:i<ys.length:=h.1 ▸ hi; refine ⟨ys[i],by simp [IJ],?_⟩; have:=h.2 i hi; simp only [List.getD_eq_getElem?_getD,hx,List.getElem?_eq_getElem IJ,Option.getD_some] at this; exact this
theorem Aq.arr {ρ:Bn} {x x':Array Value}:Aq ρ x.toList x'.toList↔(x.size=x'.size∧∀ i,i<x.size→AO ρ (x.getD i undef) (x'.getD i undef)):=by
 unfold Aq; simp only [Array.length_toList,Array.getD_eq_getD_getElem?,List.getD_eq_getElem?_getD,Array.getElem?_toList]
theorem AO.ZM {ρ:Bn} {x x':Array Value} (h:Aq ρ x.toList x'.toList):AO ρ (.agg x) (.agg x'):=.agg (Aq.arr.1 h).1 (Aq.arr.1 h).2
theorem AO.tuple' {ρ:Bn} {x x':Array Value} (h:Aq ρ x.toList x'.toList):AO ρ (.tuple x) (.tuple x'):=.tuple (Aq.arr.1 h).1 (Aq.arr.1 h).2
theorem AO.FH {ρ:Bn} {x:Array Value} {v:Value} (h:AO ρ (.agg x) v):∃ x',v=.agg x'∧Aq ρ x.toList x'.toList:=by
 cases h with | agg e k=>exact ⟨_,rfl,Aq.arr.2 ⟨e,k⟩⟩
theorem AO.iV {ρ:Bn} {x:Array Value} {v:Value} (h:AO ρ (.tuple x) v):∃ x',v=.tuple x'∧Aq ρ x.toList x'.toList:=by
 cases h with | tuple e k=>exact ⟨_,rfl,Aq.arr.2 ⟨e,k⟩⟩
theorem AO.cells {ρ:Bn} {v v':Value} (h:AO ρ v v'):Aq ρ v.cells.toList v'.cells.toList:=by
 cases h <;> first
  | exact .cons (by first | (constructor <;> assumption) | (apply AO.Je <;> assumption) | (apply AO.Ht <;> assumption)) (.nil ρ)
  | (rename_i e k; exact Aq.arr.2 ⟨e,k⟩)
end Go.Ce
namespace Go.Ce
open Go.RowKit (Below)
inductive Xm (ρ:Bn):MapEntry→MapEntry→Prop
 | mk {k v k' v':Value} (b:Nat):AO ρ k k'→AO ρ v v'→Xm ρ ⟨k,v,b⟩ ⟨k',v',b⟩
def Bs (ρ:Bn):List MapEntry→List MapEntry→Prop
 | [],[]=>True
 | e::es,e'::CG=>Xm ρ e e'∧Bs ρ es CG
 | _,_=>False
theorem Xm.mono {ρ ρ':Bn} {e e':MapEntry} (h:Xm ρ e e') (x:Ext ρ ρ'):Xm ρ' e e':=by
 cases h with | mk b hk hv=>exact .mk b (hk.mono x) (hv.mono x)
theorem Bs.mono {ρ ρ':Bn} (x:Ext ρ ρ'):∀ {es CG:List MapEntry},Bs ρ es CG→Bs ρ' es CG
 | [],[],_=>trivial
 | _::_,_::_,h=>⟨h.1.mono x,Bs.mono x h.2⟩
 | [],_::_,h=>h.elim
 | _::_,[],h=>h.elim
def NF (fr:Nat × Nat) (n:Nat):Prop:=∀ k,k<n→(decide (fr.1≤k) && decide (k<fr.2))=false
theorem NF.zero (n:Nat):NF (0,0) n:=fun k _=>by simp
inductive HU (P:Program) (ρ:Bn) (x:Info):Av→Obj→Prop
 | cells {c:Tr Value} {z:Array Value} {e:TypeId} {c':Array Value} {fr:Nat × Nat}:(P.info? e).map (·.size)=some x.sz→c'.size=x.n'→x.o+x.n≤x.n' →
   (∀ k,k<x.n→AO ρ (cellAt c z k) (c'.getD (k+x.o) undef))→(NF fr c'.size∧(z.size≠0→x.o=0∧x.n=x.n'))→HU P ρ x (.cells c x.n z e) (.cells c' e fr)
 | fixed {f:Nat→Value} {e e':TypeId} {c':Array Value} {fr:Nat × Nat}:(P.info? e).map (·.size)=some x.sz→c'.size=x.n'→x.o+x.n≤x.n' →
   (∀ k,k<x.n→AO ρ (f k) (c'.getD (k+x.o) undef))→HU P ρ x (.fixed f x.n e) (.cells c' e' fr)
 | map {es:List MapEntry} {CG:Array MapEntry} {EC:Nat}:x.o=0→Bs ρ es CG.toList→HU P ρ x (.map es EC) (.map CG EC)
 | Ot {s l:Nat} {seen:List Nat} {AAI:Array Nat}:x.o=0→HU P ρ x (.iter none s seen l) (.mapIter none s AAI l)
 | iter {m m' s l:Nat} {seen:List Nat}:x.o=0→L8 ρ m m'→HU P ρ x (.iter (some m) s seen l) (.mapIter (some m') s seen.toArray l)
 | loop {st:LoopState} {pd:Option Code} {f f':FuncId} {t:Tr Value} {t':Array Value} {ps:Array Tmp} {as bd:Code} {d d':Nat} :
   (∀ i,AO ρ ((t.get i).getD undef) (t'.getD i undef))→L8 ρ d d'→(AAG t'.size ps=true∧codeOk P t'.size true as=true∧codeOk P t'.size true bd=true)→(∃ fn,P.funcs[f']?=some fn) →
   HU P ρ x (.loop st pd f t t'.size ps as bd d) (.loop { state:=st,pending:=pd,fn:=f',tmps:=t',params:=ps,assign:=as,body:=bd,defers:=d' })
 | deferred:HU P ρ x .deferred (.deferred (some []))
theorem HU.mono {P:Program} {ρ ρ':Bn} {x:Info} {o:Av} {o':Obj} (h:HU P ρ x o o') (e:Ext ρ ρ'):HU P ρ' x o o':=by
 cases h with
 | cells a b c d q=>exact .cells a b c (fun k hk=>(d k hk).mono e) q
 | fixed a b c d=>exact .fixed a b c fun k hk=>(d k hk).mono e
 | map a b=>exact .map a (b.mono e)
 | Ot a=>exact .Ot a
 | iter a b=>exact .iter a (b.mono e)
 | loop a b c d=>exact .loop (fun i=>(a i).mono e) (b.mono e) c d
 | deferred=>exact .deferred
structure AY (P:Program) (w0:World) (ρ:Bn) (W:CW) (w:World):Prop where
 TA:∀ i x,ρ i=some x→i<W.sz
 top:∀ i o,W.h.get i=some o→i<W.sz
 live:∀ i o x,W.h.get i=some o→o≠.dead→ρ i=some x→∃ o',w.heap[x.b]?=some o'∧HU P ρ x o o'∧(o.mut=true→w0.heap.size≤x.b)∧(o.mut=false→x.b<w0.heap.size)
 inj:∀ i j o u x y,W.h.get i=some o→o.mut=true→W.h.get j=some u→u.mut=true→ρ i=some x→ρ j=some y→x.b=y.b→i=j
 below:Below w0.heap.size w0 w
section
variable {P:Program} {w0:World} {ρ:Bn} {W:CW} {w:World}
theorem AY.drew (h:AY P w0 ρ W w) (n:Nat):AY P w0 ρ W { w with drawn:=n } :=
 ⟨h.TA,h.top,h.live,h.inj,⟨h.below.os,h.below.tape,h.below.output,h.below.size,h.below.block⟩⟩
theorem AY.obj (h:AY P w0 ρ W w) {i:Nat} {o:Av} (ho:W.obj i=some o) (hd:o≠.dead) {a':Nat} {x:Info} (hx:ρ i=some x) (hb:a'=x.b) :
  ∃ o',w.heap[a']?=some o'∧HU P ρ x o o':=by
 obtain ⟨o',HV,hr,_⟩:=h.live i o x ho hd hx; subst hb; exact ⟨o',HV,hr⟩
def Dw (W:CW) (ρ:Bn) (W1:CW) (ρ':Bn):Prop:=Ext ρ ρ'∧(∀ i,i<W.sz→ρ' i=ρ i)∧W.sz≤W1.sz
theorem Dw.refl {W W1:CW} (ρ:Bn) (h:W.sz≤W1.sz:=by exact Nat.le_refl _):Dw W ρ W1 ρ:=⟨Ext.refl ρ,fun _ _=>rfl,h⟩
theorem Dw.ext {W W1:CW} {ρ ρ':Bn} (h:Dw W ρ W1 ρ'):Ext ρ ρ':=h.1
theorem Dw.trans {W W1 W2:CW} {ρ ρ' ρ'':Bn} (h:Dw W ρ W1 ρ') (k:Dw W1 ρ' W2 ρ''):Dw W ρ W2 ρ'' :=
 ⟨h.1.trans k.1,fun i hi=>by rw [k.2.1 i (Nat.lt_of_lt_of_le hi h.2.2),h.2.1 i hi],Nat.le_trans h.2.2 k.2.2⟩
theorem Av.IK {o:Av} (h:o.mut=true):o≠.dead:=by rintro rfl; cases h
theorem AY.new (h:AY P w0 ρ W w) {o:Av} {o':Obj} (x:Info) (hb:x.b=w.heap.size)
  (hr:HU P (fun i=>if i=W.sz then some x else ρ i) x o o') (hm:o.mut=true:=by rfl) :
  Dw W ρ (W.new o) (fun i=>if i=W.sz then some x else ρ i)∧AY P w0 (fun i=>if i=W.sz then some x else ρ i) (W.new o) { w with heap:=w.heap.push o' }:=by
 have C_:Ext ρ (fun i=>if i=W.sz then some x else ρ i):=fun i y hy=>by
  have:=h.TA i y hy; show (if i=W.sz then some x else ρ i)=some y; rw [if_neg (by omega)]; exact hy
 have hw0:w0.heap.size≤w.heap.size:=h.below.size
 have hold:∀ i u y,W.h.get i=some u→u≠.dead→ρ i=some y→y.b<w.heap.size:=fun i u y hu hd hy=>by
  obtain ⟨o',HV,_,_⟩:=h.live i u y hu hd hy; exact (Array.getElem?_eq_some_iff.1 HV).1
 refine ⟨⟨C_,fun i hi=>by show (if i=W.sz then some x else ρ i)=ρ i; rw [if_neg (by omega)],Nat.le_succ _⟩,?_,?_,?_,?_,?_⟩
 ·intro i y hy; show i<W.sz+1
  by_cases e:i=W.sz
  ·omega
  ·have:ρ i=some y:=by simpa [e] using hy
   have:=h.TA i y this; omega
 ·intro i u hu; show i<W.sz+1; simp only [CW.new,Tr.Bi] at hu
  split at hu
  ·omega
  ·have:=h.top i u hu; omega
 ·intro i u y hu hd hy; simp only [CW.new,Tr.Bi] at hu
  split at hu
  ·rename_i e
   cases hu
   have hy:some x=some y:=by simpa [e] using hy
   cases hy
   refine ⟨o',?_,hr,fun _=>by omega,fun hf=>by rw [hm] at hf; cases hf⟩; show (w.heap.push o')[x.b]?=_; rw [hb]; simp
  ·rename_i e; have hy:ρ i=some y:=by simpa [e] using hy
   obtain ⟨u',Vi,hru,cT⟩:=h.live i u y hu hd hy; refine ⟨u',?_,hru.mono C_,cT⟩; have Au:=(Array.getElem?_eq_some_iff.1 Vi).1; show (w.heap.push o')[y.b]?=_; rw [Array.getElem?_push,if_neg (by omega)]; exact Vi
 ·intro i j u v y z hu kZ hv Ly hy hz lP; simp only [CW.new,Tr.Bi] at hu hv
  by_cases ei:i=W.sz
  ·by_cases ej:j=W.sz
   ·omega
   ·simp only [if_neg ej] at hv hz; simp only [if_pos ei,Option.some.injEq] at hy; have Au:=hold j v z hv (Av.IK Ly) hz; subst hy; omega
  ·simp only [if_neg ei] at hu hy
   by_cases ej:j=W.sz
   ·simp only [if_pos ej,Option.some.injEq] at hz; have Au:=hold i u y hu (Av.IK kZ) hy; subst hz; omega
   ·simp only [if_neg ej] at hv hz; exact h.inj i j u v y z hu kZ hv Ly hy hz lP
 ·exact ⟨h.below.os,h.below.tape,h.below.output,by show w0.heap.size≤(w.heap.push o').size; rw [Array.size_push]; omega,fun k hk=>by
   show (w.heap.push o')[k]?=_
   rw [Array.getElem?_push,if_neg (by omega)]; exact h.below.block k hk⟩
theorem AY.A5 (h:AY P w0 ρ W w) {i:Nat} {o u:Av} {u':Obj} {x:Info} (ho:W.obj i=some o) (hd:o.mut=true) (hx:ρ i=some x)
  (hr:HU P ρ x u u') (hm:u.mut=true:=by rfl):AY P w0 ρ (W.A5 i u) { w with heap:=w.heap.setIfInBounds x.b u' }:=by
 obtain ⟨o',HV,_,cT,_⟩:=h.live i o x ho (Av.IK hd) hx; have cT:=cT hd; have Au:=(Array.getElem?_eq_some_iff.1 HV).1; have hi:=h.top i o ho
 refine ⟨h.TA,?_,?_,?_,?_⟩
 ·intro j v hv; simp only [CW.A5,Tr.Bi] at hv
  split at hv
  ·show j<W.sz; omega
  ·exact h.top j v hv
 ·intro j v y hv Ly hy; simp only [CW.A5,Tr.Bi] at hv
  split at hv
  ·rename_i e
   cases hv; subst e
   rw [hx] at hy; cases hy; refine ⟨u',?_,hr,fun _=>cT,fun hf=>by rw [hm] at hf; cases hf⟩; show (w.heap.setIfInBounds x.b u')[x.b]?=_; simp [Au]
  ·rename_i e; obtain ⟨v',Gw,pj,kb⟩:=h.live j v y hv Ly hy; refine ⟨v',?_,pj,kb⟩
   have Dm:x.b≠y.b:=fun hb=>by
    cases ZN:v.mut with
    | true=>exact e (h.inj j i v o y x hv ZN ho hd hy hx hb.symm)
    | false=>have:=kb.2 ZN; omega
   show (w.heap.setIfInBounds x.b u')[y.b]?=_; rw [Array.getElem?_setIfInBounds_ne Dm]; exact Gw
 ·intro j k v v' y z hv Ly Gw ZO hy hz lP
  have get:∀ j v,(W.A5 i u).h.get j=some v→v.mut=true→∃ v0,W.h.get j=some v0∧v0.mut=true:=fun j v hv Ly=>by
   simp only [CW.A5,Tr.Bi] at hv
   split at hv
   ·rename_i e; subst e; exact ⟨o,ho,hd⟩
   ·exact ⟨v,hv,Ly⟩
  obtain ⟨a,ha,had⟩:=get j v hv Ly; obtain ⟨b,hb,cU⟩:=get k v' Gw ZO; exact h.inj j k a b y z ha had hb cU hy hz lP
 ·exact ⟨h.below.os,h.below.tape,h.below.output,by show w0.heap.size≤(w.heap.setIfInBounds x.b u').size; rw [Array.size_setIfInBounds]; exact h.below.size,fun k hk=>by
   show (w.heap.setIfInBounds x.b u')[k]?=_
   rw [Array.getElem?_setIfInBounds_ne (by omega)]; exact h.below.block k hk⟩
end
end Go.Ce
namespace Go.Ce
open Go.RowKit (Below)
section
variable {P:Program} {w:World} {b:Nat} {c:Array Value} {e:TypeId} {fr:Nat × Nat}
theorem cell_of (hb:w.heap[b]?=some (.cells c e fr)) (off:Nat):w.cell? ⟨b,off,none⟩=c[off]?:=by
 simp [World.cell?,hb]
theorem iW (hb:w.heap[b]?=some (.cells c e fr)) (hf:NF fr c.size) (off:Nat) (h:off<c.size):w.frozen? ⟨b,off,none⟩=false:=by
 simp only [World.frozen?,hb]; exact hf off h
theorem dF (hb:w.heap[b]?=some (.cells c e fr)) (off:Nat) (v:Value) :
  w.setCell ⟨b,off,none⟩ v={ w with heap:=w.heap.setIfInBounds b (.cells (c.setIfInBounds off v) e fr) }:=by
 have Au:=(Array.getElem?_eq_some_iff.1 hb).1; have hv:=(Array.getElem?_eq_some_iff.1 hb).2; simp only [World.setCell,World.mk.injEq,and_self,and_true]; apply Array.ext_getElem?; intro i; rw [Array.getElem?_modify,Array.getElem?_setIfInBounds]
 by_cases h:b=i
 ·subst h; simp [Au,hv]
 ·rw [if_neg h,if_neg h]
theorem L9 (b off i:Nat):(⟨b,off,none⟩:Addr).add i=⟨b,off+i,none⟩:=by
 unfold Addr.add
 split
 ·rename_i h; simp [h]
 ·rfl
def DH (c:Array Value):Nat→Nat→List Value
 | 0,_=>[]
 | m+1,k=>c.getD k undef::DH c m (k+1)
theorem HW (c:Array Value):∀ m k,(DH c m k).length=m
 | 0,_=>rfl
 | m+1,k=>by simp [DH,HW c m]
theorem run_loadCellsFrom (hb:w.heap[b]?=some (.cells c e fr)) (off:Nat):∀ (n i:Nat) (acc:Array Value),off+i+n≤c.size →
  (loadCellsFrom ⟨b,off,none⟩ i n acc).run P w=.ok (acc++(DH c n (off+i)).toArray) w:=by
 intro n
 induction n with
 | zero=>intro i acc _; simp [loadCellsFrom,DH]
 | succ n ih =>
  intro i acc h
  have hc:c[off+i]?=some (c.getD (off+i) undef):=by
   have:off+i<c.size:=by omega
   simp [Array.getD,this]
  simp only [loadCellsFrom,Sem.run_bind,run_load,L9,cell_of hb,hc,Result.andThen_ok]; rw [ih (i+1) _ (by omega)]; simp only [DH]; congr 1; apply Array.ext'; simp [Nat.add_assoc]
theorem run_loadCells (hb:w.heap[b]?=some (.cells c e fr)) (off n:Nat) (h:off+n≤c.size) :
  (loadCells ⟨b,off,none⟩ n).run P w=.ok (DH c n off).toArray w:=by
 have:=run_loadCellsFrom (P:=P) hb off n 0 #[] (by omega)
 simpa [loadCells] using this
def Fv (c:Array Value):Nat→List Value→Array Value
 | _,[]=>c
 | k,v::vs=>Fv (c.setIfInBounds k v) (k+1) vs
theorem GP:∀ (vs:List Value) (c:Array Value) (k:Nat),(Fv c k vs).size=c.size
 | [],_,_=>rfl
 | v::vs,c,k=>by simp [Fv,GP vs]
theorem R9:∀ (vs:List Value) (c:Array Value) (k j:Nat),k+vs.length≤c.size →
  (Fv c k vs).getD j undef=if k≤j∧j<k+vs.length then vs.getD (j-k) undef else c.getD j undef:=by
 intro vs
 induction vs with
 | nil=>intro c k j _; simp only [Fv,List.length_nil,Nat.add_zero]; rw [if_neg (by omega)]
 | cons v vs ih =>
  intro c k j h; simp only [List.length_cons] at h; rw [Fv,ih _ _ _ (by simp; omega)]; simp only [List.length_cons]
  by_cases h1:k+1≤j∧j<k+1+vs.length
  ·rw [if_pos h1,if_pos (by omega)]; obtain ⟨m,rfl⟩:∃ m,j=k+(m+1):=⟨j-k-1,by omega⟩
   have e1:k+(m+1)-(k+1)=m:=by omega
   have e2:k+(m+1)-k=m+1:=by omega
   rw [e1,e2]; simp
  ·rw [if_neg h1]
   by_cases ej:j=k
   ·subst ej; have:j<c.size:=by omega
    simp [Array.getD_eq_getD_getElem?,this]
   ·rw [if_neg (by omega)]; simp only [Array.getD_eq_getD_getElem?]; rw [Array.getElem?_setIfInBounds_ne (by omega)]
theorem dG {v:Value} (h:BN v=true):v.oneCell'=true:=by cases v <;> simp_all [BN,Value.oneCell']
theorem Ew (off:Nat):∀ (vs:List Value) (i:Nat) (w:World) (c:Array Value),w.heap[b]?=some (.cells c e fr)→NF fr c.size→off+i+vs.length≤c.size→vs.all BN=true →
  (storeCells ⟨b,off,none⟩ vs i).run P w=.ok () { w with heap:=w.heap.setIfInBounds b (.cells (Fv c (off+i) vs) e fr) }:=by
 intro vs
 induction vs with
 | nil =>
  intro i w c hb _ _ _; have Au:=(Array.getElem?_eq_some_iff.1 hb).1; have hv:=(Array.getElem?_eq_some_iff.1 hb).2; simp only [storeCells,Sem.run_pure,Fv]; congr 1
  have:w.heap.setIfInBounds b (.cells c e fr)=w.heap:=by
   apply Array.ext_getElem?; intro j; rw [Array.getElem?_setIfInBounds]
   by_cases h:b=j
   ·subst h; simp [Au,hv]
   ·rw [if_neg h]
  rw [this]
 | cons v vs ih =>
  intro i w c hb dH h B6; simp only [List.length_cons] at h; simp only [List.all_cons,Bool.and_eq_true] at B6
  have hc:c[off+i]?=some (c.getD (off+i) undef):=by
   have:off+i<c.size:=by omega
   simp [Array.getD,this]
  have Au:=(Array.getElem?_eq_some_iff.1 hb).1; simp only [storeCells,Sem.run_bind,L9]; rw [run_store P w _ v _ (dG B6.1)]; simp only [cell_of hb,hc,iW hb dH (off+i) (by omega),Bool.false_eq_true,if_false,Result.andThen_ok,dF hb]; rw [ih (i+1) _ (c.setIfInBounds (off+i) v) (by simp [Au]) (by simpa using dH) (by simp; omega) B6.2]; simp [Fv,Nat.add_assoc]
theorem run_underlying (t:TypeId) (w:World):(underlying t).run P w=match P.underlying t with | some d=>.ok d w | none=>.halt (.stuck "no such type") w:=by
 simp only [underlying,Sem.run_bind,run_program,Result.andThen_ok]
 cases P.underlying t <;> rfl
theorem AD {t:TypeId} {d:TypeDesc} (h:P.underlying t=some d) (w:World):(underlying t).run P w=.ok d w:=by rw [run_underlying,h]
theorem G' {t:TypeId} {i:TypeInfo} (h:P.info? t=some i) (w:World):(typeInfo t).run P w=.ok i w:=by
 simp only [typeInfo,Sem.run_bind,run_program,Result.andThen_ok,h]; rfl
theorem BJ {t:TypeId} {n:Nat} (h:DM P t=some n) (w:World):(sizeOf t).run P w=.ok n w:=by
 unfold DM at h
 cases hi:P.info? t with
 | none=>simp [hi] at h
 | some i=>simp only [hi,Option.map_some,Option.some.injEq] at h; simp [sizeOf,G' hi,h]
theorem Bd {t:TypeId} {z:Value} (h:Gm P t=some z) (w:World):(zeroValue t).run P w=.ok z w:=by
 unfold Gm at h
 cases hi:P.info? t with
 | none=>simp [hi] at h
 | some i =>
  simp only [hi,Option.bind_some,cond_eq_ite] at h
  split at h
  ·simp [zeroValue,G' hi,h]
  ·cases h
theorem Ey {t:TypeId} {x:Bool} (h:agg? P t=some x) (w:World):(isAgg t).run P w=.ok x w:=by
 unfold agg? at h
 cases hd:P.underlying t with
 | none=>simp [hd] at h
 | some d =>
  simp only [hd,Option.map_some,Option.some.injEq] at h; subst h; simp only [isAgg,Sem.run_bind,AD hd,Result.andThen_ok]
  cases d <;> rfl
end
section
variable {P:Program} {w0:World} {ρ:Bn} {W:CW} {w:World}
theorem K6 (c:Array Value):∀ (m k i:Nat),i<m→(DH c m k).getD i undef=c.getD (k+i) undef
 | 0,_,_,h=>by omega
 | m+1,k,0,_=>by simp [DH]
 | m+1,k,i+1,h=>by
  have:=K6 c m (k+1) i (by omega); simp only [DH,List.getD_cons_succ,this]; congr 1; omega
theorem Fo (c:Tr Value) (z:Array Value):∀ (m k i:Nat),i<m→(BX c z m k).getD i undef=cellAt c z (k+i)
 | 0,_,_,h=>by omega
 | m+1,k,0,_=>by simp [BX]
 | m+1,k,i+1,h=>by
  have:=Fo c z m (k+1) i (by omega); simp only [BX,List.getD_cons_succ,this]; congr 1; omega
theorem A3 (c:Tr Value) (z:Array Value):∀ m k,(BX c z m k).length=m
 | 0,_=>rfl
 | m+1,k=>by simp [BX,A3 c z m]
theorem ZQ {c:Tr Value} {z:Array Value} {c':Array Value} {n o:Nat} (h:∀ k,k<n→AO ρ (cellAt c z k) (c'.getD (k+o) undef)) (m k:Nat) (hm:k+m≤n) :
  Aq ρ (BX c z m k) (DH c' m (k+o)):=by
 refine ⟨by rw [A3,HW],fun i hi=>?_⟩; rw [A3] at hi; rw [Fo _ _ _ _ _ hi,K6 _ _ _ _ hi]; have:=h (k+i) (by omega); have e:k+i+o=k+o+i:=by omega
 rwa [e] at this
theorem Tw (c:Tr Value) (z:Array Value) (vs:List Value) (k j:Nat) :
  cellAt (c.Ag k vs) z j=if k≤j∧j<k+vs.length then vs.getD (j-k) undef else cellAt c z j:=by
 unfold cellAt; rw [Tr.JE]
 by_cases h:k≤j∧j<k+vs.length
 ·rw [if_pos h,if_pos h]; have:j-k<vs.length:=by omega
  simp [List.getD_eq_getElem?_getD,this]
 ·rw [if_neg h,if_neg h]
theorem HU.write {fr:Nat × Nat} {x:Info} {c:Tr Value} {z:Array Value} {e:TypeId} {c':Array Value} {n:Nat} (h:HU P ρ x (.cells c n z e) (.cells c' e fr)) {vs vs':List Value} (hv:Aq ρ vs vs') {k:Nat}
  (hk:k+vs.length≤n):HU P ρ x (.cells (c.Ag k vs) n z e) (.cells (Fv c' (k+x.o) vs') e fr):=by
 cases h with
 | cells he hs ho hc hq =>
  refine .cells he (by rw [GP]; exact hs) ho (fun j hj=>?_) (by rw [GP]; exact hq); rw [Tw,R9 _ _ _ _ (by rw [←hv.1]; omega),←hv.1]
  by_cases h:k≤j∧j<k+vs.length
  ·rw [if_pos h,if_pos (by omega)]; have e:j+x.o-(k+x.o)=j-k:=by omega
   rw [e]; exact hv.2 _ (by omega)
  ·rw [if_neg h,if_neg (by omega)]; exact hc j hj
theorem AY.cells (h:AY P w0 ρ W w) {a a':Addr} (ha:K5 ρ a a') {c:Tr Value} {n:Nat} {z:Array Value} {e:TypeId} (ho:W.obj a.block=some (.cells c n z e)) :
  ∃ x c' fr,ρ a.block=some x∧a'=⟨x.b,a.off+x.o,none⟩∧w.heap[x.b]?=some (.cells c' e fr)∧NF fr c'.size∧HU P ρ x (.cells c n z e) (.cells c' e fr)∧x.n=n∧c'.size=x.n'∧x.o+n≤x.n' ∧
   (P.info? e).map (·.size)=some x.sz∧(∀ k,k<n→AO ρ (cellAt c z k) (c'.getD (k+x.o) undef)):=by
 obtain ⟨_,x,hx,rfl⟩:=ha; obtain ⟨o',HV,hr⟩:=h.obj ho (by simp) hx rfl
 cases hr with
 | cells he hs dI hc hq=>exact ⟨x,_,_,hx,rfl,HV,hq.1,.cells he hs dI hc hq,rfl,hs,dI,he,hc⟩
theorem AY.fixed (h:AY P w0 ρ W w) {a a':Addr} (ha:K5 ρ a a') {f:Nat→Value} {n:Nat} {e:TypeId} (ho:W.obj a.block=some (.fixed f n e)) :
  ∃ x c' e' fr,ρ a.block=some x∧a'=⟨x.b,a.off+x.o,none⟩∧w.heap[x.b]?=some (.cells c' e' fr)∧x.n=n∧c'.size=x.n'∧x.o+n≤x.n' ∧
   (P.info? e).map (·.size)=some x.sz∧(∀ k,k<n→AO ρ (f k) (c'.getD (k+x.o) undef)):=by
 obtain ⟨_,x,hx,rfl⟩:=ha; obtain ⟨o',HV,hr⟩:=h.obj ho (by simp) hx rfl
 cases hr with
 | fixed he hs dI hc=>exact ⟨x,_,_,_,hx,rfl,HV,rfl,hs,dI,he,hc⟩
theorem D4 (f:Nat→Value):∀ m k,(EH f m k).length=m
 | 0,_=>rfl
 | m+1,k=>by simp [EH,D4 f m]
theorem L_ (f:Nat→Value):∀ (m k i:Nat),i<m→(EH f m k).getD i undef=f (k+i)
 | 0,_,_,h=>by omega
 | m+1,k,0,_=>rfl
 | m+1,k,i+1,h=>by
  have:=L_ f m (k+1) i (by omega); simp only [EH,List.getD_cons_succ,this]; congr 1; omega
theorem R' {f:Nat→Value} {c':Array Value} {n o:Nat} (h:∀ k,k<n→AO ρ (f k) (c'.getD (k+o) undef)) (m k:Nat) (hm:k+m≤n) :
  Aq ρ (EH f m k) (DH c' m (k+o)) :=
 ⟨by rw [D4,HW],fun i hi=>by
  rw [D4] at hi; rw [L_ _ _ _ _ hi,K6 _ _ _ _ hi]; have:=h (k+i) (by omega); have e:k+i+o=k+o+i:=by omega
  rwa [e] at this⟩
theorem R_ (h:AY P w0 ρ W w) {t:TypeId} {a a':Addr} {v:Value} (ha:K5 ρ a a') (hl:JB P t a W=some v) :
  ∃ v',(loadVar t a').run P w=.ok v' w∧AO ρ v v':=by
 unfold JB at hl
 split at hl
 ·rename_i c n z e ho; obtain ⟨x,c',fr,hx,rfl,hb,_,_,_,hs,dI,_,hc⟩:=h.cells ha ho
  split at hl
  ·rename_i dJ
   split at hl
   ·rename_i m hm; rw [cond_eq_ite] at hl
    split at hl
    ·rename_i hle; have hle:=Nat.le_of_ble_eq_true hle
     cases hl
     refine ⟨.agg (DH c' m (a.off+x.o)).toArray,?_,.ZM (by simpa using ZQ hc m a.off hle)⟩; simp only [loadVar,Sem.run_bind,Ey dJ,Result.andThen_ok,if_true,BJ hm]; rw [run_loadCells hb _ _ (by omega)]; rfl
    ·cases hl
   ·cases hl
  ·rename_i dJ; rw [cond_eq_ite] at hl
   split at hl
   ·rename_i Au; have Au:a.off<n:=by have:=Nat.le_of_ble_eq_true Au; omega
    cases hl
    refine ⟨c'.getD (a.off+x.o) undef,?_,hc _ Au⟩
    have:c'[a.off+x.o]?=some (c'.getD (a.off+x.o) undef):=by
     have:a.off+x.o<c'.size:=by omega
     simp [Array.getD,this]
    simp only [loadVar,Sem.run_bind,Ey dJ,Result.andThen_ok,Bool.false_eq_true,if_false,run_load,cell_of hb,this]
   ·cases hl
  ·cases hl
 ·rename_i f n e ho; obtain ⟨x,c',e',fr,hx,rfl,hb,_,hs,dI,_,hc⟩:=h.fixed ha ho
  split at hl
  ·rename_i dJ
   split at hl
   ·rename_i m hm; rw [cond_eq_ite] at hl
    split at hl
    ·rename_i hle; have hle:=Nat.le_of_ble_eq_true hle
     cases hl
     refine ⟨.agg (DH c' m (a.off+x.o)).toArray,?_,.ZM (by simpa using R' hc m a.off hle)⟩; simp only [loadVar,Sem.run_bind,Ey dJ,Result.andThen_ok,if_true,BJ hm]; rw [run_loadCells hb _ _ (by omega)]; rfl
    ·cases hl
   ·cases hl
  ·rename_i dJ; rw [cond_eq_ite] at hl
   split at hl
   ·rename_i Au; have Au:a.off<n:=by have:=Nat.le_of_ble_eq_true Au; omega
    cases hl
    refine ⟨c'.getD (a.off+x.o) undef,?_,hc _ Au⟩
    have:c'[a.off+x.o]?=some (c'.getD (a.off+x.o) undef):=by
     have:a.off+x.o<c'.size:=by omega
     simp [Array.getD,this]
    simp only [loadVar,Sem.run_bind,Ey dJ,Result.andThen_ok,Bool.false_eq_true,if_false,run_load,cell_of hb,this]
   ·cases hl
  ·cases hl
 ·cases hl
theorem iX {v v':Value} (h:AO ρ v v') (hc:v.cells.toList.all BN=true):v'.cells.toList.all BN=true:=by
 have hl:=h.cells; rw [List.all_eq_true] at hc ⊢; intro y hy; obtain ⟨i,hi,rfl⟩:=List.getElem_of_mem hy; have IJ:i<v.cells.toList.length:=hl.1 ▸ hi; have:=hl.2 i IJ; simp only [List.getD_eq_getElem?_getD,List.getElem?_eq_getElem hi,List.getElem?_eq_getElem IJ,Option.getD_some] at this; rw [this.one]; exact hc _ (List.getElem_mem IJ)
theorem Ou (h:AY P w0 ρ W w) {t:TypeId} {a a':Addr} {v v':Value} (ha:K5 ρ a a') (hv:AO ρ v v') {c:Tr Value} {n:Nat} {z:Array Value} {e:TypeId} {m:Nat}
  (ho:W.obj a.block=some (.cells c n z e)) (hm:DM P t=some m) (Gp:v.cells.size=m) (hle:a.off+m≤n) (MA:v.cells.toList.all BN=true) :
  ∃ w',(storeVar t a' v').run P w=.ok () w'∧AY P w0 ρ (W.A5 a.block (.cells (c.Ag a.off v.cells.toList) n z e)) w':=by
 obtain ⟨x,c',fr,hx,rfl,hb,dH,hr,_,hs,dI,_,hc⟩:=h.cells ha ho; have hl:=hv.cells; have Jf:v'.cells.size=m:=by have:=hl.1; simp at this; omega
 refine ⟨{ w with heap:=w.heap.setIfInBounds x.b (.cells (Fv c' (a.off+x.o) v'.cells.toList) e fr) },?_,?_⟩
 ·simp only [storeVar,Sem.run_bind,BJ hm,Result.andThen_ok,Jf,ne_eq,not_true,if_false]; have:=Ew (P:=P) (a.off+x.o) v'.cells.toList 0 w c' hb dH (by simp; omega) (iX hv MA)
  simpa using this
 ·exact h.A5 ho rfl hx (hr.write hl (by simp; omega))
theorem Xn (h:AY P w0 ρ W w) {t:TypeId} {a a':Addr} {v v':Value} {W1:CW} (ha:K5 ρ a a') (hv:AO ρ v v') (hl:Jc P t a v W=some W1) :
  ∃ w',(storeVar t a' v').run P w=.ok () w'∧AY P w0 ρ W1 w':=by
 unfold Jc at hl
 split at hl
 ·rename_i c n z e ho
  split at hl
  ·rename_i cs
   split at hl
   ·rename_i m hm; rw [cond_eq_ite] at hl
    split at hl
    ·rename_i BQ; simp only [Bool.and_eq_true] at BQ
     cases hl
     exact Ou h ha hv ho hm (Nat.eq_of_beq_eq_true BQ.1.1) (Nat.le_of_ble_eq_true BQ.1.2) BQ.2
    ·cases hl
   ·cases hl
  ·cases hl
  ·rename_i hna Na
   split at hl
   ·rename_i m hm; rw [cond_eq_ite] at hl
    split at hl
    ·rename_i BQ; simp only [Bool.and_eq_true] at BQ
     cases hl
     have MA:BN v=true:=by cases v <;> first | rfl | exact (hna _ rfl).elim | exact (Na _ rfl).elim
     have MB:v.cells=#[v]:=by cases v <;> first | rfl | exact (hna _ rfl).elim
     have Vj:=Nat.eq_of_beq_eq_true BQ.1; have Au:a.off<n:=by have:=Nat.le_of_ble_eq_true BQ.2; omega
     have:=Ou h ha hv ho hm (by rw [MB]; simp [Vj]) (by omega) (by rw [MB]; simp [MA]); rw [MB] at this; exact this
    ·cases hl
   ·cases hl
 ·cases hl
end
end Go.Ce
namespace Go.Ce
open Go.RowKit (Below)
def EX (P:Program):Prop:=∀ f fn,P.funcs[f]?=some fn→fn.body.isNone=true→(fn.name == "maps.clone")=true→∀ args w v w',(Extern.MapsClone.clone args).run P w=.ok v w'→(callFunc f args).run P w=.ok (.value v) w'
def ZP (P:Program):Prop:=(∀ t z,Gm P t=some z→∃ n,Ev n z=true)∧EX P
theorem ZP.rel {P:Program} (h:ZP P) {t:TypeId} {z:Value} (hz:Gm P t=some z) (ρ:Bn):AO ρ z z:=let ⟨n,hn⟩:=h.1 t z hz; .Oq ρ n z hn
inductive J' (ρ:Bn):Deferred→Deferred→Prop
 | fn {f:FuncId} {cap cap' args args':Array Value}:Aq ρ cap.toList cap'.toList→Aq ρ args.toList args'.toList→J' ρ ⟨.fn (.func f) cap,args⟩ ⟨.fn (.func f) cap',args'⟩
 | collected {r r':Nat}:L8 ρ r r'→J' ρ ⟨.collected r,#[]⟩ ⟨.collected r',#[]⟩
theorem J'.mono {ρ ρ':Bn} {d d':Deferred} (h:J' ρ d d') (e:Ext ρ ρ'):J' ρ' d d':=by
 cases h with
 | fn a b=>exact .fn (a.mono e) (b.mono e)
 | collected a=>exact .collected (a.mono e)
inductive ZR (P:Program) (w0:World) (ρ:Bn) (W:CW) (r:Result Next):Ba→Prop
 | value {v v':Value} {w:World}:r=.ok (.value v') w→AO ρ v v'→AY P w0 ρ W w→ZR P w0 ρ W r (.value v)
 | skip {w:World}:r=.ok .skip w→AY P w0 ρ W w→ZR P w0 ρ W r .skip
 | enter {f:FuncId} {args:List Value} {args':Array Value} {w:World}:r=(callFunc f args').run P w→Aq ρ args args'.toList→AY P w0 ρ W w→ZR P w0 ρ W r (.enter f args)
 | round {l l':Nat} {args:List Value} {args':Array Value} {w:World}:r=(Instr.yield l' args').run P w→L8 ρ l l'→Aq ρ args args'.toList→AY P w0 ρ W w→ZR P w0 ρ W r (.round l args)
 | defer {d d':Deferred} {w:World}:r=.ok (.defer d') w→J' ρ d d'→AY P w0 ρ W w→ZR P w0 ρ W r (.defer d)
 | recover {w:World}:r=.ok .recover w→AY P w0 ρ W w→ZR P w0 ρ W r .recover
 | panic {v v':Value} {w:World}:r=.halt (.panic v') w→AO ρ v v'→AY P w0 ρ W w→ZR P w0 ρ W r (.panic v)
def A9 (P:Program) (w0:World) (ρ:Bn) (W:CW) (r:Result Next) (outs:List (Ba × CW)):Prop :=
 ∃ n W1 ρ',(n,W1) ∈ outs∧Dw W ρ W1 ρ'∧ZR P w0 ρ' W1 r n
section
variable {P:Program} {w0:World} {ρ:Bn} {W:CW} {w:World}
theorem A9.value (hw:AY P w0 ρ W w) {r:Result Next} {v v':Value} (hr:r=.ok (.value v') w) (hv:AO ρ v v'):A9 P w0 ρ W r [(.value v,W)] :=
 ⟨_,_,ρ,List.mem_singleton.2 rfl,.refl _,.value hr hv hw⟩
def Li (ρ:Bn):Option Value→Option Value→Prop
 | none,none=>True
 | some v,some v'=>AO ρ v v'
 | _,_=>False
theorem Ez {x x':Option Value} {d y y' k:Nat} (h:bound x d y=some k) (hx:Li ρ x x') (hy:y≤y') :
  (x=none∧x'=none∧k=d)∨(∃ v',x'=some v'∧k≤y∧∀ code (w:World),(Instr.sliceBound v' y' code).run P w=.ok k w):=by
 unfold bound at h
 split at h
 ·rename_i kk i; rw [cond_eq_ite] at h
  split at h
  ·rename_i hc; simp only [Bool.and_eq_true,decide_eq_true_eq] at hc
   cases h
   cases x' with
   | none=>exact hx.elim
   | some v' =>
    have hx:AO ρ (.int kk i) v':=hx
    cases hx
    right; refine ⟨_,rfl,by omega,fun code w=>?_⟩; have:0≤i∧i≤(y':Int):=⟨hc.1,by omega⟩
    simp [Instr.sliceBound,asIntOf,this]
  ·cases h
 ·cases h
 ·cases h
  cases x' with
  | none=>exact .inl ⟨rfl,rfl,rfl⟩
  | some v'=>exact hx.elim
theorem Li.map {f g:Operand→Value} (x:Option Operand) (h:∀ y,x=some y→AO ρ (f y) (g y)):Li ρ (x.map f) (x.map g):=by
 cases x with
 | none=>trivial
 | some y=>exact h y rfl
theorem Aa {α β:Type} {o:Option α} {f:α→Option β} {b:β} (h:CV o f=some b):∃ a,o=some a∧f a=some b:=by
 cases o with
 | none=>cases h
 | some a=>exact ⟨a,rfl,h⟩
theorem K7 (b:Bool) {lo zo hi IJ mx ux:Option Value} {len cap cap' m h l:Nat} (hm:bound mx cap cap=some m) (hh:bound hi len m=some h) (hl:bound lo 0 h=some l)
  (rl:Li ρ lo zo) (rh:Li ρ hi IJ) (rm:Li ρ mx ux) (hc:cap≤cap') (hn:(mx.isSome && hi.isNone)=false) :
  ∃ m',(∀ w:World,(Instr.sliceBounds b len cap' zo IJ ux).run P w=.ok (l,h,m') w)∧((mx=none∧m'=cap'∧m=cap)∨(m'=m∧m≤cap))∧l≤h:=by
 have qP:l≤h:=by
  rcases Ez (P:=P) hl rl (Nat.le_refl _) with ⟨_,_,rfl⟩ | ⟨_,_,h,_⟩
  ·exact Nat.zero_le _
  ·exact h
 rcases Ez (P:=P) hm rm hc with ⟨rfl,rfl,rfl⟩ | ⟨v,rfl,ADK,hmr⟩
 ·refine ⟨cap',fun w=>?_,.inl ⟨rfl,rfl,rfl⟩,qP⟩
  rcases Ez (P:=P) hh rh hc with ⟨rfl,rfl,rfl⟩ | ⟨v2,rfl,_,hhr⟩
  ·rcases Ez (P:=P) hl rl (Nat.le_refl _) with ⟨rfl,rfl,rfl⟩ | ⟨v3,rfl,_,hlr⟩
   ·simp [Instr.sliceBounds]
   ·simp [Instr.sliceBounds,hlr]
  ·rcases Ez (P:=P) hl rl (Nat.le_refl _) with ⟨rfl,rfl,rfl⟩ | ⟨v3,rfl,_,hlr⟩
   ·simp [Instr.sliceBounds,hhr]
   ·simp [Instr.sliceBounds,hhr,hlr]
 ·have hms:mx.isSome=true:=by
   cases mx with
   | none=>exact rm.elim
   | some _=>rfl
  refine ⟨m,fun w=>?_,.inr ⟨rfl,ADK⟩,qP⟩
  rcases Ez (P:=P) hh rh (Nat.le_refl _) with ⟨rfl,rfl,rfl⟩ | ⟨v2,rfl,_,hhr⟩
  ·simp [hms] at hn
  ·rcases Ez (P:=P) hl rl (Nat.le_refl _) with ⟨rfl,rfl,rfl⟩ | ⟨v3,rfl,_,hlr⟩
   ·simp [Instr.sliceBounds,hmr,hhr]
   ·simp [Instr.sliceBounds,hmr,hhr,hlr]
end
end Go.Ce
namespace Go.Ce
open Go.RowKit (Below)
section
variable {P:Program} {w0:World} {ρ:Bn} {W:CW} {w:World}
theorem Xo {t:TypeId} {n m:Nat} (h:DM P t=some n) (k:(P.info? t).map (·.size)=some m):m=n:=by
 unfold DM at h; rw [h] at k; cases k; rfl
theorem Ov {a a':Addr} (h:K5 ρ a a') (k:Nat):K5 ρ ⟨a.block,a.off+k,none⟩ (a'.add k):=by
 obtain ⟨_,x,hx,rfl⟩:=h; refine ⟨rfl,x,hx,?_⟩; rw [L9]; simp only [Addr.mk.injEq,and_true,true_and]; omega
theorem Ow (a:Addr):a.add 0=a:=by simp [Addr.add]
theorem Xp (hw:AY P w0 ρ W w) {t:TypeId} {x x' v:Value} {lo zo hi IJ mx ux:Option Value} (h:QK P W t x lo hi mx=some v) (hx:AO ρ x x')
  (rl:Li ρ lo zo) (rh:Li ρ hi IJ) (rm:Li ρ mx ux):∃ v',(Instr.sliceAt t x' zo IJ ux).run P w=.ok v' w∧AO ρ v v':=by
 unfold QK at h
 split at h
 ·rename_i elem a len cap ht; obtain ⟨m,hm,h⟩:=Aa h; obtain ⟨hh,hhi,h⟩:=Aa h; obtain ⟨l,hl,h⟩:=Aa h; rw [cond_eq_ite] at h
  split at h
  ·cases h
  rename_i BQ; simp only [Bool.or_eq_true,Bool.not_eq_true',not_or,Bool.not_eq_true,Bool.not_eq_false] at BQ; obtain ⟨⟨uy,hle⟩,N8⟩:=BQ; have hle:=Nat.le_of_ble_eq_true hle; obtain ⟨s,hs,h⟩:=Aa h
  cases h
  have run:∀ (a':Option Addr) (cap':Nat),cap≤cap'→∃ m',(Instr.sliceAt t (.slice a' len cap') zo IJ ux).run P w=.ok (.slice (if m'=l then a' else a'.map (·.add (l*s))) (hh-l) (m'-l)) w∧((mx=none∧m'=cap'∧m=cap)∨(m'=m∧m≤cap))∧l≤hh:=by
   intro a' cap' hc; obtain ⟨m',hr,BA,qP⟩:=K7 (P:=P) true hm hhi hl rl rh rm hc uy; refine ⟨m',?_,BA,qP⟩; simp only [Instr.sliceAt,Sem.run_bind,AD ht,Result.andThen_ok,Instr.slice,hr,BJ hs,Sem.run_pure]
  cases hx with
  | ZL =>
   obtain ⟨m',hr,BA,qP⟩:=run none cap (Nat.le_refl _); refine ⟨_,hr,?_⟩; have:m'=m:=by rcases BA with ⟨_,h1,h2⟩ | ⟨h1,_⟩ <;> omega
   subst this; simp only [Option.map_none,ite_self,cond_eq_ite]; exact .ZL _ _
  | @slice a a' n c c' ha hc =>
   have EY:cap≤c':=by
    rcases hc with rfl | ⟨_,_,_,_,_,h⟩
    ·exact Nat.le_refl _
    ·exact h
   obtain ⟨m',hr,BA,qP⟩:=run (some a') c' EY; refine ⟨_,hr,?_⟩
   have AAJ:mx=none→c'=cap∨∃ y,ρ a.block=some y∧0<s∧y.sz=s∧a.off+cap*s=y.n∧a.off+y.o+c'*s=y.n':=by
    intro pk
    rcases hc with rfl | ⟨y,hy,N9,h1,h2,_⟩
    ·exact .inl rfl
    ·right; subst pk; simp only [Option.isSome_none,Tp,ha.1,Bool.false_or] at N8
     split at N8
     ·rename_i cc nn zz ee ho; have:=Nat.eq_of_beq_eq_true (N8.resolve_left (by simp)); subst this; obtain ⟨y',c2,_,tG,_,_,_,_,_,_,_,he,_⟩:=hw.cells ha ho; rw [hy] at tG; cases tG; have:=Xo hs he; rw [this] at h1 h2 N9; exact ⟨y,hy,N9,this,h1,h2⟩
     ·rename_i ff nn ee ho; have:=Nat.eq_of_beq_eq_true (N8.resolve_left (by simp)); subst this; obtain ⟨y',_,_,_,tG,_,_,_,_,_,he,_⟩:=hw.fixed ha ho; rw [hy] at tG; cases tG; have:=Xo hs he; rw [this] at h1 h2 N9; exact ⟨y,hy,N9,this,h1,h2⟩
     ·simp at N8
   by_cases e:m=l
   ·have ehl:hh=l:=by omega
    subst ehl; simp only [cond_eq_ite,Nat.beq_eq,e,if_true,Nat.sub_self]; obtain ⟨y,hy,rfl⟩:=ha.2
    by_cases em:m'=hh
    ·subst em; simp only [if_true,Nat.sub_self]; exact .Je ha.1 hy rfl rfl (.inl rfl)
    ·rw [if_neg em]
     rcases BA with ⟨pk,e1,e2⟩ | ⟨h1,_⟩
     ·rcases AAJ pk with h1 | ⟨y',tG,N9,Gp,h1,h2⟩
      ·omega
      ·rw [hy] at tG; cases tG; simp only [Option.map_some,L9]; refine .Je ha.1 hy rfl rfl (.inr ⟨by omega,?_⟩); rw [Gp]; obtain ⟨d,hd⟩:∃ d,m'=hh+d:=⟨m'-hh,by omega⟩
       have e3:m'-hh=d:=by omega
       rw [e3]; rw [←e1,hd,Nat.add_mul] at h2; show a.off+y.o+hh*s+d*s=y.n'; omega
     ·omega
   ·have hlm:l<m:=by omega
    have em:m'≠l:=by rcases BA with ⟨_,h1,h2⟩ | ⟨h1,_⟩ <;> omega
    simp only [cond_eq_ite,Nat.beq_eq,e,if_false,em,Option.map_some]; refine .slice _ (Ov ha _) ?_
    rcases BA with ⟨pk,rfl,rfl⟩ | ⟨rfl,_⟩
    ·rcases AAJ pk with rfl | ⟨y,hy,N9,Gp,h1,h2⟩
     ·exact .inl rfl
     ·right
      refine ⟨y,hy,by omega,?_,?_,by omega⟩
      ·rw [Gp]; obtain ⟨d,rfl⟩:∃ d,m=l+d:=⟨m-l,by omega⟩
       have:l+d-l=d:=by omega
       rw [this]; rw [Nat.add_mul] at h1; show a.off+l*s+d*s=y.n; omega
      ·rw [Gp]; obtain ⟨d,rfl⟩:∃ d,m'=l+d:=⟨m'-l,by omega⟩
       have:l+d-l=d:=by omega
       rw [this]; rw [Nat.add_mul] at h2; show a.off+l*s+y.o+d*s=y.n'; omega
    ·exact .inl rfl
  | @Je a a' c' y hq hy hb Gz hc =>
   obtain ⟨m',hr,BA,qP⟩:=run (some a') c' (Nat.zero_le _); refine ⟨_,hr,?_⟩; have iY:m=0:=by rcases BA with ⟨_,h1,h2⟩ | ⟨h1,h2⟩ <;> omega
   subst iY; have hh0:hh=0:=by omega
   subst hh0; have hl0:l=0:=by omega
   subst hl0; simp only [cond_eq_ite,Nat.beq_eq,if_true,Nat.sub_zero,Nat.zero_mul,Option.map_some,Ow,ite_self]; refine .Je hq hy hb Gz ?_
   rcases BA with ⟨_,rfl,_⟩ | ⟨rfl,_⟩
   ·exact hc
   ·exact .inl rfl
  | @Ht a a' hq =>
   obtain ⟨m',hr,BA,qP⟩:=run (some a') 0 (Nat.le_refl _); refine ⟨_,hr,?_⟩; have iY:m=0:=by rcases BA with ⟨_,h1,h2⟩ | ⟨h1,h2⟩ <;> omega
   subst iY; have hh0:hh=0:=by omega
   subst hh0; have hl0:l=0:=by omega
   subst hl0; simp only [cond_eq_ite,Nat.beq_eq,if_true,Nat.sub_zero,Nat.zero_mul,Option.map_some,Ow,ite_self]; have ADL:m'=0:=by rcases BA with ⟨_,h1,_⟩ | ⟨h1,_⟩ <;> omega
   subst ADL; exact .Ht hq
 ·rename_i n elem a ht; obtain ⟨m,hm,h⟩:=Aa h; obtain ⟨hh,hhi,h⟩:=Aa h; obtain ⟨l,hl,h⟩:=Aa h; rw [cond_eq_ite] at h
  split at h
  ·cases h
  rename_i BQ; simp only [Bool.or_eq_true,Bool.not_eq_true',not_or,Bool.not_eq_true,Bool.not_eq_false] at BQ; obtain ⟨s,hs,h⟩:=Aa h
  cases h
  cases hx with
  | @ptr a a' ha =>
   obtain ⟨m',hr,BA,qP⟩:=K7 (P:=P) false hm hhi hl rl rh rm (Nat.le_refl _) BQ.1; have:m'=m:=by rcases BA with ⟨_,h1,h2⟩ | ⟨h1,_⟩ <;> omega
   subst this
   refine ⟨.slice (some (if m'=l then a' else a'.add (l*s))) (hh-l) (m'-l),?_,?_⟩
   ·simp only [Instr.sliceAt,Sem.run_bind,AD ht,Result.andThen_ok,Instr.sureAddr,Sem.run_pure,hr,BJ hs]
   ·simp only [cond_eq_ite,Nat.beq_eq]
    by_cases e:m'=l
    ·rw [if_pos e,if_pos e]; exact .slice _ ha (.inl rfl)
    ·rw [if_neg e,if_neg e]; exact .slice _ (Ov ha _) (.inl rfl)
 ·cases h
end
end Go.Ce
namespace Go.Ce
open Go.RowKit (Below)
section
variable {P:Program} {w0:World} {ρ:Bn} {W:CW} {w:World} {o:Oper} {e e':Operand→Value} {outs:List (Ba × CW)}
theorem EK {x:Option Value} (h:(match x with | some v=>some [(Ba.value v,W)] | none=>none)=some outs):∃ v,x=some v∧outs=[(.value v,W)]:=by
 cases x with
 | none=>cases h
 | some v=>cases h; exact ⟨v,rfl,rfl⟩
theorem Mv {x:Option (Value × CW)} (h:(match x with | some (v,W)=>some [(Ba.value v,W)] | none=>none)=some outs):∃ v W1,x=some (v,W1)∧outs=[(.value v,W1)]:=by
 cases x with
 | none=>cases h
 | some v=>obtain ⟨v,W1⟩:=v; cases h; exact ⟨v,W1,rfl,rfl⟩
theorem gF {x:Option CW} (h:(match x with | some W=>some [(Ba.skip,W)] | none=>none)=some outs):∃ W1,x=some W1∧outs=[(.skip,W1)]:=by
 cases x with
 | none=>cases h
 | some W1=>cases h; exact ⟨W1,rfl,rfl⟩
theorem BD {s:Sem Value} {v:Value} {w w':World} (hs:s.run P w=.ok v w'):(do let x ←s; pure (Next.value x):Sem Next).run P w=.ok (.value v) w':=by simp [hs]
theorem dK {s:Sem Unit} {w w':World} (hs:s.run P w=.ok () w'):(do s; pure Next.skip:Sem Next).run P w=.ok .skip w':=by simp [hs]
theorem gG {x:Operand} (ho:o.op=.move x∨o.op=.assign x) (h:BP P o e W=some outs) (hw:AY P w0 ρ W w) (he:AO ρ (e x) (e' x)) :
  A9 P w0 ρ W ((execOp e' o).run P w) outs:=by
 rcases ho with ho | ho <;>
 ·simp only [BP,ho] at h
  cases h
  exact .value hw (by simp only [execOp,ho,Sem.run_pure]) he
theorem qQ {c a b:Operand} (ho:o.op=.pick c a b) (h:BP P o e W=some outs) (hw:AY P w0 ρ W w) (hc:AO ρ (e c) (e' c)) (ha:AO ρ (e a) (e' a)) (hb:AO ρ (e b) (e' b)) :
  A9 P w0 ρ W ((execOp e' o).run P w) outs:=by
 simp only [BP,ho] at h
 split at h
 ·rename_i b0 qR
  cases h
  rw [qR] at hc; generalize EY:e' c=vc at hc
  cases hc
  have hr:(execOp e' o).run P w=.ok (.value (if b0=true then e' a else e' b)) w:=by
   simp [execOp,ho,EY,asBool]
  refine .value hw hr ?_
  cases b0
  ·simpa using hb
  ·simpa using ha
 ·cases h
theorem qS {t:TypeId} {a:Operand} (ho:o.op=.load t a) (h:BP P o e W=some outs) (hw:AY P w0 ρ W w) (ha:AO ρ (e a) (e' a)) :
  A9 P w0 ρ W ((execOp e' o).run P w) outs:=by
 simp only [BP,ho] at h; obtain ⟨v,hv,rfl⟩:=EK h
 split at hv
 ·rename_i p hp; rw [hp] at ha; generalize EY:e' a=va at ha
  cases ha with
  | ptr ha =>
   obtain ⟨v',hr,Gw⟩:=R_ hw ha hv; refine .value hw ?_ Gw; simp only [execOp,ho,EY]; exact BD (by simpa [Instr.loadAt,Instr.sureAddr] using hr)
 ·cases hv
theorem iZ {t:TypeId} {a:Addr} {v:Value} {W1:CW} (h:Jc P t a v W=some W1):W.sz≤W1.sz:=by
 unfold Jc at h
 repeat' (first | (cases h; done) | (cases h; exact Nat.le_refl _) | (rw [cond_eq_ite] at h) | split at h)
theorem lQ {t:TypeId} {a x:Operand} (ho:o.op=.store t a x) (h:BP P o e W=some outs) (hw:AY P w0 ρ W w) (ha:AO ρ (e a) (e' a)) (hx:AO ρ (e x) (e' x)) :
  A9 P w0 ρ W ((execOp e' o).run P w) outs:=by
 simp only [BP,ho] at h; obtain ⟨W1,hv,rfl⟩:=gF h
 split at hv
 ·rename_i p hp; rw [hp] at ha; generalize EY:e' a=va at ha
  cases ha with
  | ptr ha =>
   obtain ⟨w',hr,Gq⟩:=Xn hw ha hx hv; refine ⟨_,_,ρ,List.mem_singleton.2 rfl,.refl _ (iZ hv),.skip (w:=w') ?_ Gq⟩; simp only [execOp,ho,EY]; exact dK (by simpa [Instr.storeAt,Instr.sureAddr] using hr)
 ·cases hv
theorem ZS {x:Operand} (ho:o.op=.nilCheck x) (h:BP P o e W=some outs) (hw:AY P w0 ρ W w) (hx:AO ρ (e x) (e' x)) :
  A9 P w0 ρ W ((execOp e' o).run P w) outs:=by
 simp only [BP,ho] at h; obtain ⟨v,hv,rfl⟩:=EK h; generalize hc:e x=vx at *; generalize EY:e' x=SA at *
 split at hv <;> cases hv <;> cases hx
 ·rename_i h1; exact .value hw (by simp only [execOp,ho,EY,Sem.run_pure]) (.ptr h1)
 ·rename_i h1; exact .value hw (by simp only [execOp,ho,EY,Sem.run_pure]) (.iface _ h1)
 ·rename_i h1 h2 h3 h4 h5
  cases h1
  exact .value hw (by simp only [execOp,ho,EY,Sem.run_pure]) (.func (.func _) h2 h3 h4 h5)
 ·rename_i h1 h2 h3 h4 h5
  cases h1 with
  | yield hb=>exact .value hw (by simp only [execOp,ho,EY,Sem.run_pure]) (.func (.yield hb) h2 h3 h4 h5)
theorem Ox (hw:AY P w0 ρ W w) {c:Tr Value} {z:Array Value} {n:Nat} {t:TypeId} {sz:Nat} {c':Array Value} (hs:DM P t=some sz) (hn:c'.size=n)
  (hc:∀ k,k<n→AO ρ (cellAt c z k) (c'.getD k undef)) :
  ∃ ρ',Dw W ρ (W.new (.cells c n z t)) ρ'∧ρ' W.sz=some ⟨w.heap.size,0,sz,n,n⟩∧AY P w0 ρ' (W.new (.cells c n z t)) { w with heap:=w.heap.push (.cells c' t) }∧K5 ρ' ⟨W.sz,0,none⟩ ⟨w.heap.size,0,none⟩:=by
 have C_:Ext ρ (fun i=>if i=W.sz then some ⟨w.heap.size,0,sz,n,n⟩ else ρ i):=fun i y hy=>by
  have:=hw.TA i y hy; show (if i=W.sz then _ else ρ i)=some y; rw [if_neg (by omega)]; exact hy
 have:=hw.new (o:=.cells c n z t) (o':=.cells c' t) ⟨w.heap.size,0,sz,n,n⟩ rfl (by
  exact .cells hs hn (by simp) (fun k hk=>(hc k hk).mono C_) ⟨NF.zero _,fun _=>⟨rfl,rfl⟩⟩)
 exact ⟨_,this.1,by simp,this.2,⟨rfl,⟨w.heap.size,0,sz,n,n⟩,by simp,by simp⟩⟩
theorem DA (vs:List Value) (z:Array Value) (k:Nat) (h:k<vs.length):cellAt (Tr.nil.Ag 0 vs) z k=vs.getD k undef:=by
 rw [Tw]; simp [h]
theorem uz {t:TypeId} {x:Operand} (ho:o.op=.box t x) (h:BP P o e W=some outs) (hw:AY P w0 ρ W w) (hx:AO ρ (e x) (e' x)) :
  A9 P w0 ρ W ((execOp e' o).run P w) outs:=by
 simp only [BP,ho,S8] at h
 split at h
 ·rename_i sz hs
  cases h
  have hl:=hx.cells
  obtain ⟨ρ',C_,_,Gq,ha⟩:=Ox hw (c:=Tr.nil.Ag 0 (e x).cells.toList) (z:=#[]) (n:=(e x).cells.size) (c':=(e' x).cells) hs (by simpa using hl.1.symm) (fun k hk=>by
   rw [DA _ _ _ (by simpa using hk)]; have:=hl.2 k (by simpa using hk)
   simpa [Array.getD_eq_getD_getElem?,List.getD_eq_getElem?_getD] using this)
  refine ⟨_,_,ρ',List.mem_singleton.2 rfl,C_,.value (w:={ w with heap:=w.heap.push (.cells (e' x).cells t) }) ?_ (.ptr ha) Gq⟩; simp only [execOp,ho]; exact BD (by simp [Instr.box,newVar,newRow])
 ·cases h
theorem lR (hz:ZP P) {t:TypeId} (ho:o.op=.alloc t) (h:BP P o e W=some outs) (hw:AY P w0 ρ W w) :
  A9 P w0 ρ W ((execOp e' o).run P w) outs:=by
 simp only [BP,ho] at h
 split at h
 ·rename_i z Ky
  split at h
  ·rename_i sz hs
   cases h
   obtain ⟨ρ',C_,_,Gq,ha⟩:=Ox hw (c:=.nil) (z:=z.cells) (n:=z.cells.size) (c':=z.cells) hs rfl (fun k hk=>by
    have hc:=(hz.rel Ky ρ).cells.2 k (by simpa using hk); have:cellAt .nil z.cells k=z.cells.getD k undef:=by simp [cellAt,Tr.get_nil,Nat.mod_eq_of_lt hk]
    rw [this]
    simpa [Array.getD_eq_getD_getElem?,List.getD_eq_getElem?_getD] using hc)
   refine ⟨_,_,ρ',List.mem_singleton.2 rfl,C_,.value (w:={ w with heap:=w.heap.push (.cells z.cells t) }) ?_ (.ptr ha) Gq⟩; simp only [execOp,ho]; exact BD (by simp [Instr.alloc,Bd Ky,newVar,newRow])
  ·cases h
 ·cases h
theorem qU {u:UnOp} {t:TypeId} {x:Operand} (ho:o.op=.unOp u t x) (h:BP P o e W=some outs) (hw:AY P w0 ρ W w) (hx:AO ρ (e x) (e' x)) :
  A9 P w0 ρ W ((execOp e' o).run P w) outs:=by
 cases u <;> simp only [BP,ho] at h <;> first | (cases h; done) | skip
 all_goals
  obtain ⟨v,hv,rfl⟩:=EK h
  split at hv
  ·rename_i hc
   cases hv
   rw [hc] at hx; generalize EY:e' x=SA at hx
   cases hx
   refine .value hw ?_ (by constructor); simp only [execOp,ho,EY]; exact BD (by simp [Op.unary,Op.intArith])
  ·cases hv
theorem QN {t:TypeId} {x:Operand} (ho:o.op=.makeInterface t x) (h:BP P o e W=some outs) (hw:AY P w0 ρ W w) (hx:AO ρ (e x) (e' x)) :
  A9 P w0 ρ W ((execOp e' o).run P w) outs:=by
 simp only [BP,ho] at h; obtain ⟨v,hv,rfl⟩:=EK h
 split at hv
 ·cases hv
 ·cases hv
 ·rename_i Nb Oe
  cases hv
  refine .value hw ?_ (.iface _ hx); simp only [execOp,ho]; refine BD ?_
  cases hu:P.underlying t with
  | none=>exact (Oe hu).elim
  | some d =>
   simp only [Instr.makeInterface,Sem.run_bind,AD hu,Result.andThen_ok]
   cases d <;> first | rfl | exact (Nb _ hu).elim
theorem dL {x:Operand} {i:Nat} (ho:o.op=.extract x i) (h:BP P o e W=some outs) (hw:AY P w0 ρ W w) (hx:AO ρ (e x) (e' x)) :
  A9 P w0 ρ W ((execOp e' o).run P w) outs:=by
 simp only [BP,ho] at h; obtain ⟨v,hv,rfl⟩:=EK h
 split at hv
 ·rename_i vs hc; rw [hc] at hx; generalize EY:e' x=SA at hx; obtain ⟨vs',rfl,hl⟩:=hx.iV; obtain ⟨y,hy,hr⟩:=hl.get (x:=v) (i:=i) (by simpa using hv); have hy:vs'[i]?=some y:=by simpa using hy
  refine .value hw ?_ hr; simp only [execOp,ho,EY]; exact BD (by simp [Instr.extract,hy])
 ·cases hv
end
end Go.Ce
namespace Go.Ce
open Go.RowKit (Below)
section
variable {P:Program} {w0:World} {ρ:Bn} {W:CW} {w:World} {o:Oper} {e e':Operand→Value} {outs:List (Ba × CW)}
theorem dM {op:BinOp} {k:IntKind} {a b:Int} {v:Value} {t:TypeId} (h:Oi op k a b=some v) (w:World):(binOp op t (.int k a) (.int k b)).run P w=.ok v w∧AO ρ v v:=by
 cases op <;> simp only [Oi] at h
 case quo =>
  rw [cond_eq_ite] at h
  split at h
  ·cases h
  ·rename_i hb
   cases h
   have:¬b=0:=by simpa using hb
   exact ⟨by simp [binOp,Op.intDiv,this],.int _ _⟩
 case rem =>
  rw [cond_eq_ite] at h
  split at h
  ·cases h
  ·rename_i hb
   cases h
   have:¬b=0:=by simpa using hb
   exact ⟨by simp [binOp,Op.intDiv,this],.int _ _⟩
 case and=>cases h; exact ⟨by simp only [binOp,ne_eq,not_true_eq_false,if_false,Op.intBits,Sem.run_pure],.int _ _⟩
 case or=>cases h; exact ⟨by simp only [binOp,ne_eq,not_true_eq_false,if_false,Op.intBits,Sem.run_pure],.int _ _⟩
 case xor=>cases h; exact ⟨by simp only [binOp,ne_eq,not_true_eq_false,if_false,Op.intBits,Sem.run_pure],.int _ _⟩
 case andNot=>cases h; exact ⟨by simp only [binOp,ne_eq,not_true_eq_false,if_false,Op.intBits,Sem.run_pure],.int _ _⟩
 all_goals first
  | (cases h; done)
  | (cases h; exact ⟨by simp [binOp,Op.intArith],.int _ _⟩)
  | (cases h; exact ⟨by simp [binOp,Op.intCmp],.bool _⟩)
theorem dN:∀ (x y:List UInt8),Vh x y=(x == y)
 | [],[]=>rfl
 | [],_::_=>rfl
 | _::_,[]=>rfl
 | a::x,b::y=>by
  have h1:Nat.beq a.toNat b.toNat=(a == b):=by
   rw [Bool.eq_iff_iff]; simp only [Nat.beq_eq,beq_iff_eq]; exact ⟨fun h=>UInt8.toNat_inj.1 h,fun h=>by rw [h]⟩
  simp only [Vh,dN x y,h1,List.cons_beq_cons]
theorem lS:∀ (x y:List UInt8),S7 x y=Op.bytesLess x y
 | [],[]=>rfl
 | [],_::_=>rfl
 | _::_,[]=>rfl
 | a::x,b::y=>by
  have h1:Nat.beq a.toNat b.toNat=(a == b):=by
   rw [Bool.eq_iff_iff]; simp only [Nat.beq_eq,beq_iff_eq]; exact ⟨fun h=>UInt8.toNat_inj.1 h,fun h=>by rw [h]⟩
  have h2:Nat.blt a.toNat b.toNat=decide (a<b):=by
   rw [Bool.eq_iff_iff]; simp only [Nat.blt_eq,decide_eq_true_eq]; exact UInt8.lt_iff_toNat_lt.symm
  simp only [S7,lS x y,h1,h2,Op.bytesLess]
theorem gH (a:ByteArray):sb a=a.toList:=(ByteArray.toList_eq a).symm
theorem QO {a b:ByteArray}:Vh (sb a) (sb b)=(a.toList == b.toList):=by rw [dN,gH,gH]
theorem ia {a b:ByteArray}:S7 (sb a) (sb b)=Op.bytesLess a.toList b.toList:=by rw [lS,gH,gH]
theorem MC {a b:ByteArray} (h:Vh (sb a) (sb b)=true):a=b:=by
 rw [dN] at h; have h:a.data.toList=b.data.toList:=by simpa [sb] using h
 cases a; cases b
 exact congrArg ByteArray.mk (Array.ext' h)
theorem dO {op:BinOp} {a b:ByteArray} {v:Value} {t:TypeId} (h:uh op a b=some v) (w:World):(binOp op t (.string a) (.string b)).run P w=.ok v w∧AO ρ v v:=by
 cases op <;> simp only [uh] at h <;> first
  | (cases h; done)
  | (cases h; exact ⟨by simp only [binOp,Op.stringOp,Sem.run_pure,QO,ia],.bool _⟩)
  | skip
 rw [cond_eq_ite] at h
 split at h
 ·rename_i hle; have hle:=Nat.le_of_ble_eq_true hle
  cases h
  refine ⟨?_,.string _⟩; show (Op.stringOp .add a b).run P w=_; rw [run_string_add_sum (P:=P) w a b hle]; congr 2
 ·cases h
theorem QP {d:TypeDesc} {t:TypeId} {x y x' y':Value} {b:Bool} (ht:P.underlying t=some d) (h:qK d x y=some b) (hx:AO ρ x x') (hy:AO ρ y y') (w:World) (n:Nat) :
  (Op.equalIn (n+1) t x' y').run P w=.ok b w:=by
 rw [Op.equalIn]; simp only [Sem.run_bind,AD ht,Result.andThen_ok]; unfold qK at h; split at h <;> first | (cases h; done) | skip
 all_goals
  cases h
  cases hx <;> cases hy <;> rfl
theorem G0 (t:TypeId) (x y:Value):Op.equal t x y=Op.equalIn (9999+1) t x y:=rfl
theorem J_ {t:TypeId} {xs Od:Array Value} {off:Nat} {v:Value} (h:R5 P t xs off=some v) (hx:Aq ρ xs.toList Od.toList) (w:World):∃ v',(part t Od off).run P w=.ok v' w∧AO ρ v v':=by
 unfold R5 at h
 split at h
 ·rename_i m ha hm
  cases h
  refine ⟨.agg (Od.extract off (off+m)),by simp only [part,Sem.run_bind,Ey ha,Result.andThen_ok,if_true,BJ hm,Sem.run_pure],.ZM ?_⟩; refine ⟨by simp; have:=hx.1; simp at this; rw [this],fun i hi=>?_⟩; have hs:xs.size=Od.size:=by simpa using hx.1
  simp at hi; have:=hx.2 (off+i) (by simp; omega); simp only [List.getD_eq_getElem?_getD,Array.getElem?_toList] at this ⊢; rw [Array.getElem?_extract,Array.getElem?_extract,if_pos (by omega),if_pos (by omega)]; exact this
 ·rename_i ha; obtain ⟨y,hy,hv⟩:=hx.get (i:=off) (x:=v) (by simpa using h); have hy:Od[off]?=some y:=by simpa using hy
  exact ⟨y,by simp only [part,Sem.run_bind,Ey ha,Result.andThen_ok,Bool.false_eq_true,if_false,hy,Sem.run_pure],hv⟩
 ·cases h
theorem ZT {eq:TypeId→Value→Value→Option Bool} {n:Nat} (hq:∀ t x y b x' y',eq t x y=some b→AO ρ x x'→AO ρ y y'→∀ w:World,(Op.equalIn n t x' y').run P w=.ok b w)
  {xs ys Od S_:Array Value} (hx:Aq ρ xs.toList Od.toList) (hy:Aq ρ ys.toList S_.toList) (w:World):∀ (fs:List Field) (b:Bool),ZF P eq xs ys fs=some b→(Op.eqFields n Od S_ fs).run P w=.ok b w:=by
 intro fs
 induction fs with
 | nil=>intro b h; cases h; simp [Op.eqFields]
 | cons f fs ih =>
  intro b h; simp only [ZF,cond_eq_ite] at h
  split at h
  ·rename_i hn; have hn:f.name="_":=by simpa using hn
   simp only [Op.eqFields,hn,ne_eq,not_true_eq_false,if_false]; exact ih b h
  ·rename_i hn; have hn:f.name≠"_":=by simpa using hn
   split at h
   ·rename_i u v hu hv; obtain ⟨u',Vi,ru⟩:=J_ hu hx w; obtain ⟨v',Gw,rv⟩:=J_ hv hy w; simp only [Op.eqFields,if_pos hn,Sem.run_bind,Vi,Gw,Result.andThen_ok]
    split at h
    ·rename_i he; rw [hq _ _ _ _ _ _ he ru rv w]; simp only [Result.andThen_ok,Bool.not_true,Bool.false_eq_true,if_false]; exact ih b h
    ·rename_i he
     cases h
     rw [hq _ _ _ _ _ _ he ru rv w]; simp
    ·cases h
   ·cases h
theorem SB (t:TypeId) (x y:Operand) (a b:Value):∀ op,(op=BinOp.eql∨op=.neq)→(eqGuard op t x y a b)=(match a,b with
  | .nilIface,.nilIface =>
   if ((match x with | .const _=>true | _=>false) || (match y with | .const _=>true | _=>false))=true then pure () else do
   if ←Op.eqGuardIn Op.maxDepth t a b then unsupported (.noEntry "binop/eql: two nil values of an interface type with methods, neither of them the literal nil")
  | .agg _,.agg _=>do
   if !(←program).eqGuardType (←program).depth t then return
   if ←Op.eqGuardIn Op.maxDepth t a b then unsupported (.noEntry "binop/eql: two nil values of an interface type with methods, in a part of a struct or an array")
  | _,_=>pure ()):=by
 rintro op (rfl | rfl) <;> rfl
theorem lT (x y:Operand):(isConst x || isConst y)=true→((match x with | .const _=>true | _=>false) || (match y with | .const _=>true | _=>false))=true:=by
 cases x <;> cases y <;> intro h <;> first | rfl | cases h
theorem ED {op:BinOp} {t:TypeId} {x y:Operand} {a b:Value} (QQ:op=.eql∨op=.neq) (h1:∀ u v,¬(a=.agg u∧b=.agg v)) (h2:¬(a=.nilIface∧b=.nilIface)∨(isConst x || isConst y)=true) (w:World) :
  (eqGuard op t x y a b).run P w=.ok () w:=by
 rw [SB t x y a b op QQ]
 split
 ·rcases h2 with h2 | h2
  ·exact (h2 ⟨rfl,rfl⟩).elim
  ·rw [if_pos (lT x y h2)]; rfl
 ·exact (h1 _ _ ⟨rfl,rfl⟩).elim
 ·rfl
theorem G_ {op:BinOp} {t:TypeId} {x y:Operand} {a b:Value} (h:op≠.eql) (k:op≠.neq) (w:World):(eqGuard op t x y a b).run P w=.ok () w:=by
 cases op <;> first | rfl | exact (h rfl).elim | exact (k rfl).elim
theorem WK {d:TypeDesc} {x y x' y':Value} {b:Bool} (h:qK d x y=some b) (hx:AO ρ x x') (hy:AO ρ y y') :
  (∀ u v,¬(x'=.agg u∧y'=.agg v))∧¬(x'=.nilIface∧y'=.nilIface):=by
 unfold qK at h; split at h <;> first | (cases h; done) | skip
 all_goals
  cases hx <;> cases hy <;> exact ⟨fun u v h=>by simp at h,fun h=>by simp at h⟩
theorem WL {d:TypeDesc} {t:TypeId} {x y x' y':Value} {b:Bool} (h:qK d x y=some b) (hx:AO ρ x x') (hy:AO ρ y y') :
  binOp .eql t x' y'=(do pure (.bool (←Op.equal t x' y')))∧binOp .neq t x' y'=(do pure (.bool (!(←Op.equal t x' y')))):=by
 unfold qK at h; split at h <;> first | (cases h; done) | skip
 all_goals
  cases hx <;> cases hy <;> exact ⟨rfl,rfl⟩
theorem ib {eq:Value→Value→Option Bool} {elem:TypeId} {n m:Nat} (hq:∀ x y b x' y',eq x y=some b→AO ρ x x'→AO ρ y y'→∀ w:World,(Op.equalIn n elem x' y').run P w=.ok b w)
  {xs ys Od S_:Array Value} (hx:Aq ρ xs.toList Od.toList) (hy:Aq ρ ys.toList S_.toList) (w:World):∀ (k i:Nat) (b:Bool),gC P eq elem m xs ys k i=some b →
   (forIn (List.range' i k) ((none,()):Option Bool × Unit) (fun j _=>do
    if (!(←Op.equalIn n elem (←part elem Od (j*m)) (←part elem S_ (j*m))))=true then pure (ForInStep.done (some false,())) else pure (ForInStep.yield (none,()))):Sem (Option Bool × Unit)).run P w=.ok (if b then (none,()) else (some false,())) w:=by
 intro k
 induction k with
 | zero=>intro i b h; cases h; simp
 | succ k ih =>
  intro i b h; simp only [gC] at h
  split at h
  ·rename_i u v hu hv; obtain ⟨u',Vi,ru⟩:=J_ hu hx w; obtain ⟨v',Gw,rv⟩:=J_ hv hy w; simp only [List.range'_succ,List.forIn_cons,Sem.run_bind,Vi,Gw,Result.andThen_ok]
   split at h
   ·rename_i he; rw [hq _ _ _ _ _ he ru rv w]; simp only [Result.andThen_ok,Bool.not_true,Bool.false_eq_true,if_false,Sem.run_pure]; exact ih (i+1) b h
   ·rename_i he
    cases h
    rw [hq _ _ _ _ _ he ru rv w]; simp
   ·cases h
  ·cases h
theorem N':∀ (n:Nat) (t:TypeId) (x y:Value) (b:Bool) (x' y':Value),ZG P n t x y=some b→AO ρ x x'→AO ρ y y'→∀ (m:Nat),n≤m→∀ w:World,(Op.equalIn m t x' y').run P w=.ok b w:=by
 intro n
 induction n with
 | zero=>intro t x y b x' y' h; cases h
 | succ n ih =>
  intro t x y b x' y' h hx hy m hm w; obtain ⟨m,rfl⟩:∃ k,m=k+1:=⟨m-1,by omega⟩
  have hm:n≤m:=by omega
  simp only [ZG] at h
  split at h
  ·cases h
  rename_i d hd
  split at h
  ·rename_i fs xs ys; rw [cond_eq_ite] at h
   split at h
   ·cases h
   ·rename_i hs; have hs:P.stoodInHeld t=false:=by simpa using hs
    obtain ⟨Od,rfl,rx⟩:=hx.FH; obtain ⟨S_,rfl,ry⟩:=hy.FH; have hf:P.fieldsOf t=fs:=by simp [Program.fieldsOf,hd]
    rw [run_equalIn_struct (P:=P) w m t Od S_ (by rw [hf]; exact hd) hs,hf]; exact ZT (fun t x y b x' y' h1 h2 h3 w=>ih t x y b x' y' h1 h2 h3 m hm w) rx ry w _ _ h
  ·rename_i len elem xs ys; obtain ⟨Od,rfl,rx⟩:=hx.FH; obtain ⟨S_,rfl,ry⟩:=hy.FH
   split at h
   ·rename_i s hs; have:=ib (m:=s) (fun x y b x' y' h1 h2 h3 w=>ih elem x y b x' y' h1 h2 h3 m hm w) rx ry w len 0 b h; rw [Op.equalIn]; simp only [Sem.run_bind,AD hd,Result.andThen_ok,BJ hs,Std.Legacy.Range.forIn_eq_forIn_range',Std.Legacy.Range.size,Nat.sub_zero,Nat.add_sub_cancel,Nat.div_one]; rw [this]
    cases b <;> simp
   ·cases h
  ·rename_i k1 a k2 b2; rw [cond_eq_ite] at h
   split at h
   ·rename_i hk; have hk:k1=k2:=by simpa using hk
    subst hk
    cases h; cases hx; cases hy
    rw [Op.equalIn]; simp only [Sem.run_bind,AD hd,Result.andThen_ok,if_true,Sem.run_pure]
   ·cases h
  ·rename_i a b2
   cases h; cases hx; cases hy
   rw [Op.equalIn]; simp only [Sem.run_bind,AD hd,Result.andThen_ok,Sem.run_pure,QO,beq_toListBytes]
  ·exact QP hd h hx hy w m
theorem SC {op:BinOp} {t:TypeId} {x y:Operand} {xs ys:Array Value} (QQ:op=.eql∨op=.neq) (hg:P.eqGuardType P.depth t=false) (w:World) :
  (eqGuard op t x y (.agg xs) (.agg ys)).run P w=.ok () w:=by
 rw [SB t x y _ _ op QQ]; simp only [Sem.run_bind,run_program,Result.andThen_ok,hg,Bool.not_false,if_true,Sem.run_pure]
theorem WM (t:TypeId) (xs ys:Array Value):binOp .eql t (.agg xs) (.agg ys)=(do pure (.bool (←Op.equal t (.agg xs) (.agg ys))))∧binOp .neq t (.agg xs) (.agg ys)=(do pure (.bool (!(←Op.equal t (.agg xs) (.agg ys))))):=⟨rfl,rfl⟩
theorem SD {t:TypeId} {m:Array (String × TypeId)} (ht:P.underlying t=some (.interface m)) (n:Nat) (w:World):(Op.equalIn (n+1) t .nilIface .nilIface).run P w=.ok true w:=by
 rw [Op.equalIn]; simp only [Sem.run_bind,AD ht,Result.andThen_ok,Sem.run_pure]
theorem WN (t:TypeId):binOp .eql t .nilIface .nilIface=(do pure (.bool (←Op.equal t .nilIface .nilIface)))∧binOp .neq t .nilIface .nilIface=(do pure (.bool (!(←Op.equal t .nilIface .nilIface)))):=⟨rfl,rfl⟩
theorem dP {op:BinOp} {t:TypeId} {x y:Operand} {vx vy SA vy' v:Value} (h:AU P op t (isConst x || isConst y) vx vy=some v) (hx:AO ρ vx SA) (hy:AO ρ vy vy') (w:World) :
  ∃ v',(do eqGuard op t x y SA vy'; binOp op t SA vy':Sem Value).run P w=.ok v' w∧AO ρ v v':=by
 unfold AU at h
 split at h
 ·rw [cond_eq_ite] at h
  split at h
  ·cases h
  ·rename_i hb
   cases h
   cases hx; cases hy
   simp only [decide_eq_true_eq] at hb; exact ⟨_,by simp only [Sem.run_bind,G_ (op:=.shl) (by simp) (by simp),Result.andThen_ok,binOp,Op.shift,hb,if_false,Sem.run_pure],.int _ _⟩
 ·rw [cond_eq_ite] at h
  split at h
  ·cases h
  ·rename_i hb
   cases h
   cases hx; cases hy
   simp only [decide_eq_true_eq] at hb; exact ⟨_,by simp only [Sem.run_bind,G_ (op:=.shr) (by simp) (by simp),Result.andThen_ok,binOp,Op.shift,hb,if_false,Sem.run_pure],.int _ _⟩
 ·rename_i k a k' b h1 h2; rw [cond_eq_ite] at h
  split at h
  ·rename_i hk; have hk:k=k':=by simpa using hk
   subst hk
   cases hx; cases hy
   obtain ⟨hr,hv⟩:=dM (P:=P) (ρ:=ρ) (t:=t) h w; refine ⟨v,?_,hv⟩
   have hg:(eqGuard op t x y (.int k a) (.int k b)).run P w=.ok () w:=by
    by_cases e1:op=.eql
    ·exact ED (.inl e1) (fun u v h=>by simp at h) (.inl fun h=>by simp at h) w
    ·by_cases e2:op=.neq
     ·exact ED (.inr e2) (fun u v h=>by simp at h) (.inl fun h=>by simp at h) w
     ·exact G_ e1 e2 w
   simp only [Sem.run_bind,hg,Result.andThen_ok,hr]
  ·cases h
 ·rename_i a b
  cases hx; cases hy
  obtain ⟨hr,hv⟩:=dO (P:=P) (ρ:=ρ) (t:=t) h w; refine ⟨v,?_,hv⟩
  have hg:(eqGuard op t x y (.string a) (.string b)).run P w=.ok () w:=by
   by_cases e1:op=.eql
   ·exact ED (.inl e1) (fun u v h=>by simp at h) (.inl fun h=>by simp at h) w
   ·by_cases e2:op=.neq
    ·exact ED (.inr e2) (fun u v h=>by simp at h) (.inl fun h=>by simp at h) w
    ·exact G_ e1 e2 w
  simp only [Sem.run_bind,hg,Result.andThen_ok,hr]
 ·rw [cond_eq_ite] at h
  split at h
  ·cases h
  ·rename_i hg; have hg:P.eqGuardType P.depth t=false:=by simpa using hg
   rw [Option.map_eq_some_iff] at h; obtain ⟨b,hb,rfl⟩:=h; obtain ⟨Od,rfl,_⟩:=hx.FH; obtain ⟨S_,rfl,_⟩:=hy.FH; refine ⟨.bool b,?_,.bool _⟩; simp only [Sem.run_bind,SC (.inl rfl) hg,Result.andThen_ok,(WM t Od S_).1,G0,N' 20 _ _ _ _ _ _ hb hx hy 10000 (by omega),Sem.run_pure]
 ·rw [cond_eq_ite] at h
  split at h
  ·cases h
  ·rename_i hg; have hg:P.eqGuardType P.depth t=false:=by simpa using hg
   rw [Option.map_eq_some_iff] at h; obtain ⟨b,hb,rfl⟩:=h; obtain ⟨Od,rfl,_⟩:=hx.FH; obtain ⟨S_,rfl,_⟩:=hy.FH; refine ⟨.bool (!b),?_,.bool _⟩; simp only [Sem.run_bind,SC (.inr rfl) hg,Result.andThen_ok,(WM t Od S_).2,G0,N' 20 _ _ _ _ _ _ hb hx hy 10000 (by omega),Sem.run_pure]
 ·split at h
  ·rename_i m hm; rw [cond_eq_ite] at h
   split at h
   ·rename_i hc
    cases h
    cases hx; cases hy
    refine ⟨.bool true,?_,.bool _⟩; simp only [Sem.run_bind,ED (a:=.nilIface) (b:=.nilIface) (.inl rfl) (fun u v h=>by simp at h) (.inr hc),Result.andThen_ok,(WN t).1,G0,SD hm,Sem.run_pure]
   ·cases h
  ·cases h
 ·split at h
  ·rename_i m hm; rw [cond_eq_ite] at h
   split at h
   ·rename_i hc
    cases h
    cases hx; cases hy
    refine ⟨.bool false,?_,.bool _⟩; simp only [Sem.run_bind,ED (a:=.nilIface) (b:=.nilIface) (.inr rfl) (fun u v h=>by simp at h) (.inr hc),Result.andThen_ok,(WN t).2,G0,SD hm,Sem.run_pure]; rfl
   ·cases h
  ·cases h
 ·split at h
  ·rename_i d hd; rw [Option.map_eq_some_iff] at h; obtain ⟨b,hb,rfl⟩:=h; obtain ⟨s1,s2⟩:=WK hb hx hy; refine ⟨.bool b,?_,.bool _⟩; simp only [Sem.run_bind,ED (.inl rfl) s1 (.inl s2),Result.andThen_ok,(WL (t:=t) hb hx hy).1,G0,QP hd hb hx hy,Sem.run_pure]
  ·cases h
 ·split at h
  ·rename_i d hd; rw [Option.map_eq_some_iff] at h; obtain ⟨b,hb,rfl⟩:=h; obtain ⟨s1,s2⟩:=WK hb hx hy; refine ⟨.bool (!b),?_,.bool _⟩; simp only [Sem.run_bind,ED (.inr rfl) s1 (.inl s2),Result.andThen_ok,(WL (t:=t) hb hx hy).2,G0,QP hd hb hx hy,Sem.run_pure]
  ·cases h
 ·cases h
theorem lU {op:BinOp} {t t2:TypeId} {x y:Operand} (ho:o.op=.binOp op t x y t2) (h:BP P o e W=some outs) (hw:AY P w0 ρ W w) (hx:AO ρ (e x) (e' x)) (hy:AO ρ (e y) (e' y)) :
  A9 P w0 ρ W ((execOp e' o).run P w) outs:=by
 simp only [BP,ho] at h; obtain ⟨v,hv,rfl⟩:=EK h; obtain ⟨v',hr,Gw⟩:=dP hv hx hy w; refine .value hw ?_ Gw; simp only [execOp,ho]; exact BD hr
end
end Go.Ce
namespace Go.Ce
open Go.RowKit (Below)
section
variable {P:Program} {w0:World} {ρ:Bn} {W:CW} {w:World} {o:Oper} {e e':Operand→Value} {outs:List (Ba × CW)}
theorem Aq.set {c c':Array Value} (h:Aq ρ c.toList c'.toList) {v v':Value} (hv:AO ρ v v') (i:Nat):Aq ρ (c.setIfInBounds i v).toList (c'.setIfInBounds i v').toList:=by
 rw [Aq.arr] at h ⊢; refine ⟨by simp [h.1],fun j hj=>?_⟩; rw [Array.size_setIfInBounds] at hj; have hj':j<c'.size:=h.1 ▸ hj; have h2:=h.2 j hj; simp only [Array.getD_eq_getD_getElem?] at h2 ⊢; rw [Array.getElem?_setIfInBounds,Array.getElem?_setIfInBounds]
 by_cases e:i=j
 ·rw [if_pos e,if_pos e,if_pos (by omega),if_pos (by omega)]; exact hv
 ·rw [if_neg e,if_neg e]; exact h2
theorem Vk (off:Nat):∀ (vs vs':List Value) (k:Nat) (c c':Array Value),Aq ρ vs vs'→Aq ρ c.toList c'.toList →
  Aq ρ ((vs.zipIdx k).foldl (fun cs (p:Value × Nat)=>cs.setIfInBounds (off+p.2) p.1) c).toList ((vs'.zipIdx k).foldl (fun cs (p:Value × Nat)=>cs.setIfInBounds (off+p.2) p.1) c').toList:=by
 intro vs
 induction vs with
 | nil =>
  intro vs' k c c' h hc
  cases vs' with
  | nil=>exact hc
  | cons y ys=>have:=h.1; simp at this
 | cons x xs ih =>
  intro vs' k c c' h hc
  cases vs' with
  | nil=>have:=h.1; simp at this
  | cons y ys =>
   simp only [List.zipIdx_cons,List.foldl_cons]; exact ih ys (k+1) _ _ h.tail (hc.set h.head _)
inductive Xq (ρ:Bn):List (Nat × Value)→List (Nat × Value)→Prop
 | nil:Xq ρ [] []
 | cons (i:Nat) {v v':Value} {xs ys:List (Nat × Value)}:AO ρ v v'→Xq ρ xs ys→Xq ρ ((i,v)::xs) ((i,v')::ys)
theorem Xq.map (xs:List (Nat × Operand)) (h:∀ p,p ∈ xs→AO ρ (e p.2) (e' p.2)):Xq ρ (xs.map fun (i,x)=>(i,e x)) (xs.map fun (i,x)=>(i,e' x)):=by
 induction xs with
 | nil=>exact .nil
 | cons p xs ih=>exact .cons _ (h p (by simp)) (ih fun q hq=>h q (by simp [hq]))
theorem Tx (place:Nat→Option (Nat × Nat)):∀ {xs ys:List (Nat × Value)},Xq ρ xs ys→∀ {c c' r:Array Value},Aq ρ c.toList c'.toList→Instr.fill place c xs=some r →
  ∃ r',Instr.fill place c' ys=some r'∧Aq ρ r.toList r'.toList:=by
 intro xs ys h
 induction h with
 | nil =>
  intro c c' r hc hr; simp only [Instr.fill,Option.some.injEq] at hr; subst hr; exact ⟨c',rfl,hc⟩
 | @cons i v v' xs ys hv hp ih =>
  intro c c' r hc hr; rw [Instr.fill] at hr ⊢
  cases gI:place i with
  | none=>rw [gI] at hr; cases hr
  | some q =>
   obtain ⟨off,size⟩:=q; rw [gI] at hr; simp only at hr ⊢; have MB:=hv.cells; have e1:v'.cells.size=v.cells.size:=by have:=MB.1; simpa using this.symm
   have e2:c'.size=c.size:=by have:=hc.1; simpa using this.symm
   rw [e1,e2]
   split at hr
   ·cases hr
   ·rename_i BQ; rw [if_neg BQ]; refine ih ?_ hr; rw [←Array.foldl_toList,←Array.foldl_toList,Array.toList_zipIdx,Array.toList_zipIdx]; exact Vk off _ _ 0 _ _ MB hc
theorem ZU {fs:List Field} {pl:List (Nat × Nat)} (h:(fs.mapM fun f=>(DM P f.type).map fun s=>(f.offset,s))=some pl) (w:World) :
  (fs.mapM fun f=>(do pure (f.offset,←sizeOf f.type):Sem (Nat × Nat))).run P w=.ok pl w:=by
 induction fs generalizing pl with
 | nil=>simp only [List.mapM_nil,Option.pure_def,Option.some.injEq] at h; subst h; simp
 | cons f fs ih =>
  rw [List.mapM_cons] at h
  cases hs:DM P f.type with
  | none=>simp [hs] at h
  | some s =>
   simp only [hs,Option.map_some,Option.bind_eq_bind,Option.bind_some] at h
   cases hr:(fs.mapM fun f=>(DM P f.type).map fun s=>(f.offset,s)) with
   | none=>simp [hr] at h
   | some pl2 =>
    simp only [hr,Option.bind_some,Option.pure_def,Option.some.injEq] at h; subst h; rw [List.mapM_cons]; simp only [Sem.run_bind,BJ hs,Result.andThen_ok,Sem.run_pure,ih hr]
theorem lV (hz:ZP P) {t:TypeId} {parts:Array (Nat × Operand)} (ho:o.op=.build t parts) (h:BP P o e W=some outs) (hw:AY P w0 ρ W w) (hp:∀ p,p ∈ parts.toList→AO ρ (e p.2) (e' p.2)) :
  A9 P w0 ρ W ((execOp e' o).run P w) outs:=by
 simp only [BP,ho] at h; obtain ⟨v,hv,rfl⟩:=EK h
 split at hv
 ·rename_i z fields Ky ht
  split at hv
  ·rename_i N7 gI; rw [Option.map_eq_some_iff] at hv; obtain ⟨r,hr,rfl⟩:=hv; obtain ⟨r',Iq,CA⟩:=Tx _ (Xq.map (e:=e) (e':=e') parts.toList hp) (hz.rel Ky ρ).cells hr; refine .value hw (v':=.agg r') ?_ (.ZM CA); simp only [execOp,ho]; refine BD ?_
   have hm:(fields.mapM fun f=>(do pure (f.offset,←sizeOf f.type):Sem (Nat × Nat))).run P w=.ok N7.toArray w:=by
    have:=ZU gI w; rw [←Array.toArray_toList (xs:=fields),List.mapM_toArray]; simp only [Sem.run_map,this,Result.andThen_ok]
   simp only [Instr.build,Sem.run_bind,Bd Ky,Result.andThen_ok,AD ht,hm]; have:(fun i:Nat=>N7.toArray[i]?)=(fun i:Nat=>N7[i]?):=by funext i; simp
   rw [this,Array.toList_map,Iq]; rfl
  ·cases hv
 ·rename_i z n elem Ky ht
  split at hv
  ·rename_i s hs; rw [Option.map_eq_some_iff] at hv; obtain ⟨r,hr,rfl⟩:=hv; obtain ⟨r',Iq,CA⟩:=Tx _ (Xq.map (e:=e) (e':=e') parts.toList hp) (hz.rel Ky ρ).cells hr; refine .value hw (v':=.agg r') ?_ (.ZM CA); simp only [execOp,ho]; refine BD ?_; simp only [Instr.build,Sem.run_bind,Bd Ky,Result.andThen_ok,AD ht,BJ hs]; rw [Array.toList_map,Iq]; rfl
  ·cases hv
 ·cases hv
theorem Mw (hz:ZP P) {t:TypeId} {z:Value} (Ky:Gm P t=some z) (n:Nat) (hn:n=0∨0<z.cells.size) (k:Nat) (hk:k<n) :
  AO ρ (cellAt .nil z.cells k) (((Array.range n).map (z.cells[· % z.cells.size]!)).getD k undef):=by
 have N9:0<z.cells.size:=by omega
 have Au:k % z.cells.size<z.cells.size:=Nat.mod_lt _ N9; have h1:cellAt .nil z.cells k=z.cells.getD (k % z.cells.size) undef:=rfl
 have h2:((Array.range n).map (z.cells[· % z.cells.size]!)).getD k undef=z.cells.getD (k % z.cells.size) undef:=by
  simp [Array.getD_eq_getD_getElem?,hk,Au]
 rw [h1,h2]; have hc:=(hz.rel Ky ρ).cells.2 (k % z.cells.size) (by simpa using Au)
 simpa [Array.getD_eq_getD_getElem?,List.getD_eq_getElem?_getD] using hc
theorem Vl (hz:ZP P) {t:TypeId} {len:Nat} {parts:Array (Nat × Operand)} (ho:o.op=.buildSlice t len parts) (h:BP P o e W=some outs) (hw:AY P w0 ρ W w) (hp:∀ p,p ∈ parts.toList→AO ρ (e p.2) (e' p.2)) :
  A9 P w0 ρ W ((execOp e' o).run P w) outs:=by
 simp only [BP,ho] at h; obtain ⟨v,W1,hv,rfl⟩:=Mv h
 split at hv
 ·rename_i elem ht; obtain ⟨s,hs,hv⟩:=Aa hv; obtain ⟨z,Ky,hv⟩:=Aa hv; rw [cond_eq_ite] at hv
  split at hv
  ·rename_i BQ; simp only [Bool.and_eq_true] at BQ; have hle:=Nat.le_of_ble_eq_true BQ.1; have Gp:=Nat.eq_of_beq_eq_true BQ.2
   split at hv
   ·rename_i cs AAK; simp only [Option.some.injEq,Prod.mk.injEq] at hv; obtain ⟨rfl,rfl⟩:=hv
    have hzero:len*s=0∨0<z.cells.size:=by
     rw [Gp]
     rcases Nat.eq_zero_or_pos s with h0 | h0
     ·left; rw [h0]; rfl
     ·exact .inr h0
    have AAL:Aq ρ ((BX .nil z.cells (len*s) 0).toArray).toList ((Array.range (len*s)).map (z.cells[· % z.cells.size]!)).toList:=by
     refine ⟨by simp [A3],fun i hi=>?_⟩; have hi:i<len*s:=by simpa [A3] using hi
     have:=Mw (ρ:=ρ) hz Ky (len*s) hzero i hi; have e1:=Fo .nil z.cells (len*s) 0 i hi; rw [Nat.zero_add] at e1; simp only [e1]; rw [Array.getD_eq_getD_getElem?,←Array.getElem?_toList] at this; rw [List.getD_eq_getElem?_getD]; exact this
    obtain ⟨r',Iq,CA⟩:=Tx _ (Xq.map (e:=e) (e':=e') parts.toList hp) AAL AAK
    obtain ⟨ρ',C_,_,Gq,ha⟩:=Ox hw (c:=Tr.nil.Ag 0 cs.toList) (z:=#[]) (n:=cs.size) (c':=r') hs (by simpa using CA.1.symm) (fun k hk=>by
     rw [DA _ _ _ (by simpa using hk)]; have:=CA.2 k (by simpa using hk)
     simpa [Array.getD_eq_getD_getElem?,List.getD_eq_getElem?_getD] using this)
    refine ⟨_,_,ρ',List.mem_singleton.2 rfl,C_,.value (w:={ w with heap:=w.heap.push (.cells r' elem) }) ?_ (.slice _ ha (.inl rfl)) Gq⟩; simp only [execOp,ho]; refine BD ?_; have Ty:¬len*s>2 ^ 24:=by omega
    have dQ:∀ f g:Nat→Value,len*s=0→(Array.range (len*s)).map f=(Array.range (len*s)).map g:=fun f g h0=>by simp [h0]
    simp only [Instr.buildSlice,Sem.run_bind,AD ht,Result.andThen_ok,BJ hs]; rw [if_neg Ty]
    by_cases h0:len*s=0
    ·rw [if_pos h0]; simp only [Sem.run_bind,Sem.run_pure,Result.andThen_ok]; rw [dQ _ (z.cells[· % z.cells.size]!) h0,Array.toList_map,Iq]; simp [newRow]
    ·rw [if_neg h0]; simp only [Sem.run_bind,Bd Ky,Sem.run_pure,Result.andThen_ok]; rw [Array.toList_map,Iq]; simp [newRow]
   ·cases hv
  ·cases hv
 ·cases hv
theorem Nc {t elem:TypeId} {k1 k2:IntKind} {ln cp:Int} {s:Nat} {z:Value} (ht:P.underlying t=some (.slice elem)) (hs:DM P elem=some s) (Ky:Gm P elem=some z) (c1:0≤ln) (c2:ln≤cp) (c3:cp≤2000000)
  (c4:(P.info? elem).map (·.bytes) |>.getD 0 |> (·≤1024)) (w:World) :
  (Instr.makeSlice t (.int k1 ln) (.int k2 cp)).run P w=.ok (.slice (some ⟨w.heap.size,0,none⟩) ln.toNat cp.toNat) { w with heap:=w.heap.push (.cells ((Array.range (cp.toNat*s)).map (z.cells[· % z.cells.size]!)) elem) }:=by
 obtain ⟨info,ZV⟩:∃ i,P.info? elem=some i:=by
  unfold DM at hs
  cases hi:P.info? elem with
  | none=>simp [hi] at hs
  | some i=>exact ⟨i,rfl⟩
 have hb:info.bytes≤1024:=by simpa [ZV] using c4
 have w1:IntKind.i64.wrap ln=ln:=by unfold IntKind.wrap; simp [IntKind.bits,IntKind.signed]; omega
 have w2:IntKind.i64.wrap cp=cp:=by unfold IntKind.wrap; simp [IntKind.bits,IntKind.signed]; omega
 have Ty:(info.bytes:Int)*cp≤2 ^ 48:=by
  have h1:(info.bytes:Int)*cp≤1024*cp:=Int.mul_le_mul_of_nonneg_right (by omega) (by omega); omega
 have t1:(decide (cp<0) || decide ((info.bytes:Int)*cp>2 ^ 48))=false:=by simp; omega
 simp only [Instr.makeSlice,Sem.run_bind,AD ht,Result.andThen_ok,asInt,asIntOf,Sem.run_pure,G' ZV,w1,w2,Bool.or_eq_true,decide_eq_true_eq]; rw [if_neg (by omega)]; simp only [Sem.run_bind,run_askRoom,Result.andThen_ok,BJ hs]; have dQ:∀ f g:Nat→Value,cp.toNat*s=0→(Array.range (cp.toNat*s)).map f=(Array.range (cp.toNat*s)).map g:=fun f g h0=>by simp [h0]
 by_cases h0:cp.toNat*s=0
 ·rw [if_pos h0]; simp only [Sem.run_bind,Sem.run_pure,Result.andThen_ok]; rw [dQ _ (z.cells[· % z.cells.size]!) h0]; simp [newRow]
 ·rw [if_neg h0]; simp only [Sem.run_bind,Bd Ky,Sem.run_pure,Result.andThen_ok,newRow,run_newObj]
theorem Xr (hz:ZP P) {t:TypeId} {l c:Operand} (ho:o.op=.makeSlice t l c) (h:BP P o e W=some outs) (hw:AY P w0 ρ W w) (hl:AO ρ (e l) (e' l)) (hc:AO ρ (e c) (e' c)) :
  A9 P w0 ρ W ((execOp e' o).run P w) outs:=by
 simp only [BP,ho] at h; obtain ⟨v,W1,hv,rfl⟩:=Mv h
 split at hv
 ·rename_i elem k1 ln k2 cp ht h1 h2; rw [h1] at hl; rw [h2] at hc; generalize e1:e' l=vl at hl; generalize e2:e' c=vc at hc
  cases hl
  cases hc
  obtain ⟨s,hs,hv⟩:=Aa hv; obtain ⟨z,Ky,hv⟩:=Aa hv; rw [cond_eq_ite] at hv
  split at hv
  ·rename_i BQ; simp only [Bool.and_eq_true,decide_eq_true_eq] at BQ; obtain ⟨⟨⟨⟨⟨c1,c2⟩,c3⟩,c4⟩,c5⟩,c6⟩:=BQ; have c4:=Nat.le_of_ble_eq_true c4; have c5:=Nat.eq_of_beq_eq_true c5; have c6:0<s:=by have:=Nat.le_of_ble_eq_true c6; omega
   simp only [Option.some.injEq,Prod.mk.injEq] at hv; obtain ⟨rfl,rfl⟩:=hv; obtain ⟨ρ',C_,_,Gq,ha⟩:=Ox hw (c:=.nil) (z:=z.cells) (n:=cp.toNat*s) (c':=(Array.range (cp.toNat*s)).map (z.cells[· % z.cells.size]!)) hs (by simp) (fun k hk=>Mw hz Ky _ (.inr (by omega)) k hk); refine ⟨_,_,ρ',List.mem_singleton.2 rfl,C_,.value (w:={ w with heap:=w.heap.push (.cells ((Array.range (cp.toNat*s)).map (z.cells[· % z.cells.size]!)) elem) }) ?_ (.slice _ ha (.inl rfl)) Gq⟩; simp only [execOp,ho,e1,e2]; exact BD (Nc ht hs Ky c1 c2 c3 c4 w)
  ·cases hv
 ·cases hv
end
end Go.Ce
namespace Go.Ce
open Go.RowKit (Below)
section
variable {P:Program} {w0:World} {ρ:Bn} {W:CW} {w:World} {o:Oper} {e e':Operand→Value} {outs:List (Ba × CW)}
theorem ZW {f:FuncId} {first cap:Array Operand} (ho:o.op=.makeFunc (.func f) first cap) (h:BP P o e W=some outs) (hw:AY P w0 ρ W w)
  (hf:∀ x,x ∈ first.toList→AO ρ (e x) (e' x)) (hc:∀ x,x ∈ cap.toList→AO ρ (e x) (e' x)):A9 P w0 ρ W ((execOp e' o).run P w) outs:=by
 simp only [BP,ho] at h
 cases h
 have h1:=Aq.arr.1 (by simpa using Aq.map (ρ:=ρ) first.toList e e' hf:Aq ρ (first.map e).toList (first.map e').toList); have h2:=Aq.arr.1 (by simpa using Aq.map (ρ:=ρ) cap.toList e e' hc:Aq ρ (cap.map e).toList (cap.map e').toList); refine .value hw ?_ (.func (.func f) h1.1 h1.2 h2.1 h2.2); simp only [execOp,ho]; exact BD (by simp [Instr.makeFunc])
theorem dR {t:TypeId} (ho:o.op=.makeMap t none) (h:BP P o e W=some outs) (hw:AY P w0 ρ W w):A9 P w0 ρ W ((execOp e' o).run P w) outs:=by
 simp only [BP,ho] at h
 cases h
 obtain ⟨C_,Gq⟩:=hw.new (o:=.map [] 0) (o':=.map #[] 0) ⟨w.heap.size,0,0,0,0⟩ rfl (.map rfl trivial); refine ⟨_,_,_,List.mem_singleton.2 rfl,C_,.value (v':=.map (some w.heap.size)) (w:={ w with heap:=w.heap.push (.map #[] 0) }) ?_ (.map ⟨⟨w.heap.size,0,0,0,0⟩,by simp,rfl⟩) Gq⟩; simp only [execOp,ho]; exact BD (by simp [Instr.makeMap])
theorem Xs {t:TypeId} {x:Operand} {i:Nat} (ho:o.op=.fieldAddr t x i) (h:BP P o e W=some outs) (hw:AY P w0 ρ W w) (hx:AO ρ (e x) (e' x)) :
  A9 P w0 ρ W ((execOp e' o).run P w) outs:=by
 simp only [BP,ho] at h; obtain ⟨v,hv,rfl⟩:=EK h
 split at hv
 ·rename_i fs a ht hc; rw [hc] at hx; generalize EY:e' x=SA at hx
  cases hx with
  | @ptr _ a' ha =>
   split at hv
   ·rename_i fd cV
    split at hv
    ·rename_i m hm; rw [cond_eq_ite] at hv
     split at hv
     ·cases hv
     ·rename_i iY; have iY:m≠0:=by simpa using iY
      cases hv
      refine .value hw (v':=.pointer (some (a'.add fd.offset))) ?_ (.ptr (Ov ha _)); simp only [execOp,ho,EY]; refine BD ?_; simp only [Instr.fieldAt,Sem.run_bind,AD ht,Result.andThen_ok,cV,Instr.sureAddr,Sem.run_pure,fieldPlace,BJ hm,if_neg iY]
    ·cases hv
   ·cases hv
 ·cases hv
theorem Aq.extract {c c':Array Value} (h:Aq ρ c.toList c'.toList) (i j:Nat):Aq ρ (c.extract i j).toList (c'.extract i j).toList:=by
 rw [Aq.arr] at h ⊢; refine ⟨by simp [h.1],fun k hk=>?_⟩; have hk:k<min j c.size-i:=by simpa using hk
 have h2:=h.2 (i+k) (by omega); have l1:i+k<c.size:=by omega
 have l2:i+k<c'.size:=by omega
 simp only [Array.getD_eq_getD_getElem?] at h2 ⊢; have g1:(c.extract i j)[k]?=c[i+k]?:=by rw [Array.getElem?_extract,if_pos (by omega)]
 have g2:(c'.extract i j)[k]?=c'[i+k]?:=by rw [Array.getElem?_extract,if_pos (by omega)]
 rw [g1,g2]; exact h2
theorem ZX {t:TypeId} {cs WO:Array Value} {off:Nat} {v:Value} (hl:Aq ρ cs.toList WO.toList)
  (h:(agg? P t=some true∧∃ m,DM P t=some m∧v=.agg (cs.extract off (off+m)))∨(agg? P t=some false∧cs[off]?=some v)) :
  ∃ v',(part t WO off).run P w=.ok v' w∧AO ρ v v':=by
 rcases h with ⟨ha,m,hm,rfl⟩ | ⟨ha,hv⟩
 ·refine ⟨.agg (WO.extract off (off+m)),?_,.ZM (hl.extract _ _)⟩; simp only [part,Sem.run_bind,Ey ha,Result.andThen_ok,if_true,BJ hm,Sem.run_pure]
 ·obtain ⟨y,hy,hr⟩:=hl.get (x:=v) (i:=off) (by simpa using hv); have hy:WO[off]?=some y:=by simpa using hy
  refine ⟨y,?_,hr⟩; simp only [part,Sem.run_bind,Ey ha,Result.andThen_ok,Bool.false_eq_true,if_false,hy,Sem.run_pure]
theorem lW {t:TypeId} {x:Operand} {i:Nat} (ho:o.op=.field t x i) (h:BP P o e W=some outs) (hw:AY P w0 ρ W w) (hx:AO ρ (e x) (e' x)) :
  A9 P w0 ρ W ((execOp e' o).run P w) outs:=by
 simp only [BP,ho] at h; obtain ⟨v,hv,rfl⟩:=EK h
 split at hv
 ·rename_i fs cs ht hc; rw [hc] at hx; generalize EY:e' x=SA at hx; obtain ⟨WO,rfl,hl⟩:=hx.FH
  split at hv
  ·rename_i fd cV
   obtain ⟨v',hr,Gw⟩:=ZX (P:=P) (w:=w) (t:=fd.type) (off:=fd.offset) (v:=v) hl (by
    split at hv
    ·rename_i m ha hm
     cases hv
     exact .inl ⟨ha,m,hm,rfl⟩
    ·rename_i ha; exact .inr ⟨ha,hv⟩
    ·cases hv)
   refine .value hw ?_ Gw; simp only [execOp,ho,EY]; refine BD ?_; simp only [Instr.field,Sem.run_bind,AD ht,Result.andThen_ok,cV,asAgg,Sem.run_pure,hr]
  ·cases hv
 ·cases hv
theorem Xt {t:TypeId} {x ix:Operand} (ho:o.op=.indexAddr t x ix) (h:BP P o e W=some outs) (hw:AY P w0 ρ W w) (hx:AO ρ (e x) (e' x)) (hi:AO ρ (e ix) (e' ix)) :
  A9 P w0 ρ W ((execOp e' o).run P w) outs:=by
 simp only [BP,ho] at h; obtain ⟨v,hv,rfl⟩:=EK h
 split at hv
 ·rename_i k i lX; rw [lX] at hi; generalize EY:e' ix=vi' at hi
  cases hi
  split at hv
  ·rename_i len elem a ht hc; rw [hc] at hx; generalize QB:e' x=SA at hx
   cases hx with
   | @ptr _ a' ha =>
    obtain ⟨s,hs,hv⟩:=Aa hv; rw [cond_eq_ite] at hv
    split at hv
    ·rename_i BQ; simp only [Bool.and_eq_true,decide_eq_true_eq] at BQ
     cases hv
     refine .value hw (v':=.pointer (some (a'.add (i.toNat*s)))) ?_ (.ptr (Ov ha _)); simp only [execOp,ho,EY,QB]; refine BD ?_; simp only [Instr.indexAt,Sem.run_bind,asIntOf,Sem.run_pure,Result.andThen_ok,AD ht,Instr.sureAddr,if_pos BQ,BJ hs]
    ·cases hv
  ·rename_i elem a len cp ht hc; rw [hc] at hx; generalize QB:e' x=SA at hx
   have:∃ a' c',SA=.slice (some a') len c'∧(len=0∨K5 ρ a a'):=by
    cases hx with
    | slice _ ha _=>exact ⟨_,_,rfl,.inr ha⟩
    | Je _ _ _ _ _=>exact ⟨_,_,rfl,.inl rfl⟩
    | Ht _=>exact ⟨_,_,rfl,.inl rfl⟩
   obtain ⟨a',c',rfl,WQ⟩:=this; obtain ⟨s,hs,hv⟩:=Aa hv; rw [cond_eq_ite] at hv
   split at hv
   ·rename_i BQ; simp only [Bool.and_eq_true,decide_eq_true_eq] at BQ
    cases hv
    have ha:K5 ρ a a':=WQ.resolve_left (by omega); refine .value hw (v':=.pointer (some (a'.add (i.toNat*s)))) ?_ (.ptr (Ov ha _)); simp only [execOp,ho,EY,QB]; refine BD ?_; simp only [Instr.indexAt,Sem.run_bind,asIntOf,Sem.run_pure,Result.andThen_ok,AD ht,if_pos BQ,BJ hs]
   ·cases hv
  ·cases hv
 ·cases hv
theorem lY {t:TypeId} {x ix:Operand} (ho:o.op=.index t x ix) (h:BP P o e W=some outs) (hw:AY P w0 ρ W w) (hx:AO ρ (e x) (e' x)) (hi:AO ρ (e ix) (e' ix)) :
  A9 P w0 ρ W ((execOp e' o).run P w) outs:=by
 simp only [BP,ho] at h; obtain ⟨v,hv,rfl⟩:=EK h
 split at hv
 ·rename_i k i lX; rw [lX] at hi; generalize EY:e' ix=vi' at hi
  cases hi
  split at hv
  ·rename_i len elem cs ht hc; rw [hc] at hx; generalize QB:e' x=SA at hx; obtain ⟨WO,rfl,hl⟩:=hx.FH; rw [cond_eq_ite] at hv
   split at hv
   ·rename_i BQ; simp only [Bool.and_eq_true,decide_eq_true_eq] at BQ
    have:∃ m,DM P elem=some m∧((agg? P elem=some true∧∃ n,DM P elem=some n∧v=.agg (cs.extract (i.toNat*m) (i.toNat*m+n)))∨(agg? P elem=some false∧cs[i.toNat*m]?=some v)):=by
     split at hv
     ·rename_i m ha hm
      cases hv
      exact ⟨m,hm,.inl ⟨ha,m,hm,rfl⟩⟩
     ·rename_i m ha hm; exact ⟨m,hm,.inr ⟨ha,hv⟩⟩
     ·cases hv
    obtain ⟨m,hm,hp⟩:=this; obtain ⟨v',hr,Gw⟩:=ZX (P:=P) (w:=w) hl hp; refine .value hw ?_ Gw; simp only [execOp,ho,EY,QB]; refine BD ?_; simp only [Instr.index,Sem.run_bind,asIntOf,Sem.run_pure,Result.andThen_ok,AD ht,if_pos BQ,BJ hm,hr]
   ·cases hv
  ·rename_i s ht hc; rw [hc] at hx; generalize QB:e' x=SA at hx
   cases hx
   rw [cond_eq_ite] at hv
   split at hv
   ·rename_i BQ; have BQ:0≤i:=by simpa using BQ
    cases hs:s[i.toNat]? with
    | none=>rw [hs] at hv; cases hv
    | some b =>
     rw [hs] at hv
     cases hv
     refine .value hw ?_ (.int _ _); simp only [execOp,ho,EY,QB]; refine BD ?_; simp only [Instr.index,Sem.run_bind,asIntOf,Sem.run_pure,Result.andThen_ok,AD ht,if_pos BQ,hs]
   ·cases hv
  ·cases hv
 ·cases hv
theorem lZ {t:TypeId} {x:Operand} {lo hi mx:Option Operand} (ho:o.op=.slice t x lo hi mx) (h:BP P o e W=some outs) (hw:AY P w0 ρ W w) (hx:AO ρ (e x) (e' x))
  (hl:∀ y,lo=some y→AO ρ (e y) (e' y)) (hh:∀ y,hi=some y→AO ρ (e y) (e' y)) (hm:∀ y,mx=some y→AO ρ (e y) (e' y)):A9 P w0 ρ W ((execOp e' o).run P w) outs:=by
 simp only [BP,ho] at h; obtain ⟨v,hv,rfl⟩:=EK h; have rl:=Li.map (ρ:=ρ) (f:=e) (g:=e') lo hl; have rh:=Li.map (ρ:=ρ) (f:=e) (g:=e') hi hh; have rm:=Li.map (ρ:=ρ) (f:=e) (g:=e') mx hm
 split at hv
 ·rename_i s ht hc; rw [hc] at hx; generalize QB:e' x=SA at hx
  cases hx
  obtain ⟨h',hh',hv⟩:=Aa hv; obtain ⟨l',Vm,hv⟩:=Aa hv; rw [cond_eq_ite] at hv
  split at hv
  ·cases hv
  ·rename_i pk
   cases hv
   have pk:mx=none:=by cases mx <;> simp_all
   subst pk; have hb:=K7 (P:=P) (ρ:=ρ) (mx:=none) (ux:=none) (cap:=s.size) (cap':=s.size) (m:=s.size) false rfl hh' Vm rl rh trivial (Nat.le_refl _) (by simp); obtain ⟨m',hr,_,_⟩:=hb; refine .value hw ?_ (.string _); simp only [execOp,ho,QB]; refine BD ?_; simp only [Instr.sliceAt,Sem.run_bind,AD ht,Result.andThen_ok,Instr.slice,Option.map_none,Option.isSome_none,Bool.false_eq_true,if_false,Sem.run_pure,hr]
 ·obtain ⟨v',hr,Gw⟩:=Xp hw hv hx rl rh rm; refine .value hw ?_ Gw; simp only [execOp,ho]; exact BD hr
theorem Vn (hz:ZP P) {x:Operand} {xt t:TypeId} {ok:Bool} (ho:o.op=.typeAssert x xt t ok) (h:BP P o e W=some outs) (hw:AY P w0 ρ W w) (hx:AO ρ (e x) (e' x)) :
  A9 P w0 ρ W ((execOp e' o).run P w) outs:=by
 simp only [BP,ho] at h; obtain ⟨v,hv,rfl⟩:=EK h
 split at hv
 ·cases hv
 ·rename_i d u y h1 h2 hce; have hc:P.underlying t=some d:=by first | exact h1 | exact h2
  have ht:∀ m,d=.interface m→False:=by first | exact h1 | exact h2
  rw [hce] at hx; generalize QB:e' x=SA at hx
  cases hx with
  | @iface _ _ y' hy =>
   rw [cond_eq_ite] at hv; have Dm:∀ m,d≠.interface m:=fun m hm=>ht m hm
   have run:∀ {v':Value},((t=u∧v'=(if ok=true then .tuple #[y',.bool true] else y'))∨(t≠u∧ok=true∧∃ z,Gm P t=some z∧v'=.tuple #[z,.bool false])) →
     (Instr.typeAssert (.iface u y') xt t ok).run P w=.ok v' w:=by
    intro v' hr; simp only [Instr.typeAssert,Sem.run_bind,AD hc,Result.andThen_ok]
    rcases hr with ⟨ZY,rfl⟩ | ⟨ZY,rfl,z,Ky,rfl⟩
    ·cases d <;> first | (exact (Dm _ rfl).elim) | (simp [ZY])
    ·cases d <;> first | (exact (Dm _ rfl).elim) | (simp [Ne.symm ZY,Bd Ky])
   split at hv
   ·rename_i ZY; have ZY:t=u:=by simpa using ZY
    cases hv
    refine .value hw (v':=if ok=true then .tuple #[y',.bool true] else y') ?_ ?_
    ·simp only [execOp,ho,QB]; exact BD (run (.inl ⟨ZY,rfl⟩))
    ·cases ok
     ·simpa using hy
     ·simp only [cond_true,if_true]; exact .tuple' (.cons hy (.cons (.bool _) (.nil _)))
   ·rename_i ZY; have ZY:¬t=u:=by simpa using ZY
    cases ok
    ·cases hv
    ·simp only [cond_true] at hv; rw [Option.map_eq_some_iff] at hv; obtain ⟨z,Ky,rfl⟩:=hv; refine .value hw (v':=.tuple #[z,.bool false]) ?_ (.tuple' (.cons (hz.rel Ky ρ) (.cons (.bool _) (.nil _)))); simp only [execOp,ho,QB]; exact BD (run (.inr ⟨ZY,rfl,z,Ky,rfl⟩))
 ·cases hv
theorem lg {x:Operand} (ho:o.op=.panic x) (h:BP P o e W=some outs) (hw:AY P w0 ρ W w) (hx:AO ρ (e x) (e' x)):A9 P w0 ρ W ((execOp e' o).run P w) outs:=by
 simp only [BP,ho] at h
 split at h
 ·rename_i t y hc
  cases h
  rw [hc] at hx; generalize QB:e' x=SA at hx
  cases hx with
  | @iface _ _ y' hy =>
   refine ⟨_,_,ρ,List.mem_singleton.2 rfl,.refl _,.panic (v':=.iface t y') (w:=w) ?_ (.iface _ hy) hw⟩; simp [execOp,ho,QB,Instr.panic]
 ·cases h
theorem lh {c:Call} {f:Operand} (ho:o.op=.defer c) (hf:c.callee=.value f) (h:BP P o e W=some outs) (hw:AY P w0 ρ W w) (hx:AO ρ (e f) (e' f))
  (ha:∀ x,x ∈ c.args.toList→AO ρ (e x) (e' x)):A9 P w0 ρ W ((execOp e' o).run P w) outs:=by
 simp only [BP,ho,hf] at h; have C3:Aq ρ (c.args.map e).toList (c.args.map e').toList:=by simpa using Aq.map (ρ:=ρ) c.args.toList e e' ha
 split at h
 ·rename_i fn first cap hc
  cases h
  rw [hc] at hx; generalize QB:e' f=SA at hx
  cases hx with
  | @func _ f' _ x' _ y' Xu h1 h2 h3 h4 =>
   cases Xu
   refine ⟨_,_,ρ,List.mem_singleton.2 rfl,.refl _,.defer (w:=w) (d':={ target:=.fn (.func fn) y',args:=x'++c.args.map e' }) ?_ (.fn ?_ ?_) hw⟩
   ·simp only [execOp,ho,resolve,hf,QB,Deferred.ofValue,Sem.run_bind,Sem.run_pure,Result.andThen_ok]
   ·exact Aq.arr.2 ⟨h3,h4⟩
   ·have e1:=Aq.arr.2 ⟨h1,h2⟩
    simpa using e1.append C3
 ·cases h
end
end Go.Ce
namespace Go.Ce
open Go.RowKit (Below)
section
variable {P:Program} {w0:World} {ρ:Bn} {W:CW} {w:World} {o:Oper} {e e':Operand→Value} {outs:List (Ba × CW)}
theorem At {r:Nat} {u:Obj} (h:w.heap[r]?=some u) (hc:∀ c e z,u≠.cells c e z):(getObj r).run P w=.ok u w:=by
 cases u <;> first | exact (hc _ _ _ rfl).elim | simp [getObj,Sem.run,h]
theorem DB {r:Nat} {u:Obj} (h:w.heap[r]?=some u) (hc:∀ c e z,u≠.cells c e z) (v:Obj):(setObj r v).run P w=.ok () { w with heap:=w.heap.setIfInBounds r v }:=by
 cases u <;> first | exact (hc _ _ _ rfl).elim | simp [setObj,Sem.run,h]
theorem ZZ {d:TypeDesc} {k k' v v':Value} {b:Bool} (h:Instr.sameNow d k v=some b) (hk:AO ρ k k') (hv:AO ρ v v'):Instr.sameNow d k' v'=some b:=by
 unfold Instr.sameNow at h ⊢; split at h <;> first | (cases h; done) | skip
 all_goals
  cases hk
  cases hv
  exact h
theorem Za {d:TypeDesc} {k k':Value} (hk:AO ρ k k'):∀ {es CG:List MapEntry},Bs ρ es CG→∀ {i:Nat} {r:Option (Nat × Value)},Instr.findNow d k es i=some r →
  ∃ r',Instr.findNow d k' CG i=some r'∧((r=none∧r'=none)∨∃ j v v' en,r=some (j,v)∧r'=some (j,v')∧AO ρ v v'∧i≤j∧CG[j-i]?=some en∧Instr.sameNow d k' en.key=some true):=by
 intro es
 induction es with
 | nil =>
  intro CG lj i r h
  cases CG with
  | nil=>simp only [Instr.findNow,Option.some.injEq] at h; subst h; exact ⟨none,rfl,.inl ⟨rfl,rfl⟩⟩
  | cons _ _=>exact lj.elim
 | cons en es ih =>
  intro CG lj i r h
  cases CG with
  | nil=>exact lj.elim
  | cons Y6 CG =>
   obtain ⟨h1,h2⟩:=lj
   cases h1 with
   | @mk k1 v1 qV gJ born hkk Vo =>
    rw [Instr.findNow] at h ⊢; simp only at h ⊢
    cases hs:Instr.sameNow d k k1 with
    | none=>rw [hs] at h; cases h
    | some b =>
     have Jf:=ZZ hs hk hkk; rw [hs] at h; rw [Jf]
     cases b with
     | true =>
      cases h
      exact ⟨_,rfl,.inr ⟨i,v1,gJ,⟨qV,gJ,born⟩,rfl,rfl,Vo,Nat.le_refl _,by simp,Jf⟩⟩
     | false =>
      obtain ⟨r',Iq,BA⟩:=ih h2 h; refine ⟨r',Iq,BA.imp id ?_⟩; rintro ⟨j,v,v',en2,e1,e2,e3,e4,e5,e6⟩; refine ⟨j,v,v',en2,e1,e2,e3,by omega,?_,e6⟩; have:j-i=(j-(i+1))+1:=by omega
      rw [this]; simpa using e5
theorem Zb {d:TypeDesc} {k v:Value} (h:Instr.sameNow d k v=some true):Instr.sameBits 10000 v k=true:=by
 unfold Instr.sameNow at h
 split at h <;> first | (cases h; done) | skip
 ·rename_i k1 a k2 b
  split at h
  ·rename_i hk; subst hk; have:a=b:=by simpa using h
   subst this; simp [Instr.sameBits]
  ·cases h
 ·rename_i a b; have h:(a == b)=true:=by simpa using h
  have:a=b:=by
   cases a; cases b
   have h:(_ == _)=true:=h; exact congrArg ByteArray.mk (Array.eq_of_isEqv _ _ (show Array.isEqv _ _ (fun a b=>a == b)=true from h))
  subst this; exact h
 ·rename_i a b; have:a=b:=by simpa using h
  subst this; simp [Instr.sameBits]
theorem Xv {b:Bool} {t:TypeId} {d:TypeDesc} {k:Value} (hu:P.underlying t=some d) (hs:H_ d=true) (w:World):(Instr.checkKey b 10000 t k).run P w=.ok () w:=by
 rw [Instr.checkKey]; simp only [Sem.run_bind,AD hu,Result.andThen_ok]
 cases d <;> first | (cases hs; done) | rfl
theorem lk (d:TypeDesc) (k v:Value):NY d k v=Instr.sameNow d k v:=by
 unfold NY
 split
 ·rename_i a b; simp only [Instr.sameNow,QO,beq_toListBytes]
 ·rfl
theorem SE (d:TypeDesc) (k:Value):∀ (es:List MapEntry) (i:Nat),J8 d k es i=Instr.findNow d k es i
 | [],_=>rfl
 | e::es,i=>by simp only [J8,Instr.findNow,lk,SE d k es]; rfl
theorem Tz {x y x' y':Value} (h:N6 x y=true) (hx:AO ρ x x') (hy:AO ρ y y'):x'=y'∧∀ n,Instr.sameBits n y' x'=true:=by
 unfold N6 at h
 split at h
 ·simp only [Bool.and_eq_true,decide_eq_true_eq] at h; obtain ⟨rfl,rfl⟩:=h
  cases hx; cases hy
  exact ⟨rfl,fun n=>by cases n <;> simp [Instr.sameBits]⟩
 ·have:=MC h; subst this
  cases hx; cases hy
  exact ⟨rfl,fun n=>by cases n <;> simp [Instr.sameBits,beq_toListBytes]⟩
 ·have:=eq_of_beq h; subst this
  cases hx; cases hy
  exact ⟨rfl,fun n=>by cases n <;> simp [Instr.sameBits]⟩
 ·cases h
theorem Oy:∀ {xs ys Od S_:List Value},Oj xs ys=true→Aq ρ xs Od→Aq ρ ys S_→Od=S_∧∀ n,((S_.zip Od).all fun (x,y)=>Instr.sameBits n x y)=true
 | [],[],Od,S_,_,hx,hy=>by
  have h1:Od=[]:=List.length_eq_zero_iff.1 hx.1.symm; have h2:S_=[]:=List.length_eq_zero_iff.1 hy.1.symm; subst h1 h2; exact ⟨rfl,fun _=>rfl⟩
 | x::xs,y::ys,[],_,_,hx,_=>by have:=hx.1; simp at this
 | x::xs,y::ys,_::_,[],_,_,hy=>by have:=hy.1; simp at this
 | x::xs,y::ys,x'::Od,y'::S_,h,hx,hy=>by
  simp only [Oj,Bool.and_eq_true] at h; obtain ⟨e1,e2⟩:=Tz h.1 hx.head hy.head; obtain ⟨e3,e4⟩:=Oy h.2 hx.tail hy.tail; exact ⟨by rw [e1,e3],fun n=>by simp only [List.zip_cons_cons,List.all_cons,e2 n,e4 n,Bool.and_self]⟩
 | [],_::_,_,_,h,_,_=>by cases h
 | _::_,[],_,_,h,_,_=>by cases h
theorem Zc {k v k' v':Value} (h:Xf k v=true) (hk:AO ρ k k') (hv:AO ρ v v'):Instr.sameBits 10000 v' k'=true:=by
 unfold Xf at h
 split at h
 ·obtain ⟨Od,rfl,hx⟩:=hk.FH; obtain ⟨S_,rfl,hy⟩:=hv.FH; obtain ⟨e1,e2⟩:=Oy h hx hy; have e:Od=S_:=Array.ext' e1; rw [show (10000:Nat)=9999+1 from rfl,Instr.sameBits]; rw [e2 9999,e]; simp
 ·cases h
theorem Sr {b:Bool} {n:Nat} {cs WO:Array Value} (hc:Aq ρ cs.toList WO.toList) (w:World):∀ (fs:List Field),
  (fs.all fun f=>!(f.name == "_") && (match P.underlying f.type with | some d=>H_ d | none=>false) && (R5 P f.type cs f.offset).isSome)=true →
  (forIn fs PUnit.unit (fun f _=>do
   if f.name≠"_" then do Instr.checkKey b (n+1) f.type (←part f.type WO f.offset); pure (ForInStep.yield PUnit.unit) else pure (ForInStep.yield PUnit.unit)):Sem PUnit).run P w=.ok PUnit.unit w:=by
 intro fs
 induction fs with
 | nil=>intro _; simp
 | cons f fs ih =>
  intro h; simp only [List.all_cons,Bool.and_eq_true] at h; obtain ⟨⟨⟨h1,h2⟩,h3⟩,h4⟩:=h; have hn:f.name≠"_":=by simpa using h1
  obtain ⟨v,hv⟩:=Option.isSome_iff_exists.1 h3; obtain ⟨v',Gw,_⟩:=J_ hv hc w
  have Lz:(Instr.checkKey b (n+1) f.type v').run P w=.ok () w:=by
   split at h2
   ·rename_i d hd; rw [Instr.checkKey]; simp only [Sem.run_bind,AD hd,Result.andThen_ok]
    cases d <;> first | (cases h2; done) | rfl
   ·cases h2
  simp only [List.forIn_cons,if_pos hn,Sem.run_bind,Gw,Result.andThen_ok,Lz,Sem.run_pure]; exact ih h4
theorem ic {t:TypeId} {k k':Value} (hk:AO ρ k k'):∀ {es CG:List MapEntry},Bs ρ es CG→∀ {i:Nat} {r:Option (Nat × Value)},ZH P t k es i=some r →
  ∃ r',(∀ w:World,(Instr.findAsking t k' CG i).run P w=.ok r' w)∧((r=none∧r'=none)∨∃ j v v' en,r=some (j,v)∧r'=some (j,v')∧AO ρ v v'∧i≤j∧CG[j-i]?=some en∧Instr.sameBits 10000 en.key k'=true):=by
 intro es
 induction es with
 | nil =>
  intro CG he i r h
  cases CG with
  | cons=>exact he.elim
  | nil =>
   simp only [ZH,Option.some.injEq] at h; subst h; exact ⟨none,fun w=>by simp [Instr.findAsking],.inl ⟨rfl,rfl⟩⟩
 | cons en es ih =>
  intro CG he i r h
  cases CG with
  | nil=>exact he.elim
  | cons Y6 CG =>
   obtain ⟨h1,h2⟩:=he
   cases h1 with
   | @mk k1 v1 qV gJ b hkk Vo =>
    simp only [ZH] at h
    have run:∀ (b:Bool),ZG P 20 t k k1=some b→∀ w:World,(Op.equal t k' qV).run P w=.ok b w:=fun b hb w=>by
     rw [G0]; exact N' 20 _ _ _ _ _ _ hb hk hkk 10000 (by omega) w
    split at h
    ·rename_i T0; rw [cond_eq_ite] at h
     split at h
     ·rename_i AAM
      cases h
      refine ⟨some (i,gJ),fun w=>by simp only [Instr.findAsking,Sem.run_bind,run true T0,Result.andThen_ok,if_true,Sem.run_pure],.inr ⟨i,v1,gJ,_,rfl,rfl,Vo,Nat.le_refl _,by simp; rfl,?_⟩⟩; exact Zc AAM hk hkk
     ·cases h
    ·rename_i T0; obtain ⟨r',Iq,BA⟩:=ih h2 h; refine ⟨r',fun w=>by simp only [Instr.findAsking,Sem.run_bind,run false T0,Result.andThen_ok,Bool.false_eq_true,if_false,Iq],BA.imp id ?_⟩; rintro ⟨j,v,v',en,e1,e2,e3,e4,e5,e6⟩; refine ⟨j,v,v',en,e1,e2,e3,by omega,?_,e6⟩; have:j-i=(j-(i+1))+1:=by omega
     rw [this]; simpa using e5
    ·cases h
theorem MD {t:TypeId} {k k':Value} {es CG:List MapEntry} {r:Option (Nat × Value)} (h:NZ P t k es=some r) (hk:AO ρ k k') (he:Bs ρ es CG) :
  ∃ r',(∀ (b:Bool) (w:World),(Instr.checkKey b 10000 t k').run P w=.ok () w)∧(∀ w:World,(Instr.findKey t k' CG).run P w=.ok r' w) ∧
   ((r=none∧r'=none)∨∃ j v v' en,r=some (j,v)∧r'=some (j,v')∧AO ρ v v'∧CG[j]?=some en∧Instr.sameBits 10000 en.key k'=true):=by
 unfold NZ at h
 cases hd:P.underlying t with
 | none=>rw [hd] at h; cases h
 | some d =>
  rw [hd] at h; simp only [cond_eq_ite] at h
  split at h
  ·rename_i hs; rw [SE] at h; obtain ⟨r',Iq,BA⟩:=Za hk he h
   refine ⟨r',fun b w=>Xv hd hs w,fun w=>?_,BA.imp id ?_⟩
   ·simp only [Instr.findKey,Sem.run_bind,AD hd,Result.andThen_ok,Iq,Sem.run_pure]
   ·rintro ⟨j,v,v',en,e1,e2,e3,_,e5,e6⟩; exact ⟨j,v,v',en,e1,e2,e3,by simpa using e5,Zb e6⟩
  ·split at h
   ·rename_i hf; unfold gD at hf; rw [hd] at hf
    split at hf
    ·rename_i fs cs gK
     cases gK
     simp only [Bool.and_eq_true] at hf; obtain ⟨Zd,Xw⟩:=hf; obtain ⟨WO,rfl,hc⟩:=hk.FH; obtain ⟨r',Iq,BA⟩:=ic hk he h
     refine ⟨r',fun b w=>?_,fun w=>?_,BA.imp id ?_⟩
     ·have:=Sr (P:=P) (b:=b) (n:=9998) hc w fs.toList Xw; rw [show (10000:Nat)=9999+1 from rfl,Instr.checkKey]; simp only [Sem.run_bind,AD hd,Result.andThen_ok]; rw [←Array.forIn_toList,this]; rfl
     ·have ADM:Instr.findNow (.struct fs) (.agg WO) CG 0=(match CG with | []=>some none | _::_=>none):=by
       cases CG with
       | nil=>rfl
       | cons e CG=>simp [Instr.findNow,Instr.sameNow]
      simp only [Instr.findKey,Sem.run_bind,AD hd,Result.andThen_ok,ADM]
      cases CG with
      | nil=>have:=Iq w; simpa [Instr.findAsking] using this
      | cons e CG=>exact Iq w
     ·rintro ⟨j,v,v',en,e1,e2,e3,_,e5,e6⟩; exact ⟨j,v,v',en,e1,e2,e3,by simpa using e5,e6⟩
    ·cases hf
   ·cases h
theorem AY.SF (h:AY P w0 ρ W w) {r r':Nat} (hr:L8 ρ r r') {es:List MapEntry} {EC:Nat} (ho:W.obj r=some (.map es EC)) :
  ∃ x CG,ρ r=some x∧r'=x.b∧x.o=0∧w.heap[r']?=some (.map CG EC)∧Bs ρ es CG.toList:=by
 obtain ⟨x,hx,rfl⟩:=hr; obtain ⟨o',HV,hr⟩:=h.obj ho (by simp) hx rfl
 cases hr with
 | map h1 h2=>exact ⟨x,_,hx,rfl,h1,HV,h2⟩
theorem ie (hz:ZP P) {t:TypeId} {x k:Operand} {ok:Bool} (ho:o.op=.lookup t x k ok) (h:BP P o e W=some outs) (hw:AY P w0 ρ W w) (hx:AO ρ (e x) (e' x)) (hk:AO ρ (e k) (e' k)) :
  A9 P w0 ρ W ((execOp e' o).run P w) outs:=by
 simp only [BP,ho] at h; obtain ⟨v,hv,rfl⟩:=EK h
 split at hv
 ·rename_i kt elem ht; obtain ⟨z,Ky,hv⟩:=Aa hv; obtain ⟨es,lj,hv⟩:=Aa hv; obtain ⟨r,hr,hv⟩:=Aa hv
  have:∃ CG:Array MapEntry,Bs ρ es CG.toList∧((e' x=.map none∧CG=#[])∨∃ r EC,e' x=.map (some r)∧w.heap[r]?=some (.map CG EC)):=by
   generalize e' x=SA at *
   split at lj
   ·rename_i hc; rw [hc] at hx
    cases hx
    cases lj
    exact ⟨#[],trivial,.inl ⟨rfl,rfl⟩⟩
   ·rename_i r0 hc; rw [hc] at hx
    cases hx with
    | map hb =>
     split at lj
     ·rename_i es0 EC Bb
      cases lj
      obtain ⟨x,CG,_,_,_,hh,CA⟩:=hw.SF hb Bb; exact ⟨CG,CA,.inr ⟨_,_,rfl,hh⟩⟩
     ·cases lj
   ·cases lj
  obtain ⟨CG,CA,u5⟩:=this; obtain ⟨r',Lz,JG,BA⟩:=MD hr hk CA
  have HX:∀ y:Value × Bool,((r'=none∧y=(z,false))∨∃ j,r'=some (j,y.1)∧y.2=true) →
    (Instr.lookup t (e' x) (e' k) ok).run P w=.ok (if ok then .tuple #[y.1,.bool y.2] else y.1) w:=by
   intro y hy
   rcases u5 with ⟨hc,rfl⟩ | ⟨r,EC,hc,hh⟩ <;> rcases hy with ⟨rfl,rfl⟩ | ⟨j,rfl,h2⟩
   ·simp only [Instr.lookup,Sem.run_bind,AD ht,Result.andThen_ok,hc,Sem.run_pure,Lz,JG,Bd Ky]
   ·simp only [Instr.lookup,Sem.run_bind,AD ht,Result.andThen_ok,hc,Sem.run_pure,Lz,JG,h2]
   ·simp only [Instr.lookup,Sem.run_bind,AD ht,Result.andThen_ok,hc,At hh (by simp),Sem.run_pure,Lz,JG,Bd Ky]
   ·simp only [Instr.lookup,Sem.run_bind,AD ht,Result.andThen_ok,hc,At hh (by simp),Sem.run_pure,Lz,JG,h2]
  rcases BA with ⟨rfl,rfl⟩ | ⟨j,x1,x1',en,rfl,rfl,pn,_,_⟩
  ·cases hv
   refine .value hw ?_ ?_ (v':=if ok then .tuple #[z,.bool false] else z)
   ·simp only [execOp,ho]; exact BD (HX (z,false) (.inl ⟨rfl,rfl⟩))
   ·cases ok
    ·exact hz.rel Ky ρ
    ·exact .tuple' (.cons (hz.rel Ky ρ) (.cons (.bool _) (.nil _)))
  ·cases hv
   refine .value hw ?_ ?_ (v':=if ok then .tuple #[x1',.bool true] else x1')
   ·simp only [execOp,ho]; exact BD (HX (x1',true) (.inr ⟨j,rfl,rfl⟩))
   ·cases ok
    ·exact pn
    ·exact .tuple' (.cons pn (.cons (.bool _) (.nil _)))
 ·cases hv
theorem Bs.push:∀ {es CG:List MapEntry},Bs ρ es CG→∀ {a b:MapEntry},Xm ρ a b→Bs ρ (es++[a]) (CG++[b])
 | [],[],_,_,_,h=>⟨h,trivial⟩
 | _::_,_::_,h,_,_,k=>⟨h.1,h.2.push k⟩
 | [],_::_,h,_,_,_=>h.elim
 | _::_,[],h,_,_,_=>h.elim
theorem Bs.JC:∀ {es CG:List MapEntry},Bs ρ es CG→∀ {v v' k k':Value},AO ρ v v'→AO ρ k k'→∀ i,Bs ρ (JC v k i es) (CG.modify i fun en=>{ en with key:=k',val:=v' })
 | [],[],_,_,_,_,_,_,_,i=>by cases i <;> simp [Ce.JC,Bs]
 | en::es,Y6::CG,h,_,_,_,_,hv,hk,0=>by
  cases h.1 with
  | mk b _ _=>simp only [Ce.JC,List.modify_zero_cons]; exact ⟨.mk b hk hv,h.2⟩
 | en::es,Y6::CG,h,_,_,_,_,hv,hk,i+1=>by
  simp only [Ce.JC,List.modify_succ_cons]; exact ⟨h.1,Bs.JC h.2 hv hk i⟩
 | [],_::_,h,_,_,_,_,_,_,_=>h.elim
 | _::_,[],h,_,_,_,_,_,_,_=>h.elim
theorem Bs.K3:∀ {es CG:List MapEntry},Bs ρ es CG→∀ i,Bs ρ (K3 i es) (CG.eraseIdx i)
 | [],[],_,i=>by cases i <;> simp [Ce.K3,Bs]
 | en::es,Y6::CG,h,0=>by simp only [Ce.K3,List.eraseIdx_cons_zero]; exact h.2
 | en::es,Y6::CG,h,i+1=>by simp only [Ce.K3,List.eraseIdx_cons_succ]; exact ⟨h.1,Bs.K3 h.2 i⟩
 | [],_::_,h,_=>h.elim
 | _::_,[],h,_=>h.elim
theorem Bs.length:∀ {es CG:List MapEntry},Bs ρ es CG→es.length=CG.length
 | [],[],_=>rfl
 | _::_,_::_,h=>by simp [Bs.length h.2]
 | [],_::_,h=>h.elim
 | _::_,[],h=>h.elim
theorem Oz {t:TypeId} {m k x:Operand} (ho:o.op=.mapUpdate t m k x∨o.op=.insert t m k x) (h:BP P o e W=some outs) (hw:AY P w0 ρ W w) (hm:AO ρ (e m) (e' m)) (hk:AO ρ (e k) (e' k)) (hx:AO ρ (e x) (e' x)) :
  A9 P w0 ρ W ((execOp e' o).run P w) outs:=by
 rcases ho with ho | ho
 all_goals
  simp only [BP,ho] at h; obtain ⟨W1,hv,rfl⟩:=gF h
  split at hv
  ·rename_i kt elem r ht hc; rw [hc] at hm; generalize EY:e' m=vm' at hm
   cases hm with
   | @map _ r' hb =>
    split at hv
    ·rename_i es EC Bb; obtain ⟨y,CG,hy,rfl,pq,hh,CA⟩:=hw.SF hb Bb; obtain ⟨f,hf,hv⟩:=Aa hv; obtain ⟨r',Lz,JG,BA⟩:=MD hf hk CA
     rcases BA with ⟨rfl,rfl⟩ | ⟨j,x1,x1',en,rfl,rfl,pn,Ef,Ze⟩
     ·cases hv
      refine ⟨_,_,ρ,List.mem_singleton.2 rfl,.refl _,.skip (w:={ w with heap:=w.heap.setIfInBounds y.b (.map (CG.push { key:=e' k,val:=e' x,born:=EC }) (EC+1)) }) ?_ ?_⟩
      ·simp only [execOp,ho,EY]; refine dK ?_; simp only [Instr.mapUpdate,Sem.run_bind,AD ht,Result.andThen_ok,At hh (by simp),Lz,JG,DB hh (by simp)]
      ·refine hw.A5 Bb rfl hy (.map pq ?_); rw [Array.toList_push]; exact CA.push (.mk EC hk hx)
     ·cases hv
      refine ⟨_,_,ρ,List.mem_singleton.2 rfl,.refl _,.skip (w:={ w with heap:=w.heap.setIfInBounds y.b (.map (CG.modify j fun en=>{ en with key:=e' k,val:=e' x }) EC) }) ?_ ?_⟩
      ·simp only [execOp,ho,EY]; refine dK ?_; have u6:CG[j]?=some en:=by simpa using Ef
       simp only [Instr.mapUpdate,Sem.run_bind,AD ht,Result.andThen_ok,At hh (by simp),Lz,JG,Instr.keyThatStays,u6,Option.map_some,Option.getD_some,Ze,if_true,Sem.run_pure,DB hh (by simp)]
      ·refine hw.A5 Bb rfl hy (.map pq ?_); rw [Array.toList_modify]; exact CA.JC hx hk j
    ·cases hv
  ·cases hv
theorem lq {t:TypeId} {x:Operand} (ho:o.op=.range t x) (h:BP P o e W=some outs) (hw:AY P w0 ρ W w) (hx:AO ρ (e x) (e' x)) :
  A9 P w0 ρ W ((execOp e' o).run P w) outs:=by
 simp only [BP,ho] at h; obtain ⟨v,W1,hv,rfl⟩:=Mv h; generalize EY:e' x=SA at *
 split at hv
 ·rename_i kt elem ht hc; rw [hc] at hx
  cases hx
  simp only [Option.some.injEq,Prod.mk.injEq] at hv; obtain ⟨rfl,rfl⟩:=hv; obtain ⟨C_,Gq⟩:=hw.new (o:=.iter none 0 [] 0) (o':=.mapIter none 0 #[] 0) ⟨w.heap.size,0,0,0,0⟩ rfl (.Ot rfl); refine ⟨_,_,_,List.mem_singleton.2 rfl,C_,.value (v':=.pointer (some ⟨w.heap.size,0,none⟩)) (w:={ w with heap:=w.heap.push (.mapIter none 0 #[] 0) }) ?_ (.ptr ⟨rfl,⟨w.heap.size,0,0,0,0⟩,by simp,by simp⟩) Gq⟩; simp only [execOp,ho,EY]; refine BD ?_; simp [Instr.range,AD ht]
 ·rename_i kt elem r ht hc; rw [hc] at hx
  cases hx with
  | @map _ r' hb =>
   split at hv
   ·rename_i es EC Bb; simp only [Option.some.injEq,Prod.mk.injEq] at hv; obtain ⟨rfl,rfl⟩:=hv; obtain ⟨y,CG,hy,rfl,pq,hh,CA⟩:=hw.SF hb Bb; have Au:=hw.TA r y hy; obtain ⟨C_,Gq⟩:=hw.new (o:=.iter (some r) EC [] EC) (o':=.mapIter (some y.b) EC [].toArray EC) ⟨w.heap.size,0,0,0,0⟩ rfl (.iter rfl ⟨y,by simp [show r≠W.sz by omega,hy],rfl⟩); refine ⟨_,_,_,List.mem_singleton.2 rfl,C_,.value (v':=.pointer (some ⟨w.heap.size,0,none⟩)) (w:={ w with heap:=w.heap.push (.mapIter (some y.b) EC [].toArray EC) }) ?_ (.ptr ⟨rfl,⟨w.heap.size,0,0,0,0⟩,by simp,by simp⟩) Gq⟩; simp only [execOp,ho,EY]; refine BD ?_; simp [Instr.range,AD ht,At hh (by simp)]
   ·cases hv
 ·cases hv
theorem Bs.filter (p:Nat→Bool):∀ {es CG:List MapEntry},Bs ρ es CG→Bs ρ (es.filter fun e=>p e.born) (CG.filter fun e=>p e.born)
 | [],[],_=>trivial
 | en::es,Y6::CG,h=>by
  cases h.1 with
  | mk b hk hv =>
   simp only [List.filter_cons]
   cases p b
   ·simpa using Bs.filter p h.2
   ·simpa using ⟨.mk b hk hv,Bs.filter p h.2⟩
 | [],_::_,h=>h.elim
 | _::_,[],h=>h.elim
theorem Bs.append:∀ {es CG us us':List MapEntry},Bs ρ es CG→Bs ρ us us'→Bs ρ (es++us) (CG++us')
 | [],[],_,_,_,h=>h
 | _::_,_::_,_,_,h,k=>⟨h.1,h.2.append k⟩
 | [],_::_,_,_,h,_=>h.elim
 | _::_,[],_,_,h,_=>h.elim
theorem Bs.get:∀ {es CG:List MapEntry},Bs ρ es CG→∀ {i:Nat} {b:MapEntry},CG[i]?=some b→∃ a,es[i]?=some a∧Xm ρ a b
 | [],[],_,i,_,h=>by simp at h
 | a::es,a'::CG,h,0,b,hb=>by simp at hb; subst hb; exact ⟨a,rfl,h.1⟩
 | _::es,_::CG,h,i+1,b,hb=>by simpa using Bs.get h.2 (by simpa using hb)
 | [],_::_,h,_,_,_=>h.elim
 | _::_,[],h,_,_,_=>h.elim
theorem Bs.all (p:Nat→Bool):∀ {es CG:List MapEntry},Bs ρ es CG→(es.all fun e=>p e.born)=(CG.all fun e=>p e.born)
 | [],[],_=>rfl
 | en::es,Y6::CG,h=>by cases h.1 with | mk b _ _=>simp only [List.all_cons,Bs.all p h.2]
 | [],_::_,h=>h.elim
 | _::_,[],h=>h.elim
theorem AY.lu (h:AY P w0 ρ W w) {a a':Addr} (ha:K5 ρ a a') {m s l:Nat} {seen:List Nat} (ho:W.obj a.block=some (.iter (some m) s seen l)) :
  ∃ x m',ρ a.block=some x∧a'=⟨x.b,a.off,none⟩∧x.o=0∧L8 ρ m m'∧w.heap[x.b]?=some (.mapIter (some m') s seen.toArray l):=by
 obtain ⟨_,x,hx,rfl⟩:=ha; obtain ⟨o',HV,hr⟩:=h.obj ho (by simp) hx rfl
 cases hr with
 | iter h1 h2=>exact ⟨x,_,hx,by rw [h1]; rfl,h1,h2,HV⟩
theorem Bs.find (n:Nat):∀ {es CG:List MapEntry},Bs ρ es CG→∀ {a:MapEntry},es.find? (fun e=>Nat.beq e.born n)=some a→∃ b,CG.find? (fun e=>e.born == n)=some b∧Xm ρ a b
 | [],[],_,_,h=>by simp at h
 | en::es,Y6::CG,h,a,ha=>by
  have hb:Y6.born=en.born:=by cases h.1 with | mk b _ _=>rfl
  rw [List.find?_cons] at ha ⊢; rw [hb]; have e1:Nat.beq en.born n=(en.born == n):=by rw [Bool.eq_iff_iff]; simp
  rw [e1] at ha
  cases hx:(en.born == n)
  ·rw [hx] at ha; exact Bs.find n h.2 ha
  ·rw [hx] at ha; cases ha; exact ⟨Y6,rfl,h.1⟩
 | [],_::_,h,_,_=>h.elim
 | _::_,[],h,_,_=>h.elim
theorem l4 {x:Operand} (ho:o.op=.entry x) (h:BP P o e W=some outs) (hw:AY P w0 ρ W w) (hx:AO ρ (e x) (e' x)):A9 P w0 ρ W ((execOp e' o).run P w) outs:=by
 simp only [BP,ho] at h; obtain ⟨v,hv,rfl⟩:=EK h; generalize EY:e' x=SA at *
 split at hv
 ·rename_i a hc; rw [hc] at hx
  cases hx with
  | @ptr _ a' ha =>
   rw [cond_eq_ite] at hv
   split at hv
   ·cases hv
   rename_i Ss; have Ss:a.off=0:=by simpa using Ss
   split at hv
   ·rename_i r since seen S9 Bb; obtain ⟨y,m',hy,rfl,_,hm,hh⟩:=hw.lu ha Bb
    split at hv
    ·rename_i st es EC SG l6; obtain ⟨y2,CG,u7,rfl,_,u_,CA⟩:=hw.SF hm l6; rw [cond_eq_ite] at hv
     split at hv
     ·rename_i vA; have vA:=Nat.eq_of_beq_eq_true vA; subst vA; rw [Option.map_eq_some_iff] at hv; obtain ⟨en,Ef,rfl⟩:=hv; obtain ⟨Y6,u6,hr⟩:=CA.find st Ef; have hf:CG.find? (fun e=>e.born == st)=some Y6:=by rw [←Array.find?_toList]; exact u6
      have hl:seen.toArray.back?=some st:=by simpa [Array.back?_eq_getElem?,List.getLast?_eq_getElem?] using SG
      refine .value hw (v':=.tuple #[Y6.key,Y6.val]) ?_ ?_
      ·simp only [execOp,ho,EY]; refine BD ?_; simp [Instr.entry,Ss,At hh (by simp),At u_ (by simp),hl,hf]
      ·cases hr with
       | mk b h1 h2=>exact .tuple' (.cons h1 (.cons h2 (.nil _)))
     ·cases hv
    ·cases hv
   ·cases hv
 ·cases hv
theorem ig {es CG:List MapEntry} (h:Bs ρ es CG) (since:Nat) (seen:List Nat) {c:Option MapEntry} (hc:c ∈ R6 CG since seen) :
  ∃ c0,c0 ∈ R6 es since seen∧((c0=none∧c=none)∨∃ a b,c0=some a∧c=some b∧Xm ρ a b):=by
 unfold R6 at hc ⊢; have hl:=h.filter (fun b=>!seen.contains b); have ho:=hl.filter (fun b=>decide (b<since)); have hn:=hl.filter (fun b=>!decide (b<since)); simp only [List.mem_append,List.mem_map] at hc
 rcases hc with hc | ⟨b,hb,rfl⟩
 ·have hlen:=ho.length
  refine ⟨none,?_,?_⟩
  ·simp only [List.mem_append]; left
   cases hx:(List.filter (fun e=>decide (e.born<since)) (List.filter (fun e=>!seen.contains e.born) CG)) with
   | nil =>
    rw [hx] at hlen; have:(List.filter (fun e=>decide (e.born<since)) (List.filter (fun e=>!seen.contains e.born) es))=[]:=List.length_eq_zero_iff.1 (by simpa using hlen); rw [this]; simp
   | cons y ys=>rw [hx] at hc; simp at hc
  ·left; refine ⟨rfl,?_⟩; rw [cond_eq_ite] at hc
   split at hc
   ·simpa using hc
   ·simp at hc
 ·rw [←List.mem_append] at hb; obtain ⟨i,hi,hbi⟩:=List.getElem_of_mem hb; obtain ⟨a,ha,hr⟩:=(ho.append hn).get (i:=i) (b:=b) (by rw [List.getElem?_eq_getElem hi,hbi]); refine ⟨some a,?_,.inr ⟨a,b,rfl,rfl,hr⟩⟩; simp only [List.mem_append]; right; exact List.mem_map_of_mem (List.mem_of_getElem? ha)
theorem qW {x:Operand} (ho:o.op=.next x false) (h:BP P o e W=some outs) (hw:AY P w0 ρ W w) (hx:AO ρ (e x) (e' x)):A9 P w0 ρ W ((execOp e' o).run P w) outs:=by
 simp only [BP,ho] at h; generalize EY:e' x=SA at *
 split at h
 ·rename_i a hc; rw [hc] at hx
  cases hx with
  | @ptr _ a' ha =>
   rw [cond_eq_ite] at h
   split at h
   ·cases h
   rename_i Ss; have Ss:a.off=0:=by simpa using Ss
   split at h
   ·rename_i s1 s2 s3 Bb
    cases h
    obtain ⟨_,y,hy,rfl⟩:=ha; obtain ⟨o',HV,hr⟩:=hw.obj Bb (by simp) hy rfl
    cases hr with
    | Ot h0 =>
     refine .value hw ?_ (.tuple' (.cons (.bool _) (.nil _))) (v':=.tuple #[.bool false]); simp only [execOp,ho,EY]; refine BD ?_; simp [Instr.next,Ss,h0,At HV (by simp)]
   ·rename_i r since seen last Bb; obtain ⟨y,m',hy,rfl,pq,hm,hh⟩:=hw.lu ha Bb
    split at h
    ·rename_i es EC l6; obtain ⟨y2,CG,u7,rfl,_,u_,CA⟩:=hw.SF hm l6; rw [cond_eq_ite] at h
     split at h
     ·cases h
     ·rename_i BQ; simp only [Option.some.injEq] at h; subst h
      have l7:(!seen.toArray.isEmpty && !CG.isEmpty && CG.all (fun e=>decide (e.born≥last)))=false:=by
       have e1:seen.toArray.isEmpty=seen.isEmpty:=by cases seen <;> rfl
       have e2:CG.isEmpty=es.isEmpty:=by
        have:=CA.length
        cases es with
        | nil=>have:CG.size=0:=(by simpa using this.symm); simp [Array.isEmpty,this]
        | cons y ys=>have:CG.size=ys.length+1:=(by simpa using this.symm); simp [Array.isEmpty,this]
       have e3:CG.all (fun e=>decide (e.born≥last))=es.all (fun e=>!decide (e.born<last)):=by
        rw [←Array.all_toList,CA.all (fun b=>!decide (b<last))]; congr 1; funext en
        by_cases hb:en.born<last
        ·simp [hb]
        ·simp [hb]; omega
       rw [e1,e2,e3]
       simpa using BQ
      generalize hC:((if ((CG.filter fun e=>!seen.toArray.contains e.born).filter fun e=>decide (e.born<since)).isEmpty then #[none] else #[])++(((CG.filter fun e=>!seen.toArray.contains e.born).filter fun e=>decide (e.born<since))++((CG.filter fun e=>!seen.toArray.contains e.born).filter fun e=>decide (e.born≥since))).map some:Array (Option MapEntry))=C
      have l_:C.toList=R6 CG.toList since seen:=by
       have e1:∀ n:Nat,seen.toArray.contains n=seen.contains n:=fun n=>by simp
       have e2:(fun e:MapEntry=>!decide (e.born<since))=(fun e:MapEntry=>decide (e.born≥since)):=by
        funext en
        by_cases hb:en.born<since
        ·simp [hb]
        ·simp [hb]; omega
       rw [←hC]; simp only [R6,e1,e2,Array.toList_append,Array.toList_map,Array.toList_filter,cond_eq_ite]; congr 1; have e3:∀ A:Array MapEntry,A.isEmpty=A.toList.isEmpty:=fun A=>by rw [Bool.eq_iff_iff]; simp [Array.isEmpty_iff]
       rw [e3]; simp only [Array.toList_filter]; split <;> rfl
      have N9:0<C.size:=by
       rw [←Array.length_toList,l_]; unfold R6
       cases hx:(List.filter (fun e=>decide (e.born<since)) (List.filter (fun e=>!seen.contains e.born) CG.toList)) with
       | nil=>simp only [hx,List.isEmpty_nil,cond_true,List.length_append,List.length_cons]; omega
       | cons y ys=>simp only [hx,List.length_append,List.length_map,List.length_cons]; omega
      obtain ⟨i,w2,HI,hi,FI,mA⟩:∃ i w2,(choose (.mapNext C.size)).run P w=.ok i w2∧i<C.size∧AY P w0 ρ W w2∧w2.heap=w.heap:=by
       rw [run_choose]
       split
       ·exact ⟨0,w,rfl,N9,hw,rfl⟩
       ·exact ⟨_,_,rfl,by simp only [Question.cut]; exact Nat.mod_lt _ N9,hw.drew _,rfl⟩
      have lX:C[i]?=some C[i]:=by simp [hi]
      obtain ⟨c0,zp,BA⟩:=ig (c:=C[i]) CA since seen (by rw [←l_]; simp); rw [←mA] at hh u_
      rcases BA with ⟨rfl,hcn⟩ | ⟨en,Y6,rfl,hcn,hr⟩
      ·refine ⟨.value (.tuple #[.bool false]),W,ρ,?_,.refl _,.value (v':=.tuple #[.bool false]) (w:=w2) ?_ (.tuple' (.cons (.bool _) (.nil _))) FI⟩
       ·exact List.mem_map.2 ⟨none,zp,rfl⟩
       ·simp only [execOp,ho,EY]; refine BD ?_; rw [hcn] at lX; rw [mA] at hh u_; simp only [Instr.next,Ss,Sem.run_bind,At hh (by simp),At u_ (by simp),Result.andThen_ok,l7,hC,HI,lX,Sem.run_pure,Bool.false_eq_true,if_false]
      ·refine ⟨.value (.tuple #[.bool true,en.key,en.val]),W.A5 a.block (.iter (some r) since (seen++[en.born]) EC),ρ,?_,.refl _,
        .value (v':=.tuple #[.bool true,Y6.key,Y6.val]) (w:={ w2 with heap:=w2.heap.setIfInBounds y.b (.mapIter (some y2.b) since (seen++[en.born]).toArray EC) }) ?_ ?_ (FI.A5 Bb rfl hy (.iter pq hm))⟩
       ·exact List.mem_map.2 ⟨some en,zp,rfl⟩
       ·simp only [execOp,ho,EY]; refine BD ?_; rw [hcn] at lX; have AAN:Y6.born=en.born:=by cases hr with | mk b _ _=>rfl
        have qX:=DB (P:=P) hh (by simp) (.mapIter (some y2.b) since (seen++[en.born]).toArray EC); rw [mA] at hh u_; have AAO:seen.toArray.push en.born=(seen++[en.born]).toArray:=by simp
        simp only [Instr.next,Ss,Sem.run_bind,At hh (by simp),At u_ (by simp),Result.andThen_ok,l7,hC,HI,lX,AAN,AAO,qX,Sem.run_pure,Bool.false_eq_true,if_false]
       ·cases hr with
        | mk b h1 h2=>exact .tuple' (.cons (.bool _) (.cons h1 (.cons h2 (.nil _))))
    ·cases h
   ·cases h
 ·cases h
end
end Go.Ce
namespace Go.Ce
open Go.RowKit (Below)
section
variable {P:Program} {w0:World} {ρ:Bn} {W:CW} {w:World} {o:Oper} {e e':Operand→Value} {outs:List (Ba × CW)}
theorem AO.GA {a:Option Addr} {n c:Nat} {v:Value} (h:AO ρ (.slice a n c) v):∃ a' c',v=.slice a' n c'∧((a=none∧a'=none∧c'=c)∨∃ b b',a=some b∧a'=some b' ∧
  ((K5 ρ b b'∧QM ρ b c c')∨(n=0∧c=0∧b.spot=none∧∃ x,ρ b.block=some x∧b'.block=x.b∧b'.spot=none∧(c'=0∨(0<x.sz∧b'.off+c'*x.sz=x.n')))∨(n=0∧c=0∧c'=0∧b.spot=some 0))):=by
 cases h with
 | ZL=>exact ⟨_,_,rfl,.inl ⟨rfl,rfl,rfl⟩⟩
 | slice _ ha hc=>exact ⟨_,_,rfl,.inr ⟨_,_,rfl,rfl,.inl ⟨ha,hc⟩⟩⟩
 | Je h0 h1 h2 h3 h4=>exact ⟨_,_,rfl,.inr ⟨_,_,rfl,rfl,.inr (.inl ⟨rfl,rfl,h0,_,h1,h2,h3,h4⟩)⟩⟩
 | Ht h0=>exact ⟨_,_,rfl,.inr ⟨_,_,rfl,rfl,.inr (.inr ⟨rfl,rfl,rfl,h0⟩)⟩⟩
theorem ME (a:Addr) (w:World):(loadCells a 0).run P w=.ok #[] w:=by simp [loadCells,loadCellsFrom]
theorem K8 (hw:AY P w0 ρ W w) {b:Option Addr} {n c k size:Nat} {v:Value} {l:List Value} (hv:AO ρ (.slice b n c) v) (hk:k≤n) (h:EI b (k*size) W=some l) :
  ∃ l':Array Value,(∀ d,(Builtin.firstCells size k v).run P { w with drawn:=d }=.ok l' { w with drawn:=d })∧Aq ρ l l'.toList:=by
 obtain ⟨a',c',rfl,BA⟩:=hv.GA
 rcases BA with ⟨rfl,rfl,_⟩ | ⟨b,b',rfl,rfl,BA⟩
 ·cases h
  exact ⟨#[],fun _=>rfl,.nil _⟩
 ·simp only [EI,cond_eq_ite] at h
  split at h
  ·rename_i h0; have h0:=Nat.eq_of_beq_eq_true h0
   cases h
   refine ⟨#[],?_,.nil _⟩; intro d; simp only [Builtin.firstCells,h0]; exact ME _ _
  rename_i h0; have h0:k*size≠0:=fun hh=>h0 (by rw [hh]; rfl); have hk0:k≠0:=fun hh=>h0 (by rw [hh]; omega)
  have ha:K5 ρ b b':=by
   rcases BA with ⟨ha,_⟩ | ⟨h1,_⟩ | ⟨h1,_⟩
   ·exact ha
   ·omega
   ·omega
  split at h
  ·rename_i cc kk zz ee Bb
   split at h
   ·rename_i hle; have hle:=Nat.le_of_ble_eq_true hle
    cases h
    obtain ⟨x,c2,fr,hx,rfl,hb,_,_,hn,hs,dI,_,hc⟩:=hw.cells ha Bb; refine ⟨(DH c2 (k*size) (b.off+x.o)).toArray,?_,by simpa using ZQ hc (k*size) b.off hle⟩; intro d; simp only [Builtin.firstCells]; exact run_loadCells (w:={ w with drawn:=d }) hb _ _ (by omega)
   ·cases h
  ·rename_i ff kk ee Bb
   split at h
   ·rename_i hle; have hle:=Nat.le_of_ble_eq_true hle
    cases h
    obtain ⟨x,c2,_,fr,hx,rfl,hb,hn,hs,dI,_,hc⟩:=hw.fixed ha Bb; refine ⟨(DH c2 (k*size) (b.off+x.o)).toArray,?_,by simpa using R' hc (k*size) b.off hle⟩; intro d; simp only [Builtin.firstCells]; exact run_loadCells (w:={ w with drawn:=d }) hb _ _ (by omega)
   ·cases h
  ·cases h
theorem WR (hw:AY P w0 ρ W w) {x x':Value} {n k size:Nat} {l:List Value} (hx:AO ρ x x') (hn:dD x=some n) (hk:k≤n) (h:HE x k size W=some l) :
  ∃ l':Array Value,(∀ d,(Builtin.firstCells size k x').run P { w with drawn:=d }=.ok l' { w with drawn:=d })∧Aq ρ l l'.toList∧∀ w:World,(Builtin.lenOf x').run P w=.ok n w:=by
 unfold dD at hn
 split at hn
 ·rename_i b m c
  cases hn
  simp only [HE] at h; obtain ⟨l',h1,h2⟩:=K8 hw hx hk h; obtain ⟨b',c',rfl,_⟩:=hx.GA; exact ⟨l',h1,h2,fun _=>rfl⟩
 ·rename_i s
  cases hn
  cases hx
  simp only [HE,cond_eq_ite] at h
  split at h
  ·cases h
   refine ⟨(s.extract 0 k).data.map fun b=>.int .u8 b.toNat,fun d=>rfl,?_,fun _=>rfl⟩
   have:((s.extract 0 k).data.map fun b=>Value.int .u8 b.toNat).toList=C0 ((sb s).take k):=by
    simp [C0,sb,ByteArray.data_extract]
   rw [this]; exact Aq.map (ρ:=ρ) _ (fun b:UInt8=>Value.int .u8 b.toNat) (fun b:UInt8=>Value.int .u8 b.toNat) (fun _ _=>.int _ _)
  ·cases h
 ·cases hn
theorem Aq.Xx:∀ {xs ys:List Value},Aq ρ xs ys→xs.all BN=true→ys.all BN=true
 | [],[],_,_=>rfl
 | x::xs,y::ys,h,hx=>by
  simp only [List.all_cons,Bool.and_eq_true] at hx ⊢; exact ⟨by rw [h.head.one]; exact hx.1,Aq.Xx h.tail hx.2⟩
 | [],_::_,h,_=>by have:=h.1; simp at this
 | _::_,[],h,_=>by have:=h.1; simp at this
theorem AY.kill (h:AY P w0 ρ W w) {i:Nat} {o:Av} (ho:W.obj i=some o):AY P w0 ρ (W.A5 i .dead) w:=by
 have get:∀ j v,(W.A5 i .dead).h.get j=some v→v≠.dead→W.h.get j=some v∧j≠i:=fun j v hv Ly=>by
  simp only [CW.A5,Tr.Bi] at hv
  split at hv
  ·cases hv; exact (Ly rfl).elim
  ·rename_i e; exact ⟨hv,e⟩
 refine ⟨h.TA,?_,?_,?_,h.below⟩
 ·intro j v hv; simp only [CW.A5,Tr.Bi] at hv
  split at hv
  ·rename_i e; subst e; exact h.top j o ho
  ·exact h.top j v hv
 ·intro j v y hv Ly hy; exact h.live j v y (get j v hv Ly).1 Ly hy
 ·intro j k u v y z hu kZ hv Ly hy hz lP; exact h.inj j k u v y z (get j u hu (Av.IK kZ)).1 kZ (get k v hv (Av.IK Ly)).1 Ly hy hz lP
theorem AY.rename (h:AY P w0 ρ W w) {i:Nat} {o u:Av} {u':Obj} {x y:Info} (ho:W.obj i=some o) (hd:o.mut=true) (hx:ρ i=some x) (hb:y.b=x.b)
  (hr:HU P (fun i=>if i=W.sz then some y else ρ i) y u u') (hm:u.mut=true:=by rfl) :
  Dw W ρ ((W.A5 i .dead).new u) (fun i=>if i=W.sz then some y else ρ i)∧AY P w0 (fun i=>if i=W.sz then some y else ρ i) ((W.A5 i .dead).new u) { w with heap:=w.heap.setIfInBounds x.b u' }:=by
 obtain ⟨o',HV,_,cT,_⟩:=h.live i o x ho (Av.IK hd) hx; have cT:=cT hd; have Au:=(Array.getElem?_eq_some_iff.1 HV).1; have hi:=h.top i o ho
 have C_:Ext ρ (fun i=>if i=W.sz then some y else ρ i):=fun j z hz=>by
  have:=h.TA j z hz; show (if j=W.sz then some y else ρ j)=some z; rw [if_neg (by omega)]; exact hz
 have get:∀ j v,((W.A5 i .dead).new u).h.get j=some v→v≠.dead→(j=W.sz∧v=u)∨(j≠W.sz∧j≠i∧W.h.get j=some v):=fun j v hv Ly=>by
  simp only [CW.new,CW.A5,Tr.Bi] at hv
  split at hv
  ·rename_i e; cases hv; exact .inl ⟨e,rfl⟩
  ·rename_i e
   split at hv
   ·cases hv; exact (Ly rfl).elim
   ·rename_i e2; exact .inr ⟨e,e2,hv⟩
 refine ⟨⟨C_,fun j hj=>by show (if j=W.sz then some y else ρ j)=ρ j; rw [if_neg (by omega)],Nat.le_succ _⟩,?_,?_,?_,?_,?_⟩
 ·intro j z hz; show j<W.sz+1
  by_cases e:j=W.sz
  ·omega
  ·have:ρ j=some z:=by simpa [e] using hz
   have:=h.TA j z this; omega
 ·intro j v hv; show j<W.sz+1; simp only [CW.new,CW.A5,Tr.Bi] at hv
  split at hv
  ·rename_i e; have e:j=W.sz:=e; omega
  ·split at hv
   ·omega
   ·have:=h.top j v hv; omega
 ·intro j v z hv Ly hz
  rcases get j v hv Ly with ⟨rfl,rfl⟩ | ⟨e1,e2,hg⟩
  ·have hz:some y=some z:=by simpa using hz
   cases hz
   refine ⟨u',?_,hr,fun _=>by rw [hb]; exact cT,fun hf=>by rw [hm] at hf; cases hf⟩; show (w.heap.setIfInBounds x.b u')[y.b]?=_; rw [hb]; simp [Au]
  ·have hz:ρ j=some z:=by simpa [e1] using hz
   obtain ⟨v',Gw,pj,kb⟩:=h.live j v z hg Ly hz; refine ⟨v',?_,pj.mono C_,kb⟩
   have Dm:x.b≠z.b:=fun Nd=>by
    cases ZN:v.mut with
    | true=>exact e2 (h.inj j i v o z x hg ZN ho hd hz hx Nd.symm)
    | false=>have:=kb.2 ZN; omega
   show (w.heap.setIfInBounds x.b u')[z.b]?=_; rw [Array.getElem?_setIfInBounds_ne Dm]; exact Gw
 ·intro j k v v' z z' hv Ly Gw ZO hz zq Ky
  rcases get j v hv (Av.IK Ly) with ⟨rfl,rfl⟩ | ⟨e1,e2,hg⟩ <;> rcases get k v' Gw (Av.IK ZO) with ⟨rfl,rfl⟩ | ⟨f1,f2,hg'⟩
  ·rfl
  ·simp only [if_true,Option.some.injEq] at hz; simp only [if_neg f1] at zq; subst hz; exact (f2 (h.inj k i v' o z' x hg' ZO ho hd zq hx (by rw [←Ky,hb]))).elim
  ·simp only [if_true,Option.some.injEq] at zq; simp only [if_neg e1] at hz; subst zq; exact (e2 (h.inj j i v o z x hg Ly ho hd hz hx (by rw [Ky,hb]))).elim
  ·simp only [if_neg e1] at hz; simp only [if_neg f1] at zq; exact h.inj j k v v' z z' hg Ly hg' ZO hz zq Ky
 ·exact ⟨h.below.os,h.below.tape,h.below.output,by show w0.heap.size≤(w.heap.setIfInBounds x.b u').size; rw [Array.size_setIfInBounds]; exact h.below.size,fun k hk=>by
   show (w.heap.setIfInBounds x.b u')[k]?=_
   rw [Array.getElem?_setIfInBounds_ne (by omega)]; exact h.below.block k hk⟩
theorem WS (m:Nat):∀ (r c:Nat),c≤m+m / 4+200→Builtin.growBy m r c≤m+m / 4+200
 | 0,c,h=>h
 | r+1,c,h=>by
  rw [Builtin.growBy]
  split
  ·exact h
  ·exact WS m r _ (by omega)
theorem nextslicecap_le (m c:Nat) (h:c<m):Builtin.nextslicecap m c≤2*m+200:=by
 unfold Builtin.nextslicecap
 split
 ·omega
 ·split
  ·omega
  ·have:=WS m 4 c (by omega); omega
theorem dS (w:World) {ts:Array TypeId} {t u ty:TypeId} {elem:TypeId} {size:Nat} {z:Value} {info:TypeInfo} {base:Option Addr} {sLen sCap n:Nat} {x:Value} {news:Array Value}
  (h0:ts[0]?=some t) (h1:ts[1]?=some u) (hu:HF P u=true) (ht:P.underlying t=some (.slice elem)) (hs:DM P elem=some size) (hz:Gm P elem=some z)
  (hi:P.info? elem=some info) (hb:info.bytes≤1024) (hn:sLen+n≤1000000)
  (GQ:∀ d,(Builtin.firstCells size n x).run P { w with drawn:=d }=.ok news { w with drawn:=d }) (hlen:∀ w:World,(Builtin.lenOf x).run P w=.ok n w) :
  (sLen+n≤sCap→(Builtin.append_ ts ty #[.slice base sLen sCap,x]).run P w =
   (do
       if let some a:=base then storeCells (a.add (sLen*size)) news.toList
       pure (.slice base (sLen+n) sCap):Sem Value).run P w) ∧
  (sCap<sLen+n→∀ old:Array Value,(∀ d,(Builtin.firstCells size sLen (.slice base sLen sCap)).run P { w with drawn:=d }=.ok old { w with drawn:=d }) →
   ∃ nc d,sLen+n≤nc∧(Builtin.append_ ts ty #[.slice base sLen sCap,x]).run P w =
    .ok (.slice (some ⟨w.heap.size,0,none⟩) (sLen+n) nc) { w with drawn:=d,heap:=w.heap.push (.cells (old++news++Builtin.zeroCells z.cells (nc-(sLen+n))) elem) }):=by
 refine ⟨fun hle=>?_,fun Au old hold=>?_⟩
 ·cases hd:P.underlying u with
  | none=>simp [HF,hd] at hu
  | some d =>
   cases d <;> first | (simp [HF,hd] at hu; done) | skip
   all_goals
    simp only [Builtin.append_,h0,h1,List.getElem?_toArray,List.getElem?_cons_zero,List.getElem?_cons_succ,Sem.run_bind,AD ht,AD hd,Result.andThen_ok,BJ hs,Sem.run_pure,Bool.false_eq_true,if_false,hlen,if_pos hle,Bool.not_false,if_true,GQ w.drawn]
    cases base <;> rfl
 ·have zr:Builtin.nextslicecap (sLen+n) sCap*info.bytes≤2 ^ 48:=by
   have h2:=nextslicecap_le (sLen+n) sCap Au
   calc Builtin.nextslicecap (sLen+n) sCap*info.bytes≤2000200*1024:=Nat.mul_le_mul (by omega) hb
    _≤2 ^ 48:=by decide
  refine ⟨sLen+n+(w.tape w.drawn (.appendCap (sLen+n) sCap elem)) % (2 ^ 63-(sLen+n)),w.drawn+1,by omega,?_⟩
  have Ty:¬((sLen+n:Nat):Int)>IntKind.i64.max:=by
   have:IntKind.i64.max=9223372036854775807:=by decide
   omega
  have Zf:¬Builtin.nextslicecap (sLen+n) sCap*info.bytes>2 ^ 48:=by omega
  cases hd:P.underlying u with
  | none=>simp [HF,hd] at hu
  | some d =>
   cases d <;> first | (simp [HF,hd] at hu; done) | skip
   all_goals
    simp only [Builtin.append_,h0,h1,List.getElem?_toArray,List.getElem?_cons_zero,List.getElem?_cons_succ,Sem.run_bind,AD ht,AD hd,Result.andThen_ok,BJ hs,Sem.run_pure,Bool.false_eq_true,if_false,hlen,if_neg (Nat.not_le.2 Au),Bool.not_false,if_true,G' hi,Ty,false_and,Zf,run_choose,Question.forced,run_askRoom,Question.cut,Bd hz]; have e1:=hold (w.drawn+1); have e2:=GQ (w.drawn+1); simp only [e1,e2,Result.andThen_ok,Bd hz,newRow,Sem.run_bind,run_newObj,Sem.run_pure]
theorem SH {old news:List Value} {old' EZ rest:Array Value} (h1:Aq ρ old old'.toList) (h2:Aq ρ news EZ.toList) (k:Nat) (hk:k<old.length+news.length) :
  AO ρ (cellAt (Tr.nil.Ag 0 (old++news)) #[] k) ((old'++EZ++rest).getD (k+0) undef):=by
 rw [DA _ _ _ (by simpa using hk)]; have h:=(h1.append h2).2 k (by simpa using hk); have hl:=(h1.append h2).1; have hk':k<(old'.toList++EZ.toList).length:=by rw [←hl]; simpa using hk
 rw [List.getD_eq_getElem?_getD (l:=old'.toList++EZ.toList)] at h
 have e:(old'++EZ++rest).getD (k+0) undef=((old'.toList++EZ.toList)[k]?).getD undef:=by
  rw [Array.getD_eq_getD_getElem?,←Array.getElem?_toList]; simp only [Array.toList_append,Nat.add_zero]; rw [List.getElem?_append_left hk']
 rw [e]; exact h
theorem MF (z:Array Value) (n:Nat):(Builtin.zeroCells z n).size=n*z.size:=by simp [Builtin.zeroCells]
theorem Vp (hw:AY P w0 ρ W w) {ts:Array TypeId} {t u ty:TypeId} {s s' x x' v:Value} {W1:CW} (h0:ts[0]?=some t) (h1:ts[1]?=some u) (hu:HF P u=true)
  (h:GM P t s x W=some (v,W1)) (hs:AO ρ s s') (hx:AO ρ x x') :
  ∃ v' w' ρ',Dw W ρ W1 ρ'∧(Builtin.append_ ts ty #[s',x']).run P w=.ok v' w'∧AO ρ' v v'∧AY P w0 ρ' W1 w':=by
 unfold GM at h
 split at h
 ·rename_i elem base sLen sCap n ht ik; obtain ⟨size,Gp,h'⟩:=Aa h; clear h; obtain ⟨z,Ky,h⟩:=Aa h'; clear h'; obtain ⟨news,GQ,h'⟩:=Aa h; clear h; have h:=h'; clear h'; rw [cond_eq_ite] at h; split at h
  rotate_left
  ·cases h
  rename_i BQ; simp only [Bool.and_eq_true] at BQ; obtain ⟨⟨⟨⟨⟨c1,c2⟩,c3⟩,c4⟩,c5⟩,c6⟩:=BQ; have c2:=Nat.eq_of_beq_eq_true c2; have c3:0<size:=by have:=Nat.le_of_ble_eq_true c3; omega
  have c4:=Nat.eq_of_beq_eq_true c4; have c5:=Nat.le_of_ble_eq_true c5; have c6:=Nat.le_of_ble_eq_true c6
  obtain ⟨info,ZV⟩:∃ i,P.info? elem=some i:=by
   unfold DM at Gp
   cases hi:P.info? elem with
   | none=>simp [hi] at Gp
   | some i=>exact ⟨i,rfl⟩
  have hb:info.bytes≤1024:=by simpa [ZV] using c6
  have N8:(P.info? elem).map (·.size)=some size:=Gp; obtain ⟨EZ,Vq,CA,AAP⟩:=WR hw hx ik (Nat.le_refl n) GQ; have qY:=hs; obtain ⟨Nf,Hn,rfl,BA⟩:=hs.GA; obtain ⟨R1,R2⟩:=dS (P:=P) (ty:=ty) (base:=Nf) (sLen:=sLen) (sCap:=Hn) w h0 h1 hu ht Gp Ky ZV hb c5 Vq AAP; have tH:EZ.size=n*size:=by have:=CA.1; simp at this; omega
  have Zf:sCap≤Hn:=by
   rcases BA with ⟨_,_,h⟩ | ⟨b,b',_,_,⟨_,h⟩ | ⟨_,h,_⟩ | ⟨_,h,_⟩⟩
   ·omega
   ·rcases h with h | ⟨_,_,_,_,_,h⟩ <;> omega
   ·omega
   ·omega
  rw [cond_eq_ite] at h
  split at h
  ·rename_i hle; have hle:=Nat.le_of_ble_eq_true hle; have R1:=R1 (by omega); rw [cond_eq_ite] at h
   split at h
   ·rename_i SI; have SI:n=0:=Nat.eq_of_beq_eq_true SI; subst SI; simp only [Option.some.injEq,Prod.mk.injEq] at h; obtain ⟨rfl,rfl⟩:=h; refine ⟨.slice Nf sLen Hn,w,ρ,.refl _,?_,qY,hw⟩; rw [R1]
    have:EZ.toList=[]:=by
     have:EZ.size=0:=by omega
     simpa using this
    rw [this]
    cases Nf <;> simp [storeCells]
   ·rename_i SI; have SI:n≠0:=fun h=>SI (by rw [h]; rfl)
    rcases BA with ⟨rfl,rfl,rfl⟩ | ⟨b,b',rfl,rfl,BA⟩
    ·simp only [Option.some.injEq,Prod.mk.injEq] at h; obtain ⟨rfl,rfl⟩:=h; exact ⟨.slice none (sLen+n) Hn,w,ρ,.refl _,by rw [R1]; simp,.ZL _ _,hw⟩
    ·rcases BA with ⟨ha,hc⟩ | ⟨_,h0',_⟩ | ⟨_,h0',_⟩
     ·simp only at h
      split at h
      ·rename_i c m zz e Bb; rw [cond_eq_ite] at h
       split at h
       ·rename_i qZ; have qZ:=Nat.le_of_ble_eq_true qZ; simp only [Option.some.injEq,Prod.mk.injEq] at h; obtain ⟨rfl,rfl⟩:=h; obtain ⟨x,Zg,fr,Vr,rfl,Y7,dH,hr,hn,dT,dI,_,EY⟩:=hw.cells ha Bb; have FI:=hw.A5 Bb rfl Vr (hr.write (vs:=news) (vs':=EZ.toList) CA (k:=b.off+sLen*size) (by omega)); refine ⟨_,_,ρ,.refl _,?_,.slice _ ha hc,FI⟩; rw [R1]; simp only [Sem.run_bind,L9]; rw [Ew (P:=P) (b.off+x.o+sLen*size) EZ.toList 0 w Zg Y7 dH (by simp; omega) (CA.Xx c1)]; simp only [Result.andThen_ok,Sem.run_pure,Nat.add_zero]; have:b.off+x.o+sLen*size=b.off+sLen*size+x.o:=by omega
        rw [this]
       ·cases h
      ·cases h
     ·omega
     ·omega
  ·rename_i hle
   have hle:sCap<sLen+n:=by
    have:¬sLen+n≤sCap:=fun hh=>hle (Nat.ble_eq_true_of_le hh); omega
   have Xy:sLen=0→(∀ d,(Builtin.firstCells size sLen (.slice Nf sLen Hn)).run P { w with drawn:=d }=.ok #[] { w with drawn:=d })→Hn<sLen+n →
     v=.slice (some ⟨W.sz,0,none⟩) (sLen+n) (sLen+n)→W1=W.new (.cells (Tr.nil.Ag 0 news) ((sLen+n)*size) #[] elem) →
     ∃ v' w' ρ',Dw W ρ W1 ρ'∧(Builtin.append_ ts ty #[.slice Nf sLen Hn,x']).run P w=.ok v' w'∧AO ρ' v v'∧AY P w0 ρ' W1 w':=by
    intro TB hold Au hv hW; subst hv hW TB; obtain ⟨nc,d,zr,HX⟩:=R2 Au #[] hold; have Dz:=hw.drew d
    have vB:((#[]:Array Value)++EZ++Builtin.zeroCells z.cells (nc-(0+n))).size=nc*size:=by
     simp only [Array.size_append,MF,tH,c4,List.size_toArray,List.length_nil]; obtain ⟨k,rfl⟩:∃ k,nc=0+n+k:=⟨nc-(0+n),by omega⟩
     have:0+n+k-(0+n)=k:=by omega
     rw [this,Nat.add_mul,Nat.zero_add n]; omega
    have C_:Ext ρ (fun i=>if i=W.sz then some ⟨w.heap.size,0,size,(0+n)*size,nc*size⟩ else ρ i):=fun i y hy=>by
     have:=hw.TA i y hy; show (if i=W.sz then _ else ρ i)=some y; rw [if_neg (by omega)]; exact hy
    obtain ⟨hg,FI⟩:=Dz.new (o:=.cells (Tr.nil.Ag 0 news) ((0+n)*size) #[] elem) (o':=.cells (#[]++EZ++Builtin.zeroCells z.cells (nc-(0+n))) elem (0,0))
     ⟨w.heap.size,0,size,(0+n)*size,nc*size⟩ rfl (by
      refine .cells N8 vB ?_ (fun k hk=>?_) ⟨NF.zero _,fun h=>(h rfl).elim⟩
      ·simp only [Nat.zero_add]; exact Nat.mul_le_mul_right _ (by omega)
      ·have:=SH (ρ:=ρ) (old:=[]) (old':=#[]) (rest:=Builtin.zeroCells z.cells (nc-(0+n))) (.nil _) CA k (by simp [c2]; simpa using hk)
       exact this.mono C_)
    refine ⟨_,_,_,hg,HX,?_,FI⟩; refine .slice _ ⟨rfl,⟨w.heap.size,0,size,(0+n)*size,nc*size⟩,by simp,by simp⟩ (.inr ⟨⟨w.heap.size,0,size,(0+n)*size,nc*size⟩,by simp,c3,by simp,by simp,zr⟩)
   rcases BA with ⟨rfl,rfl,rfl⟩ | ⟨b,b',rfl,rfl,BA⟩
   ·simp only [cond_eq_ite] at h
    split at h
    ·rename_i TB; have TB:=Nat.eq_of_beq_eq_true TB; simp only [Option.some.injEq,Prod.mk.injEq] at h; obtain ⟨hv,hW⟩:=h; exact Xy TB (fun _=>rfl) (by omega) hv.symm hW.symm
    ·cases h
   ·simp only [cond_eq_ite] at h
    split at h
    ·rename_i Gz
     split at h
     ·rename_i TB; simp only [Bool.and_eq_true] at TB; have Vs:=Nat.eq_of_beq_eq_true TB.1; have cW:=Nat.eq_of_beq_eq_true TB.2; simp only [Option.some.injEq,Prod.mk.injEq] at h; obtain ⟨hv,hW⟩:=h
      have zp:Hn=0:=by
       rcases BA with ⟨ha,_⟩ | ⟨_,_,hq,_⟩ | ⟨_,_,h1,_⟩
       ·rw [ha.1] at Gz; cases Gz
       ·rw [hq] at Gz; cases Gz
       ·exact h1
      refine Xy Vs (fun d=>?_) (by omega) hv.symm hW.symm; rw [Vs]; simp only [Builtin.firstCells,Nat.zero_mul]; exact ME _ _
     ·cases h
    rename_i Gz
    have BA:(K5 ρ b b'∧QM ρ b sCap Hn)∨(sLen=0∧sCap=0∧∃ x,ρ b.block=some x∧b'.block=x.b∧b'.spot=none∧(Hn=0∨(0<x.sz∧b'.off+Hn*x.sz=x.n'))):=by
     rcases BA with h1 | ⟨h1,h2,_,h3⟩ | ⟨_,_,_,h1⟩
     ·exact .inl h1
     ·exact .inr ⟨h1,h2,h3⟩
     ·rw [h1] at Gz; exact (Gz rfl).elim
    clear Xy; split at h
    rotate_left
    ·cases h
    rename_i c m zz e Bb; split at h
    rotate_left
    ·cases h
    rename_i BQ; simp only [Bool.and_eq_true] at BQ; have qZ:=Nat.le_of_ble_eq_true BQ.1; have hee:=Nat.eq_of_beq_eq_true BQ.2; subst hee; simp only [Option.some.injEq,Prod.mk.injEq] at h; obtain ⟨rfl,rfl⟩:=h
    obtain ⟨x,Zg,q,fr,Vr,hq,Y7,dH,hr,dT,Ss,MB⟩:∃ x Zg q fr,ρ b.block=some x∧b'=⟨x.b,q,none⟩∧w.heap[x.b]?=some (.cells Zg e fr)∧NF fr Zg.size∧HU P ρ x (.cells c m zz e) (.cells Zg e fr)∧Zg.size=x.n' ∧
      (Hn=sCap∨(x.sz=size∧q+Hn*size=x.n'))∧(∀ k,k<sLen*size→AO ρ (cellAt c zz (b.off+k)) (Zg.getD (q+k) undef)):=by
     rcases BA with ⟨ha,hc⟩ | ⟨TB,zp,x,Vr,WT,Nd,hc⟩
     ·obtain ⟨x,Zg,fr,Vr,rfl,Y7,dH,hr,hn,dT,dI,he,EY⟩:=hw.cells ha Bb
      refine ⟨x,Zg,b.off+x.o,fr,Vr,rfl,Y7,dH,hr,dT,?_,fun k hk=>?_⟩
      ·rcases hc with hc | ⟨y,hy,_,_,h2,_⟩
       ·exact .inl hc
       ·rw [Vr] at hy; cases hy; have:=Xo Gp he; rw [this] at h2; exact .inr ⟨this,h2⟩
      ·have:=EY (b.off+k) (by omega); have e1:b.off+k+x.o=b.off+x.o+k:=by omega
       rwa [e1] at this
     ·obtain ⟨o',HV,hr⟩:=hw.obj Bb (by simp) Vr rfl
      cases hr with
      | cells he cW dI EY hq =>
       refine ⟨x,_,b'.off,_,Vr,?_,HV,hq.1,.cells he cW dI EY hq,cW,?_,fun k hk=>?_⟩
       ·cases b'; simp_all
       ·rcases hc with hc | ⟨_,hc⟩
        ·left; omega
        ·have:=Xo Gp he; rw [this] at hc; exact .inr ⟨this,hc⟩
       ·rw [TB] at hk; omega
    subst hq
    by_cases Mx:sLen+n≤Hn
    ·have Ss:=Ss.resolve_left (by omega); have R1:=R1 Mx
     have AAQ:q+(sLen+n)*size≤x.n':=by
      have:=Nat.mul_le_mul_right size Mx; omega
     have hmul:(sLen+n)*size=sLen*size+n*size:=Nat.add_mul _ _ _; have gL:news.length=EZ.toList.length:=CA.1
     have C_:Ext ρ (fun i=>if i=W.sz then some ⟨x.b,q,size,(sLen+n)*size,x.n'⟩ else ρ i):=fun i y hy=>by
      have:=hw.TA i y hy; show (if i=W.sz then _ else ρ i)=some y; rw [if_neg (by omega)]; exact hy
     obtain ⟨hg,FI⟩:=hw.rename (u:=.cells (Tr.nil.Ag 0 (BX c zz (sLen*size) b.off++news)) ((sLen+n)*size) #[] e) (u':=.cells (Fv Zg (q+sLen*size) EZ.toList) e fr)
      (y:=⟨x.b,q,size,(sLen+n)*size,x.n'⟩) Bb rfl Vr rfl (by
       refine .cells N8 (by rw [GP]; exact dT) AAQ (fun k hk=>?_) ⟨by rw [GP]; exact dH,fun h=>(h rfl).elim⟩; have hk:k<(sLen+n)*size:=hk; refine AO.mono (ρ:=ρ) ?_ C_; rw [DA _ _ _ (by simp [A3,c2]; omega),R9 _ _ _ _ (by rw [←gL]; omega)]; rw [←gL]; show AO ρ _ (if q+sLen*size≤k+q∧k+q<q+sLen*size+news.length then EZ.toList.getD (k+q-(q+sLen*size)) undef else Zg.getD (k+q) undef)
       by_cases kf:k<sLen*size
       ·rw [if_neg (by omega)]; rw [List.getD_eq_getElem?_getD,List.getElem?_append_left (by rw [A3]; exact kf),←List.getD_eq_getElem?_getD,Fo _ _ _ _ _ kf,Nat.add_comm k q]; exact MB k kf
       ·rw [if_pos (by omega)]; rw [List.getD_eq_getElem?_getD,List.getElem?_append_right (by rw [A3]; omega),←List.getD_eq_getElem?_getD,A3]; have e1:k+q-(q+sLen*size)=k-sLen*size:=by omega
        rw [e1]
        exact CA.2 _ (by omega))
     refine ⟨.slice (some ⟨x.b,q,none⟩) (sLen+n) Hn,_,_,hg,?_,?_,FI⟩
     ·rw [R1]; simp only [Sem.run_bind,L9]; rw [Ew (P:=P) (q+sLen*size) EZ.toList 0 w Zg Y7 dH (by rw [←gL]; omega) (CA.Xx c1)]; simp only [Result.andThen_ok,Sem.run_pure,Nat.add_zero]
     ·refine .slice _ ⟨rfl,⟨x.b,q,size,(sLen+n)*size,x.n'⟩,by simp,by simp⟩ (.inr ⟨⟨x.b,q,size,(sLen+n)*size,x.n'⟩,by simp,c3,by simp,?_,Mx⟩); show 0+q+Hn*size=x.n'; omega
    ·have hN:EI (some b) (sLen*size) W=some (BX c zz (sLen*size) b.off):=by
      simp only [EI,Bb,cond_eq_ite]; rw [if_pos (Nat.ble_eq_true_of_le qZ)]
      split
      ·rename_i h0; rw [Nat.eq_of_beq_eq_true h0]; rfl
      ·rfl
     obtain ⟨old',HV,WQ⟩:=K8 hw qY (Nat.le_refl sLen) hN; obtain ⟨nc,d,zr,HX⟩:=R2 (by omega) old' HV; have Dz:=(hw.kill Bb).drew d; have dU:old'.size=sLen*size:=by have:=WQ.1; rw [A3] at this; simpa using this.symm
     have vB:(old'++EZ++Builtin.zeroCells z.cells (nc-(sLen+n))).size=nc*size:=by
      simp only [Array.size_append,MF,tH,c4,dU]; obtain ⟨k,rfl⟩:∃ k,nc=sLen+n+k:=⟨nc-(sLen+n),by omega⟩
      have:sLen+n+k-(sLen+n)=k:=by omega
      rw [this,Nat.add_mul,Nat.add_mul]
     have C_:Ext ρ (fun i=>if i=W.sz then some ⟨w.heap.size,0,size,(sLen+n)*size,nc*size⟩ else ρ i):=fun i y hy=>by
      have:=hw.TA i y hy; show (if i=W.sz then _ else ρ i)=some y; rw [if_neg (by omega)]; exact hy
     obtain ⟨hg,FI⟩:=Dz.new (o:=.cells (Tr.nil.Ag 0 (BX c zz (sLen*size) b.off++news)) ((sLen+n)*size) #[] e) (o':=.cells (old'++EZ++Builtin.zeroCells z.cells (nc-(sLen+n))) e (0,0))
      ⟨w.heap.size,0,size,(sLen+n)*size,nc*size⟩ rfl (by
       refine .cells N8 vB ?_ (fun k hk=>?_) ⟨NF.zero _,fun h=>(h rfl).elim⟩
       ·simp only [Nat.zero_add]; exact Nat.mul_le_mul_right _ (by omega)
       ·have hk:k<(sLen+n)*size:=hk; rw [Nat.add_mul] at hk
        exact (SH (ρ:=ρ) WQ CA k (by rw [A3]; omega)).mono C_)
     refine ⟨_,_,_,hg,HX,?_,FI⟩
     refine .slice _ ⟨rfl,⟨w.heap.size,0,size,(sLen+n)*size,nc*size⟩,?_,by simp⟩ (.inr ⟨⟨w.heap.size,0,size,(sLen+n)*size,nc*size⟩,?_,c3,by simp,by simp,zr⟩)
     ·show (if W.sz=W.sz then _ else _)=_; rw [if_pos rfl]
     ·show (if W.sz=W.sz then _ else _)=_; rw [if_pos rfl]
 ·cases h
end
end Go.Ce
namespace Go.Ce
open Go.RowKit (Below)
section
variable {P:Program} {w0:World} {ρ:Bn} {W:CW} {w:World} {o:Oper} {e e':Operand→Value} {outs:List (Ba × CW)}
theorem Vt (hz:ZP P) {f:FuncId} {as:List Value} {as':Array Value} {v:Value} {W1:CW} (h:JD P f as W=some (v,W1)) (hw:AY P w0 ρ W w) (ha:Aq ρ as as'.toList) :
  ∃ v' w' ρ',(callFunc f as').run P w=.ok (.value v') w'∧Dw W ρ W1 ρ'∧AO ρ' v v'∧AY P w0 ρ' W1 w':=by
 unfold JD at h; split at h
 rotate_left
 ·cases h
 rename_i fn Xu; rw [cond_eq_ite] at h; split at h
 rotate_left
 ·cases h
 rename_i hb; rw [cond_eq_ite] at h; split at h
 rotate_left
 ·cases h
 rename_i hn; split at h
 rotate_left
 ·cases h
 rename_i t r; split at h
 rotate_left
 ·cases h
 rename_i es EC Bb
 cases h
 obtain ⟨y,hy,hv⟩:=ha.get (i:=0) (x:=.iface t (.map (some r))) rfl
 have hl:as'=#[y]:=by
  have h1:=ha.1; apply Array.ext'
  cases hq:as'.toList with
  | nil=>rw [hq] at h1; cases h1
  | cons z l =>
   rw [hq] at h1 hy; have:l=[]:=by simpa using h1.symm
   subst this
   simpa using hy
 subst hl
 cases hv with
 | iface _ hv =>
  cases hv with
  | @map _ r' cX =>
   obtain ⟨x,hx,rfl⟩:=cX; obtain ⟨o',HV,hr⟩:=hw.obj Bb (by simp) hx rfl
   cases hr with
   | @map _ CG _ h1 h2 =>
    have C_:Ext ρ (fun i=>if i=W.sz then some ⟨w.heap.size,0,0,0,0⟩ else ρ i):=fun i y hy=>by
     have:=hw.TA i y hy; show (if i=W.sz then _ else ρ i)=some y; rw [if_neg (by omega)]; exact hy
    obtain ⟨hg,Gq⟩:=hw.new (o:=.map es EC) (o':=.map CG EC) ⟨w.heap.size,0,0,0,0⟩ rfl (.map rfl (h2.mono C_))
    have HX:(Extern.MapsClone.clone #[.iface t (.map (some x.b))]).run P w=.ok (.iface t (.map (some w.heap.size))) { w with heap:=w.heap.push (.map CG EC) }:=by
     have e1:Extern.MapsClone.clone #[.iface t (.map (some x.b))]=(getObj x.b >>= fun o=>match o with
       | .map entries clock=>(newObj (.map entries clock) >>= fun n=>pure (.iface t (.map (some n))))
       | _=>stuck "maps.clone: a map expected"):=rfl
     have hgo:(getObj x.b).run P w=.ok (.map CG EC) w:=At HV (by simp); rw [e1]; simp only [Sem.run_bind,hgo,Result.andThen_ok,run_newObj,Sem.run_pure]
    exact ⟨_,_,_,hz.2 f fn Xu hb hn _ _ _ _ HX,hg,.iface _ (.map ⟨⟨w.heap.size,0,0,0,0⟩,by simp,rfl⟩),Gq⟩
theorem Xz (hz:ZP P) {c:Call} {f:Operand} (ho:o.op=.call c) (hf:c.callee=.value f) (h:BP P o e W=some outs) (hw:AY P w0 ρ W w) (hx:AO ρ (e f) (e' f))
  (ha:∀ x,x ∈ c.args.toList→AO ρ (e x) (e' x)):A9 P w0 ρ W ((execOp e' o).run P w) outs:=by
 simp only [BP,ho,hf] at h; have C3:Aq ρ (c.args.toList.map e) (c.args.map e').toList:=by simpa using Aq.map (ρ:=ρ) c.args.toList e e' ha
 generalize hn:Hm (e f) (c.args.toList.map e)=n at h; unfold Hm at hn
 split at hn
 ·rename_i fn first cap hc; rw [hc] at hx; generalize QB:e' f=SA at hx
  cases hx with
  | @func _ f' _ x' _ y' Xu h1 h2 h3 h4 =>
   cases Xu
   have hA:Aq ρ (first.toList++c.args.toList.map e++cap.toList) (x'++c.args.map e'++y').toList:=by
    have e1:=Aq.arr.2 ⟨h1,h2⟩; have e2:=Aq.arr.2 ⟨h3,h4⟩
    simpa using (e1.append C3).append e2
   have hE:(execOp e' o).run P w=(callFunc fn (x'++c.args.map e'++y')).run P w:=by
    simp only [execOp,ho,resolve,hf,QB,Deferred.ofValue,Sem.run_bind,Sem.run_pure,Result.andThen_ok,invoke]
   subst hn; simp only at h
   split at h
   ·rename_i v W1 C_
    cases h
    obtain ⟨v',w',ρ',HX,hg,hv,Gq⟩:=Vt hz C_ hw hA; exact ⟨_,_,ρ',List.mem_singleton.2 rfl,hg,.value (w:=w') (by rw [hE,HX]) hv Gq⟩
   ·cases h
    exact ⟨_,_,ρ,List.mem_singleton.2 rfl,.refl _,.enter (args':=x'++c.args.map e'++y') (w:=w) hE hA hw⟩
 ·rename_i l first cap hc; subst hn
  cases h
  rw [hc] at hx; generalize QB:e' f=SA at hx
  cases hx with
  | @func _ f' _ x' _ y' Xu h1 h2 h3 h4 =>
   cases Xu with
   | yield hb =>
    refine ⟨_,_,ρ,List.mem_singleton.2 rfl,.refl _,.round (args':=x'++c.args.map e') (w:=w) ?_ hb ?_ hw⟩
    ·simp only [execOp,ho,resolve,hf,QB,Deferred.ofValue,Sem.run_bind,Sem.run_pure,Result.andThen_ok,invoke]
    ·have e1:=Aq.arr.2 ⟨h1,h2⟩
     simpa using e1.append C3
 ·subst hn
  cases h
theorem Ng:∀ {l:List Value} {m:List UInt8},FG l=some m→m.length=l.length∧∀ l',Aq ρ l l'→∃ ns:List Int,l'=ns.map (Value.int .u8)∧m=ns.map fun n=>UInt8.ofNat n.toNat
 | [],m,h=>by cases h; exact ⟨rfl,fun l' hl=>⟨[],List.length_eq_zero_iff.1 hl.1.symm,rfl⟩⟩
 | v::l,m,h=>by
  unfold FG at h
  split at h
  ·cases ‹_::_=[]›
  ·rename_i n l2 heq
   cases heq
   split at h
   ·rename_i m2 hm
    cases h
    obtain ⟨h1,h2⟩:=Ng hm; refine ⟨by simp [h1],fun l' hl=>?_⟩
    cases l' with
    | nil=>have:=hl.1; simp at this
    | cons y l' =>
     obtain ⟨ns,e1,e2⟩:=h2 l' hl.tail; have hv:=hl.head
     cases hv
     exact ⟨n::ns,by rw [e1]; rfl,by rw [e2]; rfl⟩
   ·cases h
  ·cases h
theorem dV (hw:AY P w0 ρ W w) {s d el:TypeId} {x x' v:Value} (hs:P.underlying s=some (.slice el)) (hd:P.underlying d=some .string) (h:dE P el x W=some v) (hx:AO ρ x x') :
  (convert s d x').run P w=.ok v w∧AO ρ v v:=by
 unfold dE at h; split at h
 rotate_left
 ·cases h
 rename_i b n c N8; obtain ⟨l,hl,h⟩:=Aa h; obtain ⟨m,hm,h⟩:=Aa h
 cases h
 refine ⟨?_,.string _⟩; obtain ⟨b',c',rfl,BA⟩:=hx.GA; rw [run_convert_bytes_string w s d el b' n c' hs N8 hd]; have Vm:EI b (n*1) W=some l:=by rw [Nat.mul_one]; exact hl
 obtain ⟨l',hr,CA⟩:=K8 hw hx (Nat.le_refl n) Vm; obtain ⟨_,hb⟩:=Ng (ρ:=ρ) hm; obtain ⟨ns,e1,e2⟩:=hb _ CA
 rcases BA with ⟨rfl,rfl,_⟩ | ⟨a,a',rfl,rfl,_⟩
 ·have KA:l=[]:=by cases hl; rfl
  subst KA
  cases hm
  simp [Conv.bytesToString]; rfl
 ·have hr:=hr w.drawn; simp only [Builtin.firstCells,Nat.mul_one] at hr; have e3:l'=(ns.map (Value.int .u8)).toArray:=by apply Array.ext'; rw [e1]
  rw [e3] at hr; rw [run_bytesToString w a' n c' ns hr,foldl_push_bytes,e2]; simp
theorem dW (hw:AY P w0 ρ W w) {s d el:TypeId} {b:ByteArray} {v:Value} {W1:CW} (hs:P.underlying s=some .string) (hd:P.underlying d=some (.slice el)) (h:qL P el b W=some (v,W1)) :
  ∃ v' w' ρ',(convert s d (.string b)).run P w=.ok v' w'∧Dw W ρ W1 ρ'∧AO ρ' v v'∧AY P w0 ρ' W1 w':=by
 unfold qL at h; split at h
 rotate_left
 ·cases h
 rename_i N8 Gp
 cases h
 let cap:=grownCap w b.size 0 el
 have vC:b.size≤cap:=by
  show b.size≤grownCap w b.size 0 el; simp only [grownCap,Question.cut]; omega
 have Dz:=hw.drew (w.drawn+1)
 have C_:Ext ρ (fun i=>if i=W.sz then some ⟨w.heap.size,0,1,b.size,cap⟩ else ρ i):=fun i y hy=>by
  have:=hw.TA i y hy; show (if i=W.sz then _ else ρ i)=some y; rw [if_neg (by omega)]; exact hy
 have hbs:b.data.size=b.size:=rfl
 have mB:(bytesRow b cap).size=cap:=by
  simp [bytesRow,hbs]; omega
 obtain ⟨hg,FI⟩:=Dz.new (o:=.cells (Tr.nil.Ag 0 (C0 (sb b))) b.size #[] el) (o':=.cells (bytesRow b cap) el ((bytesRow b cap).size,(bytesRow b cap).size+1)) ⟨w.heap.size,0,1,b.size,cap⟩ rfl (by
  refine .cells Gp mB (by show 0+b.size≤cap; omega) (fun k hk=>?_) ⟨fun k hk=>by simp; omega,fun h=>(h rfl).elim⟩; have hk:k<b.size:=hk; have kf:k<b.data.size:=hk; have hlen:(C0 (sb b)).length=b.size:=by simp [C0,sb,hbs]
  rw [DA _ _ _ (by omega)]
  have e1:(bytesRow b cap).getD (k+0) undef=.int .u8 b.data[k].toNat:=by
   rw [Array.getD_eq_getD_getElem?,Nat.add_zero,bytesRow,Array.getElem?_append_left (by simpa using kf)]; simp [Array.getElem?_eq_getElem kf]
  have e2:(C0 (sb b)).getD k undef=.int .u8 b.data[k].toNat:=by
   simp [C0,sb,List.getD_eq_getElem?_getD,Array.getElem?_eq_getElem kf]
  rw [e1,e2]
  exact .int _ _)
 refine ⟨.slice (some ⟨w.heap.size,0,none⟩) b.size cap,_,_,?_,hg,.slice _ ⟨rfl,⟨w.heap.size,0,1,b.size,cap⟩,by simp,by simp⟩ (.inr ⟨⟨w.heap.size,0,1,b.size,cap⟩,by simp,by show 0<1; omega,by simp,by simp,vC⟩),FI⟩; exact run_bytes_of_string w s d el b hs hd N8
theorem dX {s d:TypeId} {x:Operand} (ho:o.op=.convert s d x) (h:BP P o e W=some outs) (hw:AY P w0 ρ W w) (hx:AO ρ (e x) (e' x)) :
  A9 P w0 ρ W ((execOp e' o).run P w) outs:=by
 simp only [BP,ho] at h
 split at h
 ·rename_i ud k k0 n hs hd hc
  cases h
  rw [hc] at hx; generalize EY:e' x=SA at hx
  cases hx
  refine .value hw ?_ (.int _ _); simp only [execOp,ho,EY]; refine BD ?_; simp only [convert,Sem.run_bind,AD hs,AD hd,Result.andThen_ok,Conv.intToInt,Sem.run_pure]
 ·rename_i ud s0 hs hd hc
  cases h
  rw [hc] at hx; generalize EY:e' x=SA at hx
  cases hx
  refine .value hw ?_ (.string _); simp only [execOp,ho,EY]; refine BD ?_
  cases ud <;> simp [convert,AD hs,AD hd]
 ·rename_i el s0 hs hd hc; obtain ⟨v,W1,hv,rfl⟩:=Mv h; rw [hc] at hx; generalize EY:e' x=SA at hx
  cases hx
  obtain ⟨v',w',ρ',hr,hg,Vo,Gq⟩:=dW hw hs hd hv; refine ⟨_,_,ρ',List.mem_singleton.2 rfl,hg,.value (w:=w') ?_ Vo Gq⟩; simp only [execOp,ho,EY]; exact BD hr
 ·rename_i el _ hs hd _; obtain ⟨v,hv,rfl⟩:=EK h; obtain ⟨hr,Vo⟩:=dV hw hs hd hv hx; refine .value hw ?_ Vo; simp only [execOp,ho]; exact BD hr
 ·cases h
theorem Zh (hw:AY P w0 ρ W w) {ts:Array TypeId} {t ty:TypeId} {d d' s s' v:Value} {W1:CW} (h0:ts[0]?=some t)
  (h:ZI P t d s W=some (v,W1)) (hd:AO ρ d d') (hs:AO ρ s s'):∃ v' w',(Builtin.copy_ ts ty #[d',s']).run P w=.ok v' w'∧AO ρ v v'∧AY P w0 ρ W1 w':=by
 unfold ZI at h
 split at h
 ·rename_i elem base ZJ AF3 sLen ht ik; obtain ⟨size,Gp,h2⟩:=Aa h; clear h; obtain ⟨news,GQ,h⟩:=Aa h2; clear h2; have ADN:Nat.min sLen ZJ≤sLen:=Nat.min_le_left _ _; obtain ⟨EZ,Vq,CA,hl⟩:=WR hw hs ik ADN GQ; obtain ⟨Nf,AAR,rfl,BA⟩:=hd.GA
  have HX:(Builtin.copy_ ts ty #[.slice Nf ZJ AAR,s']).run P w=(do
      if let some a:=Nf then storeCells a EZ.toList
      pure (goInt (Nat.min sLen ZJ)):Sem Value).run P w:=by
   simp only [Builtin.copy_,h0,List.getElem?_toArray,List.getElem?_cons_zero,List.getElem?_cons_succ,Sem.run_bind,AD ht,Result.andThen_ok,hl,BJ Gp,Vq w.drawn]
   cases Nf <;> rfl
  rw [cond_eq_ite] at h
  split at h
  ·rename_i SI; have SI:=Nat.eq_of_beq_eq_true SI; simp only [Option.some.injEq,Prod.mk.injEq] at h; obtain ⟨rfl,rfl⟩:=h; refine ⟨_,w,?_,.int _ _,hw⟩; rw [HX]
   have KA:EZ.toList=[]:=by
    have hlen:=CA.1
    have:news=[]:=by
     rw [SI] at GQ; unfold HE at GQ
     split at GQ
     ·rw [Nat.zero_mul] at GQ; unfold EI at GQ
      split at GQ
      ·cases GQ; rfl
      ·cases GQ; rfl
     ·rw [cond_eq_ite] at GQ
      split at GQ
      ·cases GQ; rfl
      ·cases GQ
     ·cases GQ
    rw [this] at hlen; exact List.length_eq_zero_iff.1 hlen.symm
   rw [KA]
   cases Nf <;> simp [storeCells,goInt]
  ·rename_i SI
   rcases BA with ⟨rfl,_,_⟩ | ⟨b,b',rfl,rfl,BA⟩
   ·cases h
   ·simp only at h
    split at h
    ·rename_i c m zz ee Bb; rw [cond_eq_ite] at h
     split at h
     ·rename_i BQ; simp only [Bool.and_eq_true] at BQ; have hle:=Nat.le_of_ble_eq_true BQ.2; simp only [Option.some.injEq,Prod.mk.injEq] at h; obtain ⟨rfl,rfl⟩:=h
      rcases BA with ⟨ha,_⟩ | ⟨hd0,_,_⟩ | ⟨hd0,_,_⟩
      ·obtain ⟨x,Zg,fr,Vr,rfl,Y7,dH,hr,hn,dT,dI,_,EY⟩:=hw.cells ha Bb; have FI:=hw.A5 Bb rfl Vr (hr.write (vs:=news) (vs':=EZ.toList) CA (k:=b.off) (by omega)); refine ⟨_,_,?_,.int _ _,FI⟩; rw [HX]; simp only [Sem.run_bind]; rw [Ew (P:=P) (b.off+x.o) EZ.toList 0 w Zg Y7 dH (by have:=CA.1; omega) (CA.Xx BQ.1)]; simp only [Result.andThen_ok,Sem.run_pure,Nat.add_zero]; rfl
      ·exact (SI (by rw [hd0]; simp)).elim
      ·exact (SI (by rw [hd0]; simp)).elim
     ·cases h
    ·cases h
 ·cases h
theorem dY (hw:AY P w0 ρ W w) {ts:Array TypeId} {t ty:TypeId} {x x' v:Value} (h0:ts[0]?=some t) (h:Aj P t x W=some v) (hx:AO ρ x x') :
  ∃ v',(Builtin.len_ ts ty #[x']).run P w=.ok v' w∧AO ρ v v':=by
 unfold Aj at h
 split at h
 ·rename_i s ht
  cases h; cases hx
  exact ⟨_,by simp [Builtin.len_,h0,AD ht,goInt],.int _ _⟩
 ·rename_i el a0 n c ht
  cases h
  obtain ⟨a',c',rfl,_⟩:=hx.GA; exact ⟨_,by simp [Builtin.len_,h0,AD ht,goInt],.int _ _⟩
 ·rename_i kt el ht
  cases h; cases hx
  exact ⟨_,by simp [Builtin.len_,h0,AD ht,goInt],.int _ _⟩
 ·rename_i kt el r ht
  cases hx with
  | map hb =>
   split at h
   ·rename_i es EC Bb
    cases h
    obtain ⟨y,CG,hy,rfl,_,hh,CA⟩:=hw.SF hb Bb; have hl:=CA.length; refine ⟨.int .i64 CG.size,by simp [Builtin.len_,h0,AD ht,goInt,At hh (by simp)],?_⟩; rw [hl]
    simpa using AO.int .i64 _
   ·cases h
 ·cases h
theorem dZ (hw:AY P w0 ρ W w) {ts:Array TypeId} {t ty:TypeId} {x x' v:Value} (h0:ts[0]?=some t) (h:ui P t x W=some v) (hx:AO ρ x x') :
  ∃ v',(Builtin.cap_ ts ty #[x']).run P w=.ok v' w∧AO ρ v v':=by
 unfold ui at h
 split at h
 ·rename_i el n c ht
  cases h
  cases hx
  refine ⟨_,?_,.int _ _⟩; simp [Builtin.cap_,h0,AD ht,goInt]
 ·rename_i el a n c ht
  split at h
  ·rename_i cc m z e Bb; rw [cond_eq_ite] at h
   split at h
   ·cases h
   ·rename_i hz; simp only [Bool.or_eq_true,Nat.beq_eq,not_or] at hz
    cases h
    cases hx with
    | @slice _ a' _ _ c' ha hc =>
     have:c'=c:=by
      rcases hc with hc | ⟨x,hx,hp,h1,h2,_⟩
      ·exact hc
      ·obtain ⟨_,y,hy,rfl⟩:=ha; rw [hx] at hy; cases hy; obtain ⟨o',HV,hr⟩:=hw.obj Bb (by simp) hx rfl
       cases hr with
       | cells _ _ _ _ hq =>
        obtain ⟨e1,e2⟩:=hq.2 hz.1; have:c*x.sz=c'*x.sz:=by omega
        exact (Nat.eq_of_mul_eq_mul_right hp this).symm
     subst this; refine ⟨_,?_,.int _ _⟩; simp [Builtin.cap_,h0,AD ht,goInt]
    | Je=>exact (hz.2 rfl).elim
    | Ht=>exact (hz.2 rfl).elim
  ·cases h
 ·cases h
theorem Vu (hw:AY P w0 ρ W w) {ts:Array TypeId} {t ty:TypeId} {m m' k k':Value} {W1:CW} (h0:ts[0]?=some t) (h:Ok P t m k W=some W1) (hm:AO ρ m m') (hk:AO ρ k k') :
  ∃ w',(Builtin.delete_ ts ty #[m',k']).run P w=.ok (.tuple #[]) w'∧AY P w0 ρ W1 w':=by
 unfold Ok at h
 split at h
 ·rename_i kt el r ht
  cases hm with
  | @map _ r' hb =>
   split at h
   ·rename_i es EC Bb; obtain ⟨f,hf,h2⟩:=Aa h; clear h; have h:=h2; obtain ⟨y,CG,hy,rfl,pq,hh,CA⟩:=hw.SF hb Bb; obtain ⟨r',Lz,JG,BA⟩:=MD hf hk CA
    rcases BA with ⟨rfl,rfl⟩ | ⟨j,x1,x1',en,rfl,rfl,pn,Ef,Ze⟩
    ·cases h
     refine ⟨{ w with heap:=w.heap.setIfInBounds y.b (.map CG EC) },?_,hw.A5 Bb rfl hy (.map pq CA)⟩; simp [Builtin.delete_,h0,AD ht,At hh (by simp),Lz,JG,DB hh (by simp)]
    ·cases h
     refine ⟨{ w with heap:=w.heap.setIfInBounds y.b (.map (CG.eraseIdxIfInBounds j) EC) },?_,hw.A5 Bb rfl hy (.map pq ?_)⟩
     ·simp [Builtin.delete_,h0,AD ht,At hh (by simp),Lz,JG,DB hh (by simp)]
     ·have:=CA.K3 j; have e1:(CG.eraseIdxIfInBounds j).toList=CG.toList.eraseIdx j:=by simp
      rw [e1]; exact this
   ·cases h
 ·cases h
theorem X0 (hz:ZP P) (hw:AY P w0 ρ W w) {ts:Array TypeId} {t ty:TypeId} {x x':Value} {W1:CW} (h0:ts[0]?=some t) (h:Tq P t x W=some W1) (hx:AO ρ x x') :
  ∃ w',(Builtin.clear_ ts ty #[x']).run P w=.ok (.tuple #[]) w'∧AY P w0 ρ W1 w':=by
 unfold Tq at h
 split at h
 ·rename_i kt el r ht
  split at h
  ·rename_i es EC Bb
   cases h
   cases hx with
   | @map _ r' hb =>
    obtain ⟨y,CG,hy,rfl,pq,hh,CA⟩:=hw.SF hb Bb; refine ⟨{ w with heap:=w.heap.setIfInBounds y.b (.map #[] EC) },?_,hw.A5 Bb rfl hy (.map pq trivial)⟩; simp [Builtin.clear_,h0,AD ht,At hh (by simp),DB hh (by simp)]
  ·cases h
 ·rename_i kt el ht
  cases h; cases hx
  exact ⟨w,by simp [Builtin.clear_,h0,AD ht],hw⟩
 ·rename_i el a n c ht; obtain ⟨size,Gp,h2⟩:=Aa h; clear h; obtain ⟨z0,Ky,h⟩:=Aa h2; clear h2; obtain ⟨a',c',rfl,BA⟩:=hx.GA; rw [cond_eq_ite] at h
  split at h
  ·rename_i SI; have SI:=Nat.eq_of_beq_eq_true SI; subst SI
   cases h
   refine ⟨w,?_,hw⟩
   cases a' <;> simp [Builtin.clear_,h0,AD ht]
  ·rename_i SI; have SI:n≠0:=fun h=>SI (by rw [h]; rfl)
   split at h
   ·rename_i cc m zz ee Bb; rw [cond_eq_ite] at h
    split at h
    ·rename_i BQ; simp only [Bool.and_eq_true] at BQ; have hle:=Nat.le_of_ble_eq_true BQ.1
     cases h
     rcases BA with ⟨h1,_⟩ | ⟨b,b',WT,rfl,BA⟩
     ·cases h1
     ·cases WT
      rcases BA with ⟨ha,_⟩ | ⟨h1,_⟩ | ⟨h1,_⟩
      ·obtain ⟨x,Zg,fr,Vr,rfl,Y7,dH,hr,hn,dT,dI,_,EY⟩:=hw.cells ha Bb
       have mC:Aq ρ (BX .nil z0.cells (n*z0.cells.size) 0) (Builtin.zeroCells z0.cells n).toList:=by
        refine ⟨by simp [A3,Builtin.zeroCells],fun i hi=>?_⟩; rw [A3] at hi; rw [Fo _ _ _ _ _ hi,Nat.zero_add]
        have h1:=Mw (ρ:=ρ) hz Ky (n*z0.cells.size) (by
         rcases Nat.eq_zero_or_pos z0.cells.size with h0 | h0
         ·left; rw [h0]; rfl
         ·exact .inr h0) i hi
        simp only [Builtin.zeroCells]; rw [Array.getD_eq_getD_getElem?,←Array.getElem?_toList] at h1; rw [List.getD_eq_getElem?_getD]; exact h1
       have B6:(Builtin.zeroCells z0.cells n).toList.all BN=true:=by
        rw [List.all_eq_true]; intro y hy; simp only [Builtin.zeroCells,Array.toList_map,List.mem_map,Array.toList_range,List.mem_range] at hy; obtain ⟨i,hi,rfl⟩:=hy
        have N9:0<z0.cells.size:=by
         rcases Nat.eq_zero_or_pos z0.cells.size with h0 | h0
         ·rw [h0] at hi; omega
         ·exact h0
        have Au:i % z0.cells.size<z0.cells.size:=Nat.mod_lt _ N9; have:=List.all_eq_true.1 BQ.2 (z0.cells[i % z0.cells.size]) (by simp)
        simpa [Au] using this
       have FI:=hw.A5 Bb rfl Vr (hr.write (vs:=BX .nil z0.cells (n*z0.cells.size) 0) mC (k:=a.off) (by rw [A3]; omega)); refine ⟨_,?_,FI⟩; have EL:=Ew (P:=P) (a.off+x.o) (Builtin.zeroCells z0.cells n).toList 0 w Zg Y7 dH (by simp [Builtin.zeroCells]; omega) B6; obtain ⟨n,rfl⟩:∃ k,n=k+1:=⟨n-1,by omega⟩
       simp only [Builtin.clear_,h0,List.getElem?_toArray,List.getElem?_cons_zero,Sem.run_bind,AD ht,Result.andThen_ok,Bd Ky,EL,Sem.run_pure,Nat.add_zero]
      ·exact (SI h1).elim
      ·exact (SI h1).elim
    ·cases h
   ·cases h
 ·rename_i el n c ht
  cases h
  obtain ⟨a',c',rfl,BA⟩:=hx.GA
  have:a'=none:=by
   rcases BA with ⟨_,h,_⟩ | ⟨b,b',h,_⟩
   ·exact h
   ·cases h
  subst this; refine ⟨w,?_,hw⟩
  cases n <;> simp [Builtin.clear_,h0,AD ht]
 ·cases h
theorem mD {t:TypeId} {d s v:Value} {W1:CW} (h:ZI P t d s W=some (v,W1)):W.sz≤W1.sz:=by
 unfold ZI at h
 split at h
 ·obtain ⟨_,_,h⟩:=Aa h; obtain ⟨_,_,h⟩:=Aa h
  repeat' (first | (cases h; done) | (cases h; exact Nat.le_refl _) | (rw [cond_eq_ite] at h) | split at h)
 ·cases h
theorem da {t:TypeId} {d s:Value} {W1:CW} (h:Ok P t d s W=some W1):W.sz≤W1.sz:=by
 unfold Ok at h
 split at h
 ·split at h
  ·obtain ⟨_,_,h⟩:=Aa h
   repeat' (first | (cases h; done) | (cases h; exact Nat.le_refl _) | (rw [cond_eq_ite] at h) | split at h)
  ·cases h
 ·cases h
theorem il {t:TypeId} {d:Value} {W1:CW} (h:Tq P t d W=some W1):W.sz≤W1.sz:=by
 unfold Tq at h
 split at h
 ·repeat' (first | (cases h; done) | (cases h; exact Nat.le_refl _) | (rw [cond_eq_ite] at h) | split at h)
 ·cases h; exact Nat.le_refl _
 ·obtain ⟨_,_,h⟩:=Aa h; obtain ⟨_,_,h⟩:=Aa h
  repeat' (first | (cases h; done) | (cases h; exact Nat.le_refl _) | (rw [cond_eq_ite] at h) | split at h)
 ·cases h; exact Nat.le_refl _
 ·cases h
theorem X1 {c:Call} {b:Builtin} (ho:o.op=.call c) (hf:c.callee=.builtin b) (w:World) :
  (execOp e' o).run P w=(builtin b c.argTypes o.type (c.args.map fun | .const _=>true | _=>false) (c.args.map e')).run P w:=by
 simp only [execOp,ho,resolve,hf,Sem.run_bind,Sem.run_pure,Result.andThen_ok,invoke]; rfl
theorem WU {α:Type} {a:Array α} {x:α} {l:List α} (h:a.toList=x::l):a[0]?=some x:=by rw [←Array.getElem?_toList,h]; rfl
theorem AAS {α:Type} {a:Array α} {x y:α} {l:List α} (h:a.toList=x::y::l):a[1]?=some y:=by rw [←Array.getElem?_toList,h]; rfl
theorem ofList {α:Type} {a:Array α} {l:List α} (h:a.toList=l):a=l.toArray:=by rw [←h]
theorem db (hz:ZP P) {c:Call} {b:Builtin} (ho:o.op=.call c) (hf:c.callee=.builtin b) (h:BP P o e W=some outs) (hw:AY P w0 ρ W w)
  (ha:∀ x,x ∈ c.args.toList→AO ρ (e x) (e' x)):A9 P w0 ρ W ((execOp e' o).run P w) outs:=by
 rw [X1 ho hf]; simp only [BP,ho,hf] at h; split at h
 rotate_left
 ·cases h
 rename_i r hr
 cases h
 generalize hB:c.args.map e'=B; have C3:Aq ρ (c.args.toList.map e) B.toList:=by rw [←hB]; simpa using Aq.map (ρ:=ρ) c.args.toList e e' ha
 clear hB; generalize c.args.toList.map e=A at hr C3; unfold IH at hr
 have one:∀ {x:Value},Aq ρ [x] B.toList→∃ x',B=#[x']∧AO ρ x x':=by
  intro x hl
  cases hB:B.toList with
  | nil=>rw [hB] at hl; have:=hl.1; simp at this
  | cons y ys =>
   rw [hB] at hl; have:ys=[]:=by have:=hl.1; simp at this; first | exact this | exact this.symm | exact List.length_eq_zero_iff.1 this.symm
   subst this; exact ⟨y,ofList hB,hl.head⟩
 have two:∀ {x y:Value},Aq ρ [x,y] B.toList→∃ x' y',B=#[x',y']∧AO ρ x x'∧AO ρ y y':=by
  intro x y hl
  cases hB:B.toList with
  | nil=>rw [hB] at hl; have:=hl.1; simp at this
  | cons x' ys =>
   rw [hB] at hl; have h1:=hl.head; have hl:=hl.tail
   cases ys with
   | nil=>have:=hl.1; simp at this
   | cons y' ys =>
    have:ys=[]:=by have:=hl.1; simp at this; first | exact this | exact this.symm | exact List.length_eq_zero_iff.1 this.symm
    subst this; exact ⟨x',y',ofList hB,h1,hl.head⟩
 split at hr
 ·rename_i t ts x IL; obtain ⟨x',rfl,hx⟩:=one C3; rw [Option.map_eq_some_iff] at hr; obtain ⟨v,hv,rfl⟩:=hr; obtain ⟨v',Iq,Gw⟩:=dY (ty:=o.type) hw (WU IL) hv hx; exact .value hw (BD Iq) Gw
 ·rename_i t ts x IL; obtain ⟨x',rfl,hx⟩:=one C3; rw [Option.map_eq_some_iff] at hr; obtain ⟨v,hv,rfl⟩:=hr; obtain ⟨v',Iq,Gw⟩:=dZ (ty:=o.type) hw (WU IL) hv hx; exact .value hw (BD Iq) Gw
 ·rename_i t u ts s x IL; obtain ⟨s',x',rfl,hs,hx⟩:=two C3; rw [cond_eq_ite] at hr
  split at hr
  ·rename_i hu; rw [Option.map_eq_some_iff] at hr; obtain ⟨⟨v,W1⟩,hv,rfl⟩:=hr; obtain ⟨v',w',ρ',C_,Iq,Gw,Gq⟩:=Vp (ty:=o.type) hw (WU IL) (AAS IL) hu hv hs hx; exact ⟨_,_,ρ',List.mem_singleton.2 rfl,C_,.value (BD Iq) Gw Gq⟩
  ·cases hr
 ·rename_i t ts d s IL; obtain ⟨d',s',rfl,hd,hs⟩:=two C3; rw [Option.map_eq_some_iff] at hr; obtain ⟨⟨v,W1⟩,hv,rfl⟩:=hr; obtain ⟨v',w',Iq,Gw,Gq⟩:=Zh (ty:=o.type) hw (WU IL) hv hd hs; exact ⟨_,_,ρ,List.mem_singleton.2 rfl,.refl _ (mD hv),.value (BD Iq) Gw Gq⟩
 ·rename_i t ts x IL; obtain ⟨x',rfl,hx⟩:=one C3; rw [Option.map_eq_some_iff] at hr; obtain ⟨W1,hv,rfl⟩:=hr; obtain ⟨w',Iq,Gq⟩:=X0 (ty:=o.type) hz hw (WU IL) hv hx; exact ⟨_,_,ρ,List.mem_singleton.2 rfl,.refl _ (il hv),.value (BD Iq) (.tuple' (.nil _)) Gq⟩
 ·rename_i t ts m k IL; obtain ⟨m',k',rfl,hm,hk⟩:=two C3; rw [Option.map_eq_some_iff] at hr; obtain ⟨W1,hv,rfl⟩:=hr; obtain ⟨w',Iq,Gq⟩:=Vu (ty:=o.type) hw (WU IL) hv hm hk; exact ⟨_,_,ρ,List.mem_singleton.2 rfl,.refl _ (da hv),.value (BD Iq) (.tuple' (.nil _)) Gq⟩
 ·rename_i k a k2 b2; obtain ⟨x',y',rfl,hx,hy⟩:=two C3
  cases hx; cases hy; cases hr
  refine .value hw (BD (s:=Builtin.max_ c.argTypes o.type #[.int k a,.int k2 b2]) (by simp [Builtin.max_,Builtin.max2]; rfl)) ?_; simp only [cond_eq_ite,decide_eq_true_eq]; exact .int _ _
 ·rename_i k a k2 b2; obtain ⟨x',y',rfl,hx,hy⟩:=two C3
  cases hx; cases hy; cases hr
  refine .value hw (BD (s:=Builtin.min_ c.argTypes o.type #[.int k a,.int k2 b2]) (by simp [Builtin.min_,Builtin.min2]; rfl)) ?_; simp only [cond_eq_ite,decide_eq_true_eq]; exact .int _ _
 ·cases hr
  exact ⟨_,_,ρ,List.mem_singleton.2 rfl,.refl _,.recover rfl hw⟩
 ·cases hr
theorem O0 (hz:ZP P) (Ac:Ts o=true) (Of:∀ g,e (.global g)=.complex .f32 0 0) (he:∀ x,x ∈ o.op.operands→Am x=true→AO ρ (e x) (e' x)) (hw:AY P w0 ρ W w) (h:BP P o e W=some outs):A9 P w0 ρ W ((execOp e' o).run P w) outs:=by
 have al:∀ l:List Operand,(∀ x,x ∈ l→x ∈ o.op.operands)→l.all Am=true→∀ x,x ∈ l→AO ρ (e x) (e' x):=fun l hm hl x hx=>he x (hm x hx) (List.all_eq_true.1 hl x hx); have al2:∀ l:List (Nat × Operand),(∀ x,x ∈ l→x.2 ∈ o.op.operands)→(l.all fun p=>Am p.2)=true→∀ p,p ∈ l→AO ρ (e p.2) (e' p.2):=fun l hm hl x hx=>he x.2 (hm x hx) (List.all_eq_true.1 hl x hx); have op:∀ m:Option Operand,(∀ x,m=some x→x ∈ o.op.operands)→m.all Am=true→∀ x,m=some x→AO ρ (e x) (e' x):=fun m Bz hm x hx=>he x (Bz x hx) (by subst hx; simpa using hm); unfold Ts at Ac; split at Ac <;> (try simp only [Bool.and_eq_true] at Ac)
 case h_1 ho=>exact gG (.inl ho) h hw (he _ (by rw [ho]; simp [Op.operands]) Ac)
 case h_2 ho=>exact gG (.inr ho) h hw (he _ (by rw [ho]; simp [Op.operands]) Ac)
 case h_3 ho=>exact ZS ho h hw (he _ (by rw [ho]; simp [Op.operands]) Ac)
 case h_4 ho=>exact qU ho h hw (he _ (by rw [ho]; simp [Op.operands]) Ac)
 case h_5 ho=>exact dX ho h hw (he _ (by rw [ho]; simp [Op.operands]) Ac)
 case h_6 ho=>exact QN ho h hw (he _ (by rw [ho]; simp [Op.operands]) Ac)
 case h_7 ho=>exact lW ho h hw (he _ (by rw [ho]; simp [Op.operands]) Ac)
 case h_8 ho=>exact Xs ho h hw (he _ (by rw [ho]; simp [Op.operands]) Ac)
 case h_9 ho=>exact lq ho h hw (he _ (by rw [ho]; simp [Op.operands]) Ac)
 case h_10 ho=>exact qW ho h hw (he _ (by rw [ho]; simp [Op.operands]) Ac)
 case h_11 ho=>exact l4 ho h hw (he _ (by rw [ho]; simp [Op.operands]) Ac)
 case h_12 ho=>exact Vn hz ho h hw (he _ (by rw [ho]; simp [Op.operands]) Ac)
 case h_13 ho=>exact dL ho h hw (he _ (by rw [ho]; simp [Op.operands]) Ac)
 case h_14 ho=>exact lg ho h hw (he _ (by rw [ho]; simp [Op.operands]) Ac)
 case h_15 ho=>exact uz ho h hw (he _ (by rw [ho]; simp [Op.operands]) Ac)
 case h_16 t x ho =>
  rw [Bool.or_eq_true] at Ac
  rcases Ac with Ac | Ac
  ·exact qS ho h hw (he _ (by rw [ho]; simp [Op.operands]) Ac)
  ·split at Ac
   ·simp only [BP,ho,Of] at h
    cases h
   ·cases Ac
 case h_17 ho=>exact qQ ho h hw (he _ (by rw [ho]; simp [Op.operands]) Ac.1.1) (he _ (by rw [ho]; simp [Op.operands]) Ac.1.2) (he _ (by rw [ho]; simp [Op.operands]) Ac.2)
 case h_18 ho=>exact lR hz ho h hw
 case h_19 ho=>exact dR ho h hw
 case h_20 ho=>exact lV hz ho h hw (al2 _ (fun x hx=>by rw [ho]; simp [Op.operands]; exact ⟨x.1,by simpa using hx⟩) Ac)
 case h_21 ho=>exact Vl hz ho h hw (al2 _ (fun x hx=>by rw [ho]; simp [Op.operands]; exact ⟨x.1,by simpa using hx⟩) Ac)
 case h_22 ho=>exact lQ ho h hw (he _ (by rw [ho]; simp [Op.operands]) Ac.1) (he _ (by rw [ho]; simp [Op.operands]) Ac.2)
 case h_23 ho=>exact lU ho h hw (he _ (by rw [ho]; simp [Op.operands]) Ac.1) (he _ (by rw [ho]; simp [Op.operands]) Ac.2)
 case h_24 ho=>exact Xr hz ho h hw (he _ (by rw [ho]; simp [Op.operands]) Ac.1) (he _ (by rw [ho]; simp [Op.operands]) Ac.2)
 case h_25 ho=>exact Xt ho h hw (he _ (by rw [ho]; simp [Op.operands]) Ac.1) (he _ (by rw [ho]; simp [Op.operands]) Ac.2)
 case h_26 ho=>exact lY ho h hw (he _ (by rw [ho]; simp [Op.operands]) Ac.1) (he _ (by rw [ho]; simp [Op.operands]) Ac.2)
 case h_27 ho=>exact ie hz ho h hw (he _ (by rw [ho]; simp [Op.operands]) Ac.1) (he _ (by rw [ho]; simp [Op.operands]) Ac.2)
 case h_28 ho=>exact ZW ho h hw (al _ (fun x hx=>by rw [ho]; simp [Op.operands]; first | exact .inl hx | exact .inr hx | exact .inl (by simpa using hx) | exact .inr (by simpa using hx)) Ac.1) (al _ (fun x hx=>by rw [ho]; simp [Op.operands]; first | exact .inl hx | exact .inr hx | exact .inl (by simpa using hx) | exact .inr (by simpa using hx)) Ac.2)
 case h_29 ho=>exact lZ ho h hw (he _ (by rw [ho]; simp [Op.operands]) Ac.1.1.1) (op _ (fun x hx=>by rw [ho]; simp [Op.operands,hx]) Ac.1.1.2) (op _ (fun x hx=>by rw [ho]; simp [Op.operands,hx]) Ac.1.2) (op _ (fun x hx=>by rw [ho]; simp [Op.operands,hx]) Ac.2)
 case h_30 ho=>exact Oz (.inl ho) h hw (he _ (by rw [ho]; simp [Op.operands]) Ac.1.1) (he _ (by rw [ho]; simp [Op.operands]) Ac.1.2) (he _ (by rw [ho]; simp [Op.operands]) Ac.2)
 case h_31 ho=>exact Oz (.inr ho) h hw (he _ (by rw [ho]; simp [Op.operands]) Ac.1.1) (he _ (by rw [ho]; simp [Op.operands]) Ac.1.2) (he _ (by rw [ho]; simp [Op.operands]) Ac.2)
 case h_32 c ho =>
  obtain ⟨h1,h2⟩:=Ac
  split at h2
  ·rename_i f hf; exact Xz hz ho hf h hw (he _ (by rw [ho]; simp [Op.operands,Call.operands,hf]) h2) (al _ (fun x hx=>by rw [ho]; simp [Op.operands,Call.operands,hf]; exact .inr (by simpa using hx)) h1)
  ·rename_i b hf; exact db hz ho hf h hw (al _ (fun x hx=>by rw [ho]; simp [Op.operands,Call.operands,hf]; simpa using hx) h1)
  ·cases h2
 case h_33 c ho =>
  obtain ⟨h1,h2⟩:=Ac
  split at h2
  ·rename_i f hf; exact lh ho hf h hw (he _ (by rw [ho]; simp [Op.operands,Call.operands,hf]) h2) (al _ (fun x hx=>by rw [ho]; simp [Op.operands,Call.operands,hf]; exact .inr (by simpa using hx)) h1)
  ·cases h2
 case h_34=>cases Ac
end
end Go.Ce
