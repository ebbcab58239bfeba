/- A part of the proof: Ca, Cb, Cc, Cd, Ce, Cf, Cg, Ch, Ci, Cj, Ck, Cl, Cm, Cn. -/
import Derived.OrdersIn
import Derived.RangeFuncIn
import Derived.DefersIn
import Derived.RecoverIn
import Derived.KernelRfl
import Derived.Below
import Derived.Laws.StructEq
import Derived.Laws.Concat
import Derived.MapKept
import Derived.Laws.BytesArg
import Derived.Laws.IdiomStrings
set_option linter.unusedSectionVars false
set_option linter.unusedVariables false
set_option linter.unusedSimpArgs false
set_option linter.defProp false
set_option maxRecDepth 200000
namespace Go.Ce
inductive Tr (α:Type) where
 | nil
 | node (l:Tr α) (v:Option α) (r:Tr α)
def Tr.get {α:Type}:Tr α→Nat→Option α
 | .nil,_=>none
 | .node l v r,i=>cond (Nat.beq i 0) v (cond (Nat.beq (i % 2) 1) (l.get (i / 2)) (r.get (i / 2-1)))
def Tr.dg {α:Type}:Nat→Tr α→Nat→α→Tr α
 | 0,t,_,_=>t
 | f+1,.nil,i,x=>cond (Nat.beq i 0) (.node .nil (some x) .nil) (cond (Nat.beq (i % 2) 1) (.node (Tr.dg f .nil (i / 2) x) none .nil) (.node .nil none (Tr.dg f .nil (i / 2-1) x)))
 | f+1,.node l v r,i,x=>cond (Nat.beq i 0) (.node l (some x) r) (cond (Nat.beq (i % 2) 1) (.node (Tr.dg f l (i / 2) x) v r) (.node l v (Tr.dg f r (i / 2-1) x)))
def Tr.set {α:Type} (t:Tr α) (i:Nat) (x:α):Tr α:=Tr.dg (i+1) t i x
def Tr.Aa {α:Type} (t:Tr α) (k:Nat):List α→Tr α
 | []=>t
 | x::xs=>(t.set k x).Aa (k+1) xs
inductive Az where
 | cells (c:Tr Value) (n:Nat) (z:Array Value) (elem:TypeId)
 | map (es:List MapEntry) (clock:Nat)
 | iter (m:Option Nat) (since:Nat) (seen:List Nat) (last:Nat)
 | loop (state:LoopState) (pending:Option Code) (fn:FuncId) (tmps:Tr Value) (nt:Nat) (params:Array Tmp) (assign body:Code) (defers:Nat)
 | deferred
 | dead
 | fixed (f:Nat→Value) (n:Nat) (elem:TypeId)
def Az.mut:Az→Bool
 | .dead=>false
 | .fixed _ _ _=>false
 | _=>true
structure CW where
 h:Tr Az
 sz:Nat
structure AK where
 t:Tr Value
 nt:Nat
 defers:List Deferred
inductive Bn where
 | value (v:Value)
 | skip
 | enter (f:FuncId) (args:List Value)
 | round (l:Nat) (args:List Value)
 | defer (d:Deferred)
 | recover
 | panic (v:Value)
def AK.eval (a:AK):Operand→Value
 | .tmp t=>match a.t.get t with | some v=>v | none=>undef
 | .const v=>v
 | .global _=>.complex .f32 0 0
 | .func f=>.func (.func f) #[] #[]
def AK.put (a:AK) (d:Option Tmp) (v:Value):AK :=
 match d with
 | some d=>{ a with t:=a.t.set d v }
 | none=>a
def CW.new (W:CW) (o:Az):CW:=⟨W.h.set W.sz o,W.sz+1⟩
def CW.obj (W:CW) (i:Nat):Option Az:=W.h.get i
def CW.BB (W:CW) (i:Nat) (o:Az):CW:=⟨W.h.set i o,W.sz⟩
def cellAt (c:Tr Value) (z:Array Value) (k:Nat):Value :=
 match c.get k with
 | some v=>v
 | none=>z.getD (k % z.size) undef
def Bk (c:Tr Value) (z:Array Value):Nat→Nat→List Value
 | 0,_=>[]
 | m+1,k=>cellAt c z k::Bk c z m (k+1)
def YK:List UInt8→List UInt8→Bool
 | [],[]=>true
 | a::x,b::y=>Nat.beq a.toNat b.toNat && YK x y
 | _,_=>false
def SA:List UInt8→List UInt8→Bool
 | _,[]=>false
 | [],_::_=>true
 | a::x,b::y=>Nat.blt a.toNat b.toNat || (Nat.beq a.toNat b.toNat && SA x y)
def sb (s:ByteArray):List UInt8:=s.data.toList
def AAF (op:BinOp) (a b:ByteArray):Option Value :=
 match op with
 | .add=>cond (Nat.ble (a.size+b.size) 9223372036854775807) (some (.string ⟨(sb a++sb b).toArray⟩)) none
 | .eql=>some (.bool (YK (sb a) (sb b)))
 | .neq=>some (.bool (!YK (sb a) (sb b)))
 | .lss=>some (.bool (SA (sb a) (sb b)))
 | .leq=>some (.bool (SA (sb a) (sb b) || YK (sb a) (sb b)))
 | .gtr=>some (.bool (!(SA (sb a) (sb b) || YK (sb a) (sb b))))
 | .geq=>some (.bool (!SA (sb a) (sb b)))
 | _=>none
def EA (l:List UInt8):List Value:=l.map fun b=>.int .u8 b.toNat
def H9:List Value→Option (List UInt8)
 | []=>some []
 | .int .u8 n::l=>match H9 l with
  | some m=>some (UInt8.ofNat n.toNat::m)
  | none=>none
 | _::_=>none
def OU (d:TypeDesc) (k v:Value):Option Bool :=
 match d,k,v with
 | .string,.string a,.string b=>some (YK (sb a) (sb b))
 | d,k,v=>Instr.sameNow d k v
def LH (d:TypeDesc) (k:Value):List MapEntry→Nat→Option (Option (Nat × Value))
 | [],_=>some none
 | e::es,i=>match OU d k e.key with
  | some true=>some (some (i,e.val))
  | some false=>LH d k es (i+1)
  | none=>none
def FF (f:Nat→Value):Nat→Nat→List Value
 | 0,_=>[]
 | m+1,k=>f k::FF f m (k+1)
section
variable (P:Program)
def D_ (t:TypeId):Option Nat:=(P.info? t).map (·.size)
def Hz (t:TypeId):Option Value:=cond (Nat.blt t P.types.size) ((P.info? t).bind (·.zero)) none
def agg? (t:TypeId):Option Bool:=(P.underlying t).map fun d=>match d with | .struct _ | .array _ _=>true | _=>false
def DJ {α β:Type} (o:Option α) (f:α→Option β):Option β:=match o with | some a=>f a | none=>none
def LI (t:TypeId) (a:Addr) (W:CW):Option Value :=
 match W.obj a.block with
 | some (.cells c n z _) =>
  match agg? P t with
  | some true=>match D_ P t with
   | some m=>cond (Nat.ble (a.off+m) n) (some (.agg (Bk c z m a.off).toArray)) none
   | none=>none
  | some false=>cond (Nat.blt a.off n) (some (cellAt c z a.off)) none
  | none=>none
 | some (.fixed f n _) =>
  match agg? P t with
  | some true=>match D_ P t with
   | some m=>cond (Nat.ble (a.off+m) n) (some (.agg (FF f m a.off).toArray)) none
   | none=>none
  | some false=>cond (Nat.blt a.off n) (some (f a.off)) none
  | none=>none
 | _=>none
def Ba:Value→Bool
 | .agg _ | .tuple _=>false
 | _=>true
def Kx (t:TypeId) (a:Addr) (v:Value) (W:CW):Option CW :=
 match W.obj a.block with
 | some (.cells c n z e) =>
  match v with
  | .agg cs=>match D_ P t with
   | some m=>cond (Nat.beq cs.size m && Nat.ble (a.off+m) n && cs.toList.all Ba) (some (W.BB a.block (.cells (c.Aa a.off cs.toList) n z e))) none
   | none=>none
  | .tuple _=>none
  | v=>match D_ P t with
   | some m=>cond (Nat.beq m 1 && Nat.blt a.off n) (some (W.BB a.block (.cells (c.set a.off v) n z e))) none
   | none=>none
 | _=>none
def Ur (t:TypeId) (v:Value) (W:CW):Value × CW :=
 (.pointer (some ⟨W.sz,0,none⟩),W.new (.cells (Tr.nil.Aa 0 v.cells.toList) v.cells.size #[] t))
def O5 (op:BinOp) (k:IntKind) (a b:Int):Option Value :=
 match op with
 | .add=>some (.int k (k.wrap (a+b)))
 | .sub=>some (.int k (k.wrap (a-b)))
 | .mul=>some (.int k (k.wrap (a*b)))
 | .quo=>cond (b == 0) none (some (.int k (k.wrap (a.tdiv b))))
 | .rem=>cond (b == 0) none (some (.int k (a.tmod b)))
 | .eql=>some (.bool (a == b))
 | .neq=>some (.bool (a != b))
 | .lss=>some (.bool (a<b))
 | .leq=>some (.bool (a≤b))
 | .gtr=>some (.bool (a>b))
 | .geq=>some (.bool (a≥b))
 | .and=>some (.int k (k.wrap ((BitVec.ofInt k.bits a &&& BitVec.ofInt k.bits b).toNat)))
 | .or=>some (.int k (k.wrap ((BitVec.ofInt k.bits a ||| BitVec.ofInt k.bits b).toNat)))
 | .xor=>some (.int k (k.wrap ((BitVec.ofInt k.bits a ^^^ BitVec.ofInt k.bits b).toNat)))
 | .andNot=>some (.int k (k.wrap ((BitVec.ofInt k.bits a &&& ~~~(BitVec.ofInt k.bits b)).toNat)))
 | _=>none
def wX (d:TypeDesc) (x y:Value):Option Bool :=
 match d,x,y with
 | .bool,.bool a,.bool b=>some (a == b)
 | .pointer _,.pointer none,.pointer b=>some b.isNone
 | .pointer _,.pointer (some _),.pointer none=>some false
 | .interface _,.nilIface,.iface _ _=>some false
 | .interface _,.iface _ _,.nilIface=>some false
 | .slice _,.slice none _ _,.slice b _ _=>some b.isNone
 | .slice _,.slice (some _) _ _,.slice none _ _=>some false
 | .map _ _,.map none,.map b=>some b.isNone
 | .map _ _,.map (some _),.map none=>some false
 | .func _ _ _,.nilFunc,.nilFunc=>some true
 | .func _ _ _,.nilFunc,.func _ _ _=>some false
 | .func _ _ _,.func _ _ _,.nilFunc=>some false
 | _,_,_=>none
def Tl (t:TypeId) (cs:Array Value) (off:Nat):Option Value :=
 match agg? P t,D_ P t with
 | some true,some m=>some (.agg (cs.extract off (off+m)))
 | some false,_=>cs[off]?
 | _,_=>none
def dh (eq:TypeId→Value→Value→Option Bool) (xs ys:Array Value):List Field→Option Bool
 | []=>some true
 | f::fs=>cond (f.name == "_") (dh eq xs ys fs) (match Tl P f.type xs f.offset,Tl P f.type ys f.offset with
  | some u,some v=>match eq f.type u v with
   | some true=>dh eq xs ys fs
   | some false=>some false
   | none=>none
  | _,_=>none)
def mE (eq:Value→Value→Option Bool) (elem:TypeId) (n:Nat) (xs ys:Array Value):Nat→Nat→Option Bool
 | 0,_=>some true
 | m+1,i=>match Tl P elem xs (i*n),Tl P elem ys (i*n) with
  | some u,some v=>match eq u v with
   | some true=>mE eq elem n xs ys m (i+1)
   | some false=>some false
   | none=>none
  | _,_=>none
def di:Nat→TypeId→Value→Value→Option Bool
 | 0,_,_,_=>none
 | n+1,t,x,y=>match P.underlying t with
  | none=>none
  | some d=>match d,x,y with
   | .struct fs,.agg xs,.agg ys=>cond (P.stoodInHeld t) none (dh P (di n) xs ys fs.toList)
   | .array len elem,.agg xs,.agg ys=>match D_ P elem with
    | some s=>mE P (di n elem) elem s xs ys len 0
    | none=>none
   | .int _,.int k a,.int k' b=>cond (decide (k=k')) (some (a == b)) none
   | .string,.string a,.string b=>some (YK (sb a) (sb b))
   | d,x,y=>wX d x y
def isConst:Operand→Bool
 | .const _=>true
 | _=>false
def D6 (op:BinOp) (t:TypeId) (k:Bool) (x y:Value):Option Value :=
 match op,x,y with
 | .shl,.int k a,.int _ b=>cond (decide (b<0)) none (some (.int k (k.wrap (a*2 ^ (min b.toNat k.bits)))))
 | .shr,.int k a,.int _ b=>cond (decide (b<0)) none (some (.int k (a.fdiv (2 ^ (min b.toNat k.bits)))))
 | op,.int k a,.int k' b=>cond (decide (k=k')) (O5 op k a b) none
 | op,.string a,.string b=>AAF op a b
 | .eql,.agg xs,.agg ys=>cond (P.eqGuardType P.depth t) none ((di P 20 t (.agg xs) (.agg ys)).map .bool)
 | .neq,.agg xs,.agg ys=>cond (P.eqGuardType P.depth t) none ((di P 20 t (.agg xs) (.agg ys)).map fun b=>.bool (!b))
 | .eql,.nilIface,.nilIface=>match P.underlying t with | some (.interface _)=>cond k (some (.bool true)) none | _=>none
 | .neq,.nilIface,.nilIface=>match P.underlying t with | some (.interface _)=>cond k (some (.bool false)) none | _=>none
 | .eql,x,y=>match P.underlying t with | some d=>(wX d x y).map .bool | none=>none
 | .neq,x,y=>match P.underlying t with | some d=>(wX d x y).map fun b=>.bool (!b) | none=>none
 | _,_,_=>none
def bound (x:Option Value) (AGm y:Nat):Option Nat :=
 match x with
 | some (.int _ i)=>cond (decide (0≤i) && decide (i≤y)) (some i.toNat) none
 | some _=>none
 | none=>some AGm
def Vt (W:CW) (a:Option Addr) (elem:TypeId):Bool :=
 match a with
 | none=>true
 | some a=>a.spot.isSome || match W.obj a.block with
  | some (.cells _ _ _ e)=>Nat.beq e elem
  | some (.fixed _ _ e)=>Nat.beq e elem
  | _=>false
def Vu (W:CW) (t:TypeId) (x:Value) (lo hi mx:Option Value):Option Value :=
 match P.underlying t,x with
 | some (.slice elem),.slice a len cap=>DJ (bound mx cap cap) fun m=>DJ (bound hi len m) fun h=>DJ (bound lo 0 h) fun l =>
   cond (mx.isSome && hi.isNone || !Nat.ble h m || !(mx.isSome || Vt W a elem)) none (DJ (D_ P elem) fun s =>
   some (.slice (cond (Nat.beq m l) a (a.map fun a=>⟨a.block,a.off+l*s,none⟩)) (h-l) (m-l)))
 | some (.array n elem),.pointer (some a)=>DJ (bound mx n n) fun m=>DJ (bound hi n m) fun h=>DJ (bound lo 0 h) fun l =>
   cond (mx.isSome && hi.isNone || !Nat.ble h m) none (DJ (D_ P elem) fun s =>
   some (.slice (some (cond (Nat.beq m l) a ⟨a.block,a.off+l*s,none⟩)) (h-l) (m-l)))
 | _,_=>none
def JR:TypeDesc→Bool
 | .int _ | .string | .bool=>true
 | _=>false
def KF (v k:Value):Nat→List MapEntry→List MapEntry
 | _,[]=>[]
 | 0,e::es=>{ e with key:=k,val:=v }::es
 | i+1,e::es=>e::KF v k i es
def L7:Nat→List MapEntry→List MapEntry
 | _,[]=>[]
 | 0,_::es=>es
 | i+1,e::es=>e::L7 i es
def O6:Value→Value→Bool
 | .int j a,.int k b=>decide (j=k) && decide (a=b)
 | .string a,.string b=>YK (sb a) (sb b)
 | .bool a,.bool b=>a == b
 | _,_=>false
def P5:List Value→List Value→Bool
 | [],[]=>true
 | x::xs,y::ys=>O6 x y && P5 xs ys
 | _,_=>false
def aF:Value→Value→Bool
 | .agg xs,.agg ys=>P5 xs.toList ys.toList
 | _,_=>false
def mF (t:TypeId) (k:Value):Bool :=
 match P.underlying t,k with
 | some (.struct fs),.agg cs=>!(P.stoodInHeld t) && fs.toList.all fun f=>!(f.name == "_") && (match P.underlying f.type with | some d=>JR d | none=>false) && (Tl P f.type cs f.offset).isSome
 | _,_=>false
def dj (t:TypeId) (k:Value):List MapEntry→Nat→Option (Option (Nat × Value))
 | [],_=>some none
 | e::es,i=>match di P 20 t k e.key with
  | some true=>cond (aF k e.key) (some (some (i,e.val))) none
  | some false=>dj t k es (i+1)
  | none=>none
def OV (t:TypeId) (k:Value) (es:List MapEntry):Option (Option (Nat × Value)) :=
 match P.underlying t with
 | some d=>cond (JR d) (LH d k es 0) (cond (mF P t k) (dj P t k es 0) none)
 | none=>none
def EO (b:Option Addr) (m:Nat) (W:CW):Option (List Value) :=
 match b with
 | none=>some []
 | some b=>cond (Nat.beq m 0) (some []) <| match W.obj b.block with
  | some (.cells c k z _)=>cond (Nat.ble (b.off+m) k) (some (Bk c z m b.off)) none
  | some (.fixed f k _)=>cond (Nat.ble (b.off+m) k) (some (FF f m b.off)) none
  | _=>none
def aG (x:Value):Option Nat :=
 match x with
 | .slice _ n _=>some n
 | .string s=>some s.size
 | _=>none
def HS (x:Value) (n size:Nat) (W:CW):Option (List Value) :=
 match x with
 | .slice xb _ _=>EO xb (n*size) W
 | .string s=>cond (Nat.beq size 1) (some (EA ((sb s).take n))) none
 | _=>none
def GG (t:TypeId) (s x:Value) (W:CW):Option (Value × CW) :=
 match P.underlying t,s,aG x with
 | some (.slice elem),.slice base sLen sCap,some n =>
  DJ (D_ P elem) fun size=>DJ (Hz P elem) fun z=>DJ (HS x n size W) fun news =>
  cond (news.all Ba && Nat.beq news.length (n*size) && Nat.blt 0 size && Nat.beq z.cells.size size && Nat.ble (sLen+n) 1000000 && Nat.ble ((P.info? elem).map (·.bytes) |>.getD 2000) 1024)
   (cond (Nat.ble (sLen+n) sCap)
    (cond (Nat.beq n 0) (some (.slice base (sLen+n) sCap,W)) (match base with
     | none=>some (.slice none (sLen+n) sCap,W)
     | some a=>match W.obj a.block with
      | some (.cells c m z e)=>cond (Nat.ble (a.off+sLen*size+n*size) m)
        (some (.slice (some a) (sLen+n) sCap,W.BB a.block (.cells (c.Aa (a.off+sLen*size) news) m z e))) none
      | _=>none))
    (match base with
     | none=>cond (Nat.beq sLen 0) (some (.slice (some ⟨W.sz,0,none⟩) (sLen+n) (sLen+n),W.new (.cells (Tr.nil.Aa 0 news) ((sLen+n)*size) #[] elem))) none
     | some a=>cond a.spot.isSome (cond (Nat.beq sLen 0 && Nat.beq sCap 0) (some (.slice (some ⟨W.sz,0,none⟩) (sLen+n) (sLen+n),W.new (.cells (Tr.nil.Aa 0 news) ((sLen+n)*size) #[] elem))) none) (match W.obj a.block with
      | some (.cells c m z e)=>cond (Nat.ble (a.off+sLen*size) m && Nat.beq e elem)
        (some (.slice (some ⟨W.sz,0,none⟩) (sLen+n) (sLen+n),(W.BB a.block .dead).new (.cells (Tr.nil.Aa 0 (Bk c z (sLen*size) a.off++news)) ((sLen+n)*size) #[] elem))) none
      | _=>none)))
   none
 | _,_,_=>none
def dk (t:TypeId) (d s:Value) (W:CW):Option (Value × CW) :=
 match P.underlying t,d,aG s with
 | some (.slice elem),.slice base dm _,some sLen =>
  DJ (D_ P elem) fun size=>DJ (HS s (Nat.min sLen dm) size W) fun news =>
  cond (Nat.beq (Nat.min sLen dm) 0) (some (.int .i64 (Nat.min sLen dm),W)) (match base with
  | none=>none
  | some a=>match W.obj a.block with
   | some (.cells c m z e)=>cond (news.all Ba && Nat.ble (a.off+news.length) m) (some (.int .i64 (Nat.min sLen dm),W.BB a.block (.cells (c.Aa a.off news) m z e))) none
   | _=>none)
 | _,_,_=>none
def Vv (t:TypeId) (x:Value) (W:CW):Option CW :=
 match P.underlying t,x with
 | some (.map _ _),.map (some r)=>match W.obj r with
  | some (.map _ E7)=>some (W.BB r (.map [] E7))
  | _=>none
 | some (.map _ _),.map none=>some W
 | some (.slice elem),.slice (some a) n _=>DJ (D_ P elem) fun size=>DJ (Hz P elem) fun z0 =>
  cond (Nat.beq n 0) (some W) (match W.obj a.block with
  | some (.cells c m z e)=>cond (Nat.ble (a.off+n*z0.cells.size) m && z0.cells.toList.all Ba)
    (some (W.BB a.block (.cells (c.Aa a.off (Bk .nil z0.cells (n*z0.cells.size) 0)) m z e))) none
  | _=>none)
 | some (.slice _),.slice none _ _=>some W
 | _,_=>none
def OI (t:TypeId) (x:Value) (W:CW):Option Value :=
 match P.underlying t,x with
 | some .string,.string s=>some (.int .i64 s.size)
 | some (.slice _),.slice _ n _=>some (.int .i64 n)
 | some (.map _ _),.map none=>some (.int .i64 0)
 | some (.map _ _),.map (some r)=>match W.obj r with
  | some (.map es _)=>some (.int .i64 es.length)
  | _=>none
 | _,_=>none
def P6 (t:TypeId) (m k:Value) (W:CW):Option CW :=
 match P.underlying t,m with
 | some (.map kt _),.map (some r)=>match W.obj r with
  | some (.map es E7)=>DJ (OV P kt k es) fun f=>match f with
   | some (i,_)=>some (W.BB r (.map (L7 i es) E7))
   | none=>some (W.BB r (.map es E7))
  | _=>none
 | _,_=>none
def HT (t:TypeId):Bool :=
 match P.underlying t with
 | some (.int _)=>false
 | some _=>true
 | none=>false
def AAG (t:TypeId) (x:Value) (W:CW):Option Value :=
 match P.underlying t,x with
 | some (.slice _),.slice none _ c=>some (.int .i64 c)
 | some (.slice _),.slice (some a) _ c=>match W.obj a.block with
  | some (.cells _ _ z _)=>cond (Nat.beq z.size 0 || Nat.beq c 0) none (some (.int .i64 c))
  | _=>none
 | _,_=>none
def Jb (b:Builtin) (ts:List TypeId) (args:List Value) (W:CW):Option (Bn × CW) :=
 match b,ts,args with
 | .len,t::_,[x]=>(OI P t x W).map fun v=>(.value v,W)
 | .cap,t::_,[x]=>(AAG P t x W).map fun v=>(.value v,W)
 | .append,t::u::_,[s,x]=>cond (HT P u) ((GG P t s x W).map fun (v,W)=>(.value v,W)) none
 | .copy,t::_,[d,s]=>(dk P t d s W).map fun (v,W)=>(.value v,W)
 | .clear,t::_,[x]=>(Vv P t x W).map fun W=>(.value (.tuple #[]),W)
 | .delete,t::_,[m,k]=>(P6 P t m k W).map fun W=>(.value (.tuple #[]),W)
 | .max,_,[.int k a,.int _ b]=>some (.value (.int k (cond (decide (b>a)) b a)),W)
 | .min,_,[.int k a,.int _ b]=>some (.value (.int k (cond (decide (b<a)) b a)),W)
 | .recover,_,[]=>some (.recover,W)
 | _,_,_=>none
def wY (elem:TypeId) (s:ByteArray) (W:CW):Option (Value × CW) :=
 match P.underlying elem,D_ P elem with
 | some (.int .u8),some 1=>some (.slice (some ⟨W.sz,0,none⟩) s.size s.size,W.new (.cells (Tr.nil.Aa 0 (EA (sb s))) s.size #[] elem))
 | _,_=>none
def nj (elem:TypeId) (x:Value) (W:CW):Option Value :=
 match P.underlying elem,x with
 | some (.int .u8),.slice b n _=>DJ (EO b n W) fun l=>DJ (H9 l) fun m=>some (.string ⟨m.toArray⟩)
 | _,_=>none
def Iu (d:Value) (args:List Value):Option Bn :=
 match d with
 | .func (.func f) first cap=>some (.enter f (first.toList++args++cap.toList))
 | .func (.yield l) first _=>some (.round l (first.toList++args))
 | _=>none
def KG (f:FuncId) (args:List Value) (W:CW):Option (Value × CW) :=
 match P.funcs[f]? with
 | some fn=>cond fn.body.isNone (cond (fn.name == "maps.clone") (match args with
  | [.iface t (.map (some r))]=>match W.obj r with
   | some (.map es E7)=>some (.iface t (.map (some W.sz)),W.new (.map es E7))
   | _=>none
  | _=>none) none) none
 | none=>none
def Tm (es:List MapEntry) (since:Nat) (seen:List Nat):List (Option MapEntry) :=
 let left:=es.filter fun e=>!seen.contains e.born
 let old:=left.filter fun e=>e.born<since
 let new:=left.filter fun e=>!(e.born<since)
 (cond old.isEmpty [none] [])++(old++new).map some
def Bf (o:Oper) (e:Operand→Value) (W:CW):Option (List (Bn × CW)) :=
 let v (x:Option Value):Option (List (Bn × CW)):=match x with | some v=>some [(.value v,W)] | none=>none
 let vw (x:Option (Value × CW)):Option (List (Bn × CW)):=match x with | some (v,W)=>some [(.value v,W)] | none=>none
 let sw (x:Option CW):Option (List (Bn × CW)):=match x with | some W=>some [(.skip,W)] | none=>none
 match o.op with
 | .move x | .assign x=>some [(.value (e x),W)]
 | .pick c a b=>match e c with | .bool b0=>some [(.value (cond b0 (e a) (e b)),W)] | _=>none
 | .alloc t=>match Hz P t with
  | some z=>match D_ P t with
   | some _=>some [(.value (.pointer (some ⟨W.sz,0,none⟩)),W.new (.cells .nil z.cells.size z.cells t))]
   | none=>none
  | none=>none
 | .box t x=>match D_ P t with
  | some _=>some [(.value (Ur t (e x) W).1,(Ur t (e x) W).2)]
  | none=>none
 | .build t parts=>v (match Hz P t,P.underlying t with
  | some z,some (.struct fields)=>match fields.toList.mapM fun f=>(D_ P f.type).map fun s=>(f.offset,s) with
   | some O9=>(Instr.fill (O9[·]?) z.cells (parts.toList.map fun (i,x)=>(i,e x))).map .agg
   | none=>none
  | some z,some (.array _ elem)=>match D_ P elem with
   | some s=>(Instr.fill (fun i=>some (i*s,s)) z.cells (parts.toList.map fun (i,x)=>(i,e x))).map .agg
   | none=>none
  | _,_=>none)
 | .buildSlice t len parts=>vw (match P.underlying t with
  | some (.slice elem)=>DJ (D_ P elem) fun s=>DJ (Hz P elem) fun z =>
   cond (Nat.ble (len*s) 65536 && Nat.beq z.cells.size s) (match Instr.fill (fun i=>some (i*s,s)) ((Bk .nil z.cells (len*s) 0).toArray) (parts.toList.map fun (i,x)=>(i,e x)) with
    | some cs=>some (.slice (some ⟨W.sz,0,none⟩) len len,W.new (.cells (Tr.nil.Aa 0 cs.toList) cs.size #[] elem))
    | none=>none) none
  | _=>none)
 | .load t a=>v (match e a with | .pointer (some a)=>LI P t a W | _=>none)
 | .store t a x=>sw (match e a with | .pointer (some a)=>Kx P t a (e x) W | _=>none)
 | .nilCheck x=>v (match e x with
  | .pointer (some a)=>some (.pointer (some a))
  | .iface t v=>some (.iface t v)
  | .func (.func f) a b=>some (.func (.func f) a b)
  | .func (.yield f) a b=>some (.func (.yield f) a b)
  | _=>none)
 | .binOp op t x y _=>v (D6 P op t (isConst x || isConst y) (e x) (e y))
 | .unOp .not _ x=>v (match e x with | .bool b=>some (.bool (!b)) | _=>none)
 | .unOp .neg _ x=>v (match e x with | .int k n=>some (.int k (k.wrap (0-n))) | _=>none)
 | .convert src dst x=>match P.underlying src,P.underlying dst,e x with
  | some _,some (.int k),.int _ n=>some [(.value (.int k (k.wrap n)),W)]
  | some _,some .string,.string s=>some [(.value (.string s),W)]
  | some .string,some (.slice el),.string s=>vw (wY P el s W)
  | some (.slice el),some .string,x=>v (nj P el x W)
  | _,_,_=>none
 | .makeInterface t x=>v (match P.underlying t with | some (.interface _) | none=>none | _=>some (.iface t (e x)))
 | .makeFunc fn first cap=>v (some (.func fn (first.map e) (cap.map e)))
 | .makeMap _ none=>some [(.value (.map (some W.sz)),W.new (.map [] 0))]
 | .makeSlice t l c=>vw (match P.underlying t,e l,e c with
  | some (.slice elem),.int _ l,.int _ c=>DJ (D_ P elem) fun s=>DJ (Hz P elem) fun z =>
   cond (decide (0≤l) && decide (l≤c) && decide (c≤2000000) && Nat.ble ((P.info? elem).map (·.bytes) |>.getD 0) 1024 && Nat.beq z.cells.size s && Nat.blt 0 s)
    (some (.slice (some ⟨W.sz,0,none⟩) l.toNat c.toNat,W.new (.cells .nil (c.toNat*s) z.cells elem))) none
  | _,_,_=>none)
 | .slice t x lo hi mx=>v (match P.underlying t,e x with
  | some .string,.string s=>DJ (bound (hi.map e) s.size s.size) fun h=>DJ (bound (lo.map e) 0 h) fun l=>cond mx.isSome none (some (.string (s.extract l h)))
  | _,x=>Vu P W t x (lo.map e) (hi.map e) (mx.map e))
 | .fieldAddr s x f=>v (match P.underlying s,e x with
  | some (.struct fs),.pointer (some a)=>match fs[f]? with
   | some fd=>match D_ P fd.type with
    | some m=>cond (Nat.beq m 0) none (some (.pointer (some ⟨a.block,a.off+fd.offset,none⟩)))
    | none=>none
   | none=>none
  | _,_=>none)
 | .field t x f=>v (match P.underlying t,e x with
  | some (.struct fs),.agg cs=>match fs[f]? with
   | some fd=>match agg? P fd.type,D_ P fd.type with
    | some true,some m=>some (.agg (cs.extract fd.offset (fd.offset+m)))
    | some false,_=>cs[fd.offset]?
    | _,_=>none
   | none=>none
  | _,_=>none)
 | .indexAddr t x ix=>v (match e ix with
  | .int _ i=>match P.underlying t,e x with
   | some (.array len elem),.pointer (some a)=>DJ (D_ P elem) fun s=>cond (decide (0≤i) && decide (i<len)) (some (.pointer (some ⟨a.block,a.off+i.toNat*s,none⟩))) none
   | some (.slice elem),.slice (some a) len _=>DJ (D_ P elem) fun s=>cond (decide (0≤i) && decide (i<len)) (some (.pointer (some ⟨a.block,a.off+i.toNat*s,none⟩))) none
   | _,_=>none
  | _=>none)
 | .index t x ix=>v (match e ix with
  | .int _ i=>match P.underlying t,e x with
   | some (.array len elem),.agg cs=>cond (decide (0≤i) && decide (i<len)) (match agg? P elem,D_ P elem with
    | some true,some m=>some (.agg (cs.extract (i.toNat*m) (i.toNat*m+m)))
    | some false,some m=>cs[i.toNat*m]?
    | _,_=>none) none
   | some .string,.string s=>cond (decide (0≤i)) ((s[i.toNat]?).map fun b=>.int .u8 b.toNat) none
   | _,_=>none
  | _=>none)
 | .lookup t x k ok=>v (match P.underlying t,e x with
  | some (.map kt elem),m=>DJ (Hz P elem) fun z=>DJ (match m with
    | .map none=>some []
    | .map (some r)=>match W.obj r with | some (.map es _)=>some es | _=>none
    | _=>none) fun es=>DJ (OV P kt (e k) es) fun r=>match r with
     | some (_,x)=>some (cond ok (.tuple #[x,.bool true]) x)
     | none=>some (cond ok (.tuple #[z,.bool false]) z)
  | _,_=>none)
 | .mapUpdate t m k x | .insert t m k x=>sw (match P.underlying t,e m with
  | some (.map kt _),.map (some r)=>match W.obj r with
   | some (.map es E7)=>DJ (OV P kt (e k) es) fun f=>match f with
    | some (i,_)=>some (W.BB r (.map (KF (e x) (e k) i es) E7))
    | none=>some (W.BB r (.map (es++[{ key:=e k,val:=e x,born:=E7 }]) (E7+1)))
   | _=>none
  | _,_=>none)
 | .range t x=>vw (match P.underlying t,e x with
  | some (.map _ _),.map none=>some (.pointer (some ⟨W.sz,0,none⟩),W.new (.iter none 0 [] 0))
  | some (.map _ _),.map (some r)=>match W.obj r with
   | some (.map _ E7)=>some (.pointer (some ⟨W.sz,0,none⟩),W.new (.iter (some r) E7 [] E7))
   | _=>none
  | _,_=>none)
 | .next it false=>match e it with
  | .pointer (some a)=>cond (!Nat.beq a.off 0) none <| match W.obj a.block with
   | some (.iter none _ _ _)=>some [(.value (.tuple #[.bool false]),W)]
   | some (.iter (some r) since seen last)=>match W.obj r with
    | some (.map es E7) =>
     cond (!seen.isEmpty && !es.isEmpty && es.all fun e=>!(e.born<last)) none
      (some ((Tm es since seen).map fun c=>match c with
       | some en=>(.value (.tuple #[.bool true,en.key,en.val]),W.BB a.block (.iter (some r) since (seen++[en.born]) E7))
       | none=>(.value (.tuple #[.bool false]),W)))
    | _=>none
   | _=>none
  | _=>none
 | .entry it=>v (match e it with
  | .pointer (some a)=>cond (!Nat.beq a.off 0) none <| match W.obj a.block with
   | some (.iter (some r) _ seen Us)=>match seen.getLast?,W.obj r with
    | some st,some (.map es E7)=>cond (Nat.beq E7 Us) ((es.find? fun e=>Nat.beq e.born st).map fun e=>.tuple #[e.key,e.val]) none
    | _,_=>none
   | _=>none
  | _=>none)
 | .typeAssert x _ t ok=>v (match P.underlying t,e x with
  | some (.interface _),_=>none
  | some _,.iface u y=>cond (Nat.beq t u) (some (cond ok (.tuple #[y,.bool true]) y)) (cond ok ((Hz P t).map fun z=>.tuple #[z,.bool false]) none)
  | _,_=>none)
 | .extract x i=>v (match e x with | .tuple vs=>vs[i]? | _=>none)
 | .call c=>match c.callee with
  | .value f=>match Iu (e f) (c.args.toList.map e) with
   | some (.enter g as)=>match KG P g as W with
    | some (v,W1)=>some [(.value v,W1)]
    | none=>some [(.enter g as,W)]
   | some n=>some [(n,W)]
   | none=>none
  | .builtin b=>match Jb P b c.argTypes.toList (c.args.toList.map e) W with | some r=>some [r] | none=>none
  | _=>none
 | .defer c=>match c.callee with
  | .value f=>match e f with
   | .func (.func g) first cap=>some [(.defer { target:=.fn (.func g) cap,args:=first++c.args.map e },W)]
   | _=>none
  | _=>none
 | .panic x=>match e x with | .iface t y=>some [(.panic (.iface t y),W)] | _=>none
 | _=>none
end
end Go.Ce
namespace Go.Ce
abbrev L8:=Option (List (Exit × AK × CW))
abbrev Ends:=Option (List (Ending × CW))
abbrev ADX:=Option (List (Ending × FrameMode × CW))
structure C6 where
 code:Option Nat→FuncId→Code→AK→CW→L8
 call:FuncId→List Value→CW→Ends
 round:Nat→List Value→CW→Ends
 Iv:FuncId→List Value→FrameMode→CW→ADX
 eqv:Value→Value→Bool
def C6.base (eqv:Value→Value→Bool):C6:=⟨fun _ _ _ _ _=>Option.none,fun _ _ _=>Option.none,fun _ _ _=>Option.none,fun _ _ _ _=>Option.none,eqv⟩
def Fp {α β:Type} (f:α→Option (List β)):List α→Option (List β)
 | []=>some []
 | x::xs=>match f x with
  | Option.none=>Option.none
  | some l=>match Fp f xs with
   | Option.none=>Option.none
   | some m=>some (l++m)
def C7 {α β:Type} (o:Option (List α)) (f:α→Option (List β)):Option (List β) :=
 match o with
 | Option.none=>Option.none
 | some l=>Fp f l
def Ky (ops:Array Oper) (a:AK) (j:Nat):Option Bool :=
 match ops[j]? with
 | some o=>match o.dst with
  | some d=>match a.t.get d with
   | some (.bool b)=>some b
   | _=>none
  | none=>none
 | none=>none
def El (ops:Array Oper) (o:Oper) (a:AK):Bool :=
 match o.guard with
 | none=>true
 | some (j,want)=>match Ky ops a j with
  | some b=>b == want
  | none=>false
section
variable (P:Program)
def dR (ops:Array Oper) (i:Nat):List Nat :=
 match ops[i]? with
 | some o=>(o.after.toList.filter (Region.binds .any)).map (·.on)
 | none=>[]
def aH (l:List Nat):List Nat→List Nat
 | []=>l
 | x::xs=>aH (cond (l.any (Nat.beq x)) l (l++[x])) xs
def wZ (ops:Array Oper):Nat→List Nat→List Nat
 | 0,l=>l
 | f+1,l=>let m:=aH l (l.flatMap (dR ops)); cond (Nat.beq m.length l.length) l (wZ ops f m)
def GX (ops:Array Oper) (i:Nat):List Nat:=wZ ops ops.size (dR ops i)
def anc (ops:Array Oper) (i j:Nat):Bool:=(GX ops i).any (Nat.beq j)
def Dj (o:Oper):Bool :=
 match o.op with
 | .move _ | .assign _ | .pick .. | .build .. | .nilCheck _ | .binOp .. | .unOp .. | .makeInterface .. | .makeFunc .. | .field .. | .fieldAddr .. | .indexAddr .. | .index .. | .typeAssert .. | .extract ..=>true
 | .convert s d _=>(match P.underlying s with | some (.slice _)=>false | _=>true) && (match P.underlying d with | some (.slice _)=>false | _=>true)
 | _=>false
def EP (o:Oper):Bool :=
 match o.op with
 | .load .. | .slice .. | .lookup .. | .entry _=>true
 | .call c=>match c.callee with
  | .builtin .len=>true
  | _=>false
 | .convert s d _=>(match P.underlying s with | some (.slice _)=>true | _=>false) && (match P.underlying d with | some .string=>true | _=>false)
 | _=>false
def aI (ops:Array Oper):Nat→Operand→Bool
 | n+1,.tmp t=>match ops.toList.find? (fun o=>match o.dst with | some d=>Nat.beq d t | none=>false) with
  | some o=>Dj P o && o.guard.isNone && o.op.operands.toList.all (aI ops n)
  | none=>true
 | 0,.tmp _=>false
 | _,_=>true
def floatKind (ops:Array Oper) (o:Oper):Bool :=
 match o.op,o.guard with
 | .alloc _,none=>true
 | .makeMap _ none,none=>true
 | .makeSlice _ l c,none=>aI P ops 6 l && aI P ops 6 c
 | _,_=>false
def SB (o:Oper):Bool:=!(Dj P o || EP P o)
def G7 (ops:Array Oper):List Nat :=
 let n:=ops.size
 let ws:=(List.range n).filter fun i=>match ops[i]? with | some o=>SB P o | none=>false
 ws.filter fun i=>match ops[i]? with
  | some o=>floatKind P ops o && ws.any fun j=>!Nat.beq i j && !anc ops i j && !anc ops j i
  | none=>false
def CE (l:List Nat) (i:Nat):Bool:=l.any (Nat.beq i)
def Il (ops:Array Oper):Bool :=
 let n:=ops.size
 let fl:=G7 P ops
 (List.range n).all fun i=>match ops[i]? with
  | some oi =>
   let an:=GX ops i
   (dR ops i).all (fun p=>Nat.blt p i) && (List.range i).all fun j=>CE an j || (match ops[j]? with
    | some oj=>oj.apart ops oi && !(SB P oi && SB P oj && !CE fl i && !CE fl j)
    | none=>true)
  | none=>true
def aJ:Nat→Value→Value→Bool
 | 0,_,_=>false
 | n+1,v,w=>match v,w with
  | .bool a,.bool b=>a == b
  | .int j a,.int k b=>decide (j=k) && a == b
  | .pointer none,.pointer none=>true
  | .pointer (some ⟨a,i,none⟩),.pointer (some ⟨b,j,none⟩)=>Nat.beq a b && Nat.beq i j
  | .slice none n c,.slice none m d=>Nat.beq n m && Nat.beq c d
  | .slice (some ⟨a,i,none⟩) n c,.slice (some ⟨b,j,none⟩) m d=>Nat.beq a b && Nat.beq i j && Nat.beq n m && Nat.beq c d
  | .map none,.map none=>true
  | .map (some a),.map (some b)=>Nat.beq a b
  | .nilIface,.nilIface=>true
  | .nilFunc,.nilFunc=>true
  | .string a,.string b=>YK (sb a) (sb b)
  | .iface t v,.iface u w=>Nat.beq t u && aJ n v w
  | .agg x,.agg y=>Nat.beq x.size y.size && (x.toList.zip y.toList).all fun (v,w)=>aJ n v w
  | .tuple x,.tuple y=>Nat.beq x.size y.size && (x.toList.zip y.toList).all fun (v,w)=>aJ n v w
  | .func (.func f) x x',.func (.func g) y y'=>Nat.beq f g && Nat.beq x.size y.size && Nat.beq x'.size y'.size && (x.toList.zip y.toList).all (fun (v,w)=>aJ n v w) && (x'.toList.zip y'.toList).all fun (v,w)=>aJ n v w
  | _,_=>false
def C8:Option Az→Option Az→Bool
 | some (.map [] 0),some (.map [] 0)=>true
 | some (.cells .nil n z e),some (.cells .nil m y f)=>Nat.beq n m && Nat.beq e f && Nat.beq z.size y.size && (z.toList.zip y.toList).all fun (v,w)=>aJ 6 v w
 | _,_=>false
def AAH (xs ys:List Value):Bool:=Nat.beq xs.length ys.length && (xs.zip ys).all fun (v,w)=>aJ 8 v w
def AAI:Option Value→Option Value→Bool
 | none,none=>true
 | some v,some w=>aJ 8 v w
 | _,_=>false
def teq:Nat→Tr Value→Tr Value→Bool
 | _,.nil,.nil=>true
 | n+1,.node l v r,.node l' v' r'=>AAI v v' && teq n l l' && teq n r r'
 | _,_,_=>false
def meq (a b:MapEntry):Bool:=aJ 8 a.key b.key && aJ 8 a.val b.val && Nat.beq a.born b.born
def AAJ:Az→Az→Bool
 | .cells c n z e,.cells c' n' z' e'=>Nat.beq n n' && Nat.beq e e' && AAH z.toList z'.toList && teq 30 c c'
 | .map es k,.map C3 k'=>Nat.beq k k' && Nat.beq es.length C3.length && (es.zip C3).all fun (a,b)=>meq a b
 | .deferred,.deferred=>true
 | _,_=>false
def yp:Option Az→Option Az→Option Az
 | some o,some o'=>cond (AAJ o o') (some o) none
 | _,_=>none
def Tn:Nat→Tr Az→Tr Az→Tr Az
 | n+1,.node l v r,.node l' v' r'=>.node (Tn n l l') (yp v v') (Tn n r r')
 | _,_,_=>.nil
def meet (W W':CW):CW:=⟨Tn 30 W.h W'.h,max W.sz W'.sz⟩
def Jc:List (Ending × CW)→Option (Value × CW)
 | [(.returned v,W)]=>some (v,W)
 | (.returned v,W)::rest=>match Jc rest with
  | some (u,W')=>cond (aJ 8 v u) (some (v,meet W W')) none
  | none=>none
 | _=>none
def merged (o:Ends):Ends :=
 match o with
 | some (x::y::l)=>match Jc (x::y::l) with
  | some (v,W)=>some [(.returned v,W)]
  | none=>some (x::y::l)
 | o=>o
def Fq (R:C6) (ops:Array Oper):List Oper→AK→CW→L8
 | [],a,W=>some [(.normal,a,W)]
 | o::rest,a,W =>
  match El ops o a with
  | true=>C7 (Bf P o a.eval W) fun (n,W)=>match n with
    | .value v=>Fq R ops rest (a.put o.dst v) W
    | .skip=>Fq R ops rest (a.put o.dst undef) W
    | .defer d=>Fq R ops rest ({ a with defers:=d::a.defers }.put o.dst undef) W
    | .enter f args=>C7 (R.call f args W) fun (e,W)=>match e with
     | .returned v=>Fq R ops rest (a.put o.dst v) W
     | .panicked ch=>some [(.panic ch,a,W)]
     | .outgrown=>none
    | .round l args=>C7 (R.round l args W) fun (e,W)=>match e with
     | .returned v=>Fq R ops rest (a.put o.dst v) W
     | .panicked ch=>some [(.panic ch,a,W)]
     | .outgrown=>none
    | .recover=>none
    | .panic v=>some [(.panic [{ v,recovered:=false }],a,W)]
  | false=>Fq R ops rest (a.put o.dst undef) W
def F2:Nat→Value→Bool
 | 0,_=>false
 | n+1,v=>match v with
  | .bool _ | .int _ _ | .float _ _ | .complex _ _ _ | .string _ | .pointer none | .slice none _ _ | .map none | .chan none | .nilFunc | .nilIface=>true
  | .agg x=>x.toList.all (F2 n)
  | .tuple x=>x.toList.all (F2 n)
  | .iface _ v=>F2 n v
  | _=>false
def Am:Operand→Bool
 | .tmp _=>true
 | .const v=>F2 8 v
 | .global _=>false
 | .func _=>true
def Vw (o:Oper):Bool :=
 match o.op with
 | .move x | .assign x | .nilCheck x | .unOp _ _ x | .convert _ _ x | .makeInterface _ x | .field _ x _ | .fieldAddr _ x _ | .range _ x | .next x false | .entry x | .typeAssert x _ _ _ | .extract x _ | .panic x | .box _ x=>Am x
 | .load _ x=>Am x || (match x with | .global _=>true | _=>false)
 | .pick c a b=>Am c && Am a && Am b
 | .alloc _ | .makeMap _ none=>true
 | .build _ ps | .buildSlice _ _ ps=>ps.toList.all fun p=>Am p.2
 | .store _ a x=>Am a && Am x
 | .binOp _ _ x y _ | .makeSlice _ x y | .indexAddr _ x y | .index _ x y | .lookup _ x y _=>Am x && Am y
 | .makeFunc (.func _) f c=>f.toList.all Am && c.toList.all Am
 | .slice _ x l h m=>Am x && l.all Am && h.all Am && m.all Am
 | .mapUpdate _ m k x | .insert _ m k x=>Am m && Am k && Am x
 | .call c=>c.args.toList.all Am && (match c.callee with | .value f=>Am f | .builtin _=>true | _=>false)
 | .defer c=>c.args.toList.all Am && (match c.callee with | .value f=>Am f | _=>false)
 | _=>false
def dn (nt:Nat) (o:Oper):Bool:=match o.dst with | some d=>Nat.blt d nt | none=>true
def P7 (o:Oper):Bool:=match o.op with | .defer _=>false | _=>true
def P8 (o:Oper):Bool:=match o.guard with
 | none=>true
 | some _=>match o.op with
  | .call c=>match c.callee with
   | .value (.func g)=>(P.funcs[g]?).isSome
   | .value _=>false
   | _=>true
  | _=>true
def LJ (nt:Nat) (v7:Bool) (ops:List Oper):Bool:=ops.all fun o=>(Vw o && P8 P o) && dn nt o && (!v7 || P7 o)
def ADY (nt:Nat) (ps:Array Tmp):Bool:=ps.toList.all fun p=>Nat.blt p nt
def codeOk (nt:Nat) (v7:Bool):Code→Bool
 | .skip | .label _ | .exit _ | .ret=>true
 | .region _ ops d=>LJ P nt v7 ops.toList && (!d || Il P ops)
 | .seq x y=>codeOk nt v7 x && codeOk nt v7 y
 | .cond c x y=>Am c && (codeOk nt v7 x && codeOk nt v7 y)
 | .block _ b=>codeOk nt v7 b
 | .scope b=>codeOk nt v7 b
 | .loop b=>codeOk nt v7 b
 | .rangeFunc f ps as bd=>Am f && ADY nt ps && codeOk nt true as && codeOk nt true bd
 | _=>false
structure FG where
 a:AK
 W:CW
 ws:List (Nat × CW)
 rd:List (Nat × Oper × AK × Value)
def early (ops:Array Oper) (a:AK) (W:CW):Nat→Operand→Value
 | n+1,.tmp t=>match ops.toList.find? (fun o=>match o.dst with | some d=>Nat.beq d t | none=>false) with
  | some o=>cond (Dj P o) ((Bf P o (early ops a W n) W).elim undef fun l=>l.head?.elim undef fun p=>match p.1 with | .value v=>v | _=>undef) undef
  | none=>a.eval (.tmp t)
 | _,x=>a.eval x
def Vx (ops:Array Oper) (a:AK) (W:CW) (o:Oper):Operand→Value :=
 match o.op with
 | .makeSlice _ _ _=>early P ops a W 6
 | _=>a.eval
def P9 (o:Oper) (a:AK) (v:Value) (ob:Option Az):Bool :=
 match o.op with
 | .makeSlice _ _ _=>match v with
  | .slice (some b) _ _=>(Bf P o a.eval ⟨.nil,b.block⟩).any fun l=>l.head?.any fun p=>match p.1 with
   | .value u=>aJ 8 u v && C8 (p.2.obj b.block) ob
   | _=>false
  | _=>false
 | _=>true
def IQ (ops:Array Oper) (a:AK):List Nat→CW→Option (List (Nat × Value × Option Az) × CW)
 | [],W=>some ([],W)
 | i::is,W=>match ops[i]? with
  | some o=>match Bf P o (Vx P ops a W o) W with
   | some [(.value v,W1)]=>match IQ ops a is W1 with
    | some (l,W2)=>some ((i,v,W1.obj W.sz)::l,W2)
    | none=>none
   | _=>none
  | none=>none
def EE (ops:Array Oper) (o:Oper) (a:AK):Option Bool :=
 match o.guard with
 | none=>some true
 | some (j,want)=>match Ky ops a j with
  | some b=>some (b == want)
  | none=>some false
def Bg (R:C6) (ops:Array Oper) (fl:List (Nat × Value × Option Az)) (i:Nat) (o:Oper) (s:FG):Option FG :=
 match fl.find? fun p=>Nat.beq p.1 i with
 | some (_,v,ob)=>cond (P9 P o s.a v ob) (some { s with a:=s.a.put o.dst v }) none
 | none=>match EE ops o s.a with
  | none=>none
  | some false=>some { s with a:=s.a.put o.dst undef }
  | some true =>
   cond (Dj P o) (match Bf P o s.a.eval s.W with
    | some [(.value v,_)]=>some { s with a:=s.a.put o.dst v }
    | _=>none)
   (cond (EP P o) (match Bf P o s.a.eval s.W with
    | some [(.value v,_)]=>some { s with a:=s.a.put o.dst v,rd:=(i,o,s.a,v)::s.rd }
    | _=>none)
   (match Bf P o s.a.eval s.W with
   | some [(.value v,W1)]=>some { s with a:=s.a.put o.dst v,W:=W1,ws:=(i,s.W)::s.ws }
   | some [(.skip,W1)]=>some { s with a:=s.a.put o.dst undef,W:=W1,ws:=(i,s.W)::s.ws }
   | some [(.enter f args,W1)]=>match merged (R.call f args W1) with
    | some [(.returned v,W2)]=>some { s with a:=s.a.put o.dst v,W:=W2,ws:=(i,s.W)::s.ws }
    | _=>none
   | some [(.round l args,W1)]=>match merged (R.round l args W1) with
    | some [(.returned v,W2)]=>some { s with a:=s.a.put o.dst v,W:=W2,ws:=(i,s.W)::s.ws }
    | _=>none
   | _=>none))
def EF (R:C6) (ops:Array Oper) (fl:List (Nat × Value × Option Az)):Nat→List Oper→FG→Option FG
 | _,[],s=>some s
 | i,o::rest,s=>match Bg P R ops fl i o s with
  | some s=>EF R ops fl (i+1) rest s
  | none=>none
def DM (F:Nat→Oper→FG→Option FG):Nat→List Oper→FG→Option FG
 | _,[],s=>some s
 | i,o::rest,s=>match F i o s with
  | some s=>DM F (i+1) rest s
  | none=>none
def Em (R:C6) (ops:Array Oper) (fl:List (Nat × Value × Option Az)) (i:Nat) (o:Oper) (s:FG):Option (List PanicEntry × CW) :=
 match fl.find? fun p=>Nat.beq p.1 i with
 | some _=>none
 | none=>match EE ops o s.a with
  | some true=>cond (Dj P o) none (cond (EP P o) none (match Bf P o s.a.eval s.W with
   | some [(.enter f args,W1)]=>match R.call f args W1 with
    | some [(.panicked ch,W2)]=>some (ch,W2)
    | _=>none
   | some [(.round l args,W1)]=>match R.round l args W1 with
    | some [(.panicked ch,W2)]=>some (ch,W2)
    | _=>none
   | _=>none))
  | _=>none
def EG (R:C6) (ops:Array Oper) (fl:List (Nat × Value × Option Az)):Nat→List Oper→FG→Option (Nat × List PanicEntry × CW)
 | _,[],_=>none
 | i,o::rest,s=>match Em P R ops fl i o s with
  | some (ch,W)=>some (i,ch,W)
  | none=>match Bg P R ops fl i o s with
   | some s=>EG R ops fl (i+1) rest s
   | none=>none
def Mp (ops:Array Oper) (i0 i:Nat):Bool:=Nat.beq i i0 || (Nat.blt i0 i && CE (GX ops i) i0)
theorem mG {ops:Array Oper} {i0 i:Nat} (h:i<i0):Mp ops i0 i=false:=by
 unfold Mp
 have h1:Nat.beq i i0=false:=by
  cases hq:Nat.beq i i0 with
  | false=>rfl
  | true=>have:=Nat.eq_of_beq_eq_true hq; omega
 have h2:Nat.blt i0 i=false:=by
  cases hq:Nat.blt i0 i with
  | false=>rfl
  | true=>have:=Nat.le_of_ble_eq_true hq; omega
 rw [h1,h2]; rfl
def H0 (R:C6) (ops:Array Oper) (fl:List (Nat × Value × Option Az)) (i0:Nat) (i:Nat) (o:Oper) (s:FG):Option FG :=
 cond (Mp ops i0 i) (some { s with a:=s.a.put o.dst undef }) (Bg P R ops fl i o s)
def AK.bad (a:AK):AK:={ a with t:=Tr.nil.set 0 (.complex .f64 0 0) }
def AK.P' (a:AK):Bool:=match a.t.get 0 with
 | some (.complex .f64 _ _)=>true
 | _=>false
def DU (ops:Array Oper) (i:Nat) (an:List Nat) (ok:CW→Bool):List (Nat × CW)→CW→Bool
 | [],W=>ok W
 | (j,Wj)::before,W =>
  (anc ops j i || ok W) && cond (CE an j) true (DU ops i an ok before Wj)
def Im (R:C6) (ops:Array Oper) (a:AK) (W:CW):L8 :=
 match IQ P ops a (G7 P ops) W with
 | none=>none
 | some (fl,W1)=>match EF P R ops fl 0 ops.toList ⟨a,W1,[],[]⟩ with
  | none=>match EG P R ops fl 0 ops.toList ⟨a,W1,[],[]⟩ with
   | none=>none
   | some (i0,ch,W2)=>match DM (H0 P R ops fl i0) 0 ops.toList ⟨a,W1,[],[]⟩ with
    | none=>none
    | some s=>cond (fl.isEmpty && s.ws.all fun x=>CE (GX ops i0) x.1)
     (cond (s.rd.all fun (i,o,a,v)=>DU ops i (GX ops i) (fun W=>match Bf P o a.eval W with | some [(.value u,_)]=>R.eqv u v | _=>false) s.ws s.W)
      (some [(.panic ch,a.bad,W2)]) none) none
  | some s =>
   cond (s.rd.all fun (i,o,a,v)=>DU ops i (GX ops i) (fun W=>match Bf P o a.eval W with | some [(.value u,_)]=>R.eqv u v | _=>false) s.ws s.W)
    (cond (fl.all fun (i,v,ob)=>DU ops i (GX ops i) (fun W=>match v with | .pointer (some b)=>C8 (W.obj b.block) ob | .map (some b)=>C8 (W.obj b) ob | .slice (some b) _ _=>C8 (W.obj b.block) ob | _=>false) s.ws s.W)
     (some [(.normal,s.a,s.W)]) none) none
def IS (o:L8) (f:AK→CW→L8):L8 :=
 C7 o fun (e,a,W)=>match e with
  | .normal=>f a W
  | e=>some [(e,a,W)]
def IJ (a:AK) (W:CW):ResultVar→Option Value
 | .tmp t=>some (match a.t.get t with | some v=>v | none=>undef)
 | .cell s ty=>match a.t.get s with
  | some (.pointer (some p))=>LI P ty p W
  | _=>none
def Gg (fn:Func) (a:AK) (W:CW):Option Value :=
 match fn.results.toList.mapM (IJ P a W) with
 | some [v]=>some v
 | some vs=>some (.tuple vs.toArray)
 | none=>none
def leaves (R:C6) (fn:Func) (a:AK):List Deferred→FrameMode→CW→Ends
 | [],.returning,W=>match Gg P fn a W with
  | some v=>some [(.returned v,W)]
  | none=>none
 | [],.panicking ch,W=>some [(.panicked ch,W)]
 | [],.run,_=>none
 | d::ds,u,W=>match d.target with
  | .collected r=>match W.obj r with
   | some .deferred=>leaves R fn a ds u (W.BB r .dead)
   | _=>none
  | .fn (.func f) cap=>C7 (R.Iv f (d.args.toList++cap.toList) u W) fun (e,u,W)=>match e with
   | .returned _=>leaves R fn a ds (settle u) W
   | _=>none
  | _=>none
def Gy:List Deferred→List PanicEntry→CW→Ends
 | [],ch,W=>some [(.panicked ch,W)]
 | d::ds,ch,W=>match d.target with
  | .collected r=>match W.obj r with
   | some .deferred=>Gy ds ch (W.BB r .dead)
   | _=>none
  | _=>none
def Vy (ro:Option Nat) (W:CW):Option (Nat × List Deferred × CW) :=
 match ro with
 | some l=>match W.obj l with
  | some (.loop _ _ _ _ _ _ _ _ d)=>some (d,[],W)
  | _=>none
 | none=>some (W.sz,[{ target:=.collected W.sz,args:=#[] }],W.new .deferred)
def B0 (R:C6) (ro:Option Nat) (fn:FuncId) (c:Code) (a:AK) (W:CW):L8 :=
 match c with
 | .skip=>some [(.normal,a,W)]
 | .label _=>some [(.normal,a,W)]
 | .exit id=>some [(.exit id,a,W)]
 | .ret=>some [(.ret,a,W)]
 | .region _ ops false=>Fq P R ops ops.toList a W
 | .region _ ops true=>Im P R ops a W
 | .seq x y=>IS (R.code ro fn x a W) (R.code ro fn y)
 | .cond c x y=>match a.eval c with
  | .bool b=>R.code ro fn (cond b x y) a W
  | _=>none
 | .block id b=>C7 (R.code ro fn b a W) fun (e,a,W)=>match e with
  | .exit To=>cond (Nat.beq To id) (some [(.normal,a,W)]) (some [(.exit To,a,W)])
  | e=>some [(e,a,W)]
 | .scope b=>R.code ro fn b a W
 | .loop b=>IS (R.code ro fn b a W) (R.code ro fn (.loop b))
 | .rangeFunc f ps assign body =>
  match Vy ro W with
  | none=>none
  | some (dl,mark,W1) =>
   match Iu (a.eval f) [.func (.yield W1.sz) #[] #[]] with
   | some (.enter g args)=>C7 (R.call g args (W1.new (.loop .ready none fn a.t a.nt ps assign body dl))) fun (e,W3)=>match e with
    | .returned _=>match W3.obj W1.sz with
     | some (.loop st EH lf lt ln lp la lb ld) =>
      match st with
      | .busy=>none
      | _=>match EH with
       | none=>some [(.normal,{ a with defers:=mark++a.defers },W3.BB W1.sz (.loop .exhausted EH lf lt ln lp la lb ld))]
       | some .ret=>some [(.ret,{ a with defers:=mark++a.defers },W3.BB W1.sz (.loop .exhausted EH lf lt ln lp la lb ld))]
       | some (.exit id)=>some [(.exit id,{ a with defers:=mark++a.defers },W3.BB W1.sz (.loop .exhausted EH lf lt ln lp la lb ld))]
       | _=>none
     | _=>none
    | .panicked ch=>some [(.panic ch,{ a with defers:=mark++a.defers },W3)]
    | _=>none
   | _=>none
 | _=>none
def G8 (R:C6) (ops:Array Oper):List Oper→AK→FrameMode→CW→Option (List (Exit × AK × FrameMode × CW))
 | [],a,u,W=>some [(.normal,a,u,W)]
 | o::rest,a,u,W =>
  match El ops o a with
  | true=>C7 (Bf P o a.eval W) fun (n,W)=>match n with
    | .value v=>G8 R ops rest (a.put o.dst v) u W
    | .skip=>G8 R ops rest (a.put o.dst undef) u W
    | .recover=>match u with
     | .panicking ({ v,recovered:=false,goexit:=false }::ADZ)=>G8 R ops rest (a.put o.dst v) (.panicking ({ v,recovered:=true }::ADZ)) W
     | _=>G8 R ops rest (a.put o.dst .nilIface) u W
    | .panic v=>some [(.panic [{ v,recovered:=false }],a,u,W)]
    | _=>none
  | false=>G8 R ops rest (a.put o.dst undef) u W
def gp (R:C6) (fn:FuncId):Code→AK→FrameMode→CW→Option (List (Exit × AK × FrameMode × CW))
 | .region _ ops false,a,u,W=>G8 P R ops ops.toList a u W
 | .seq x y,a,u,W=>C7 (gp R fn x a u W) fun (e,a,u,W)=>match e with
  | .normal=>gp R fn y a u W
  | e=>some [(e,a,u,W)]
 | .cond c x y,a,u,W=>match a.eval c with
  | .bool true=>gp R fn x a u W
  | .bool false=>gp R fn y a u W
  | _=>none
 | c,a,u,W=>C7 (R.code none fn c a W) fun (e,a,W)=>some [(e,a,u,W)]
def Vz (l:Nat) (j:Option Code) (W:CW):Ends :=
 match W.obj l with
 | some (.loop _ _ f t nt ps assign body ld)=>some [(.returned (.bool j.isNone),W.BB l (.loop (match j with | none=>.ready | some _=>.done) j f t nt ps assign body ld))]
 | _=>none
def H' (fn:Func) (args:List Value):AK:=⟨Tr.nil.Aa 0 args,fn.ntmps,[]⟩
def DL (L:List FuncId) (R:C6):C6 where
 eqv:=R.eqv
 code:=B0 P R
 call f args W:=cond (!CE L f) none <| (fun r=>cond (CE L (f+2000000) && args.isEmpty) (some [(.returned (.bool true),W)]) r) <| (fun r=>cond (CE L (f+1000000)) (merged r) r) <|
  match P.funcs[f]? with
  | some fn=>match fn.body with
   | some c=>cond (Nat.ble args.length fn.ntmps) (C7 (R.code none f c (H' fn args) W) fun (e,a,W) =>
    match e with
    | .normal=>leaves P R fn a a.defers .returning W
    | .ret=>leaves P R fn a a.defers .returning W
    | .panic ch=>cond a.P' (Gy a.defers ch W) (leaves P R fn a a.defers (.panicking ch) W)
    | _=>none) none
   | _=>none
  | _=>none
 Iv f args u W:=cond (!CE L f) none <|
  match P.funcs[f]? with
  | some fn=>match fn.body with
   | some c=>cond (Nat.ble args.length fn.ntmps) (C7 (gp P R f c (H' fn args) u W) fun (e,a,u,W) =>
    cond a.defers.isEmpty (match e with
    | .normal=>match Gg P fn a W with
     | some v=>some [(.returned v,u,W)]
     | none=>none
    | .ret=>match Gg P fn a W with
     | some v=>some [(.returned v,u,W)]
     | none=>none
    | _=>none) none) none
   | _=>none
  | _=>none
 round l args W :=
  match W.obj l with
  | some (.loop .ready _ f t nt ps assign body _) =>
   cond (Nat.beq args.length ps.size) (C7 (R.code (some l) f assign ⟨(ps.toList.zip args).foldl (fun t (p:Tmp × Value)=>t.set p.1 p.2) t,nt,[]⟩ W) fun (e,a,W)=>match e with
    | .normal=>match W.obj l with
     | some (.loop .ready EH f t nt ps wa ADa ld) =>
      C7 (R.code (some l) f body a (W.BB l (.loop .busy EH f t nt ps wa ADa ld))) fun (e,a,W)=>match e with
       | .normal=>Vz l none W
       | .ret=>Vz l (some .ret) W
       | .exit id=>Vz l (some (.exit id)) W
       | .panic ch=>cond a.defers.isEmpty (some [(.panicked ch,W)]) none
       | _=>none
     | _=>none
    | _=>none) none
  | _=>none
def wc (eqv:Value→Value→Bool) (L:List FuncId):Nat→C6:=fun n=>Nat.rec (C6.base eqv) (fun _ ih=>DL P L ih) n
def gq (L:List FuncId):Nat→C6:=wc P (aJ 8) L
def evR (L:List FuncId):Nat→C6
 | 0=>C6.base (aJ 8)
 | n+1=>DL P L (evR L n)
def aE (L:List FuncId):Bool:=L.all fun f=>match P.funcs[f]? with
 | some fn=>match fn.body with
  | some c=>codeOk P fn.ntmps false c
  | none=>true
 | none=>true
end
def W0 (g:Nat):CW:=⟨.nil,g⟩
def Nu:Ends→Bool
 | some l=>l.all fun (e,_)=>match e with | .returned (.bool true)=>true | _=>false
 | none=>false
@[noinline] def cnt (P:Program) (f:Nat) (L:List Nat:=List.range 300) (g:Nat:=0):String:=match (evR P L 6000).call f [] (W0 g) with
 | some l=>s!"outcomes {l.length}: "++String.join ((l.take 3).map fun (e,W)=>s!"blocks {W.sz} {match e with | .returned (.bool b) => toString b | .panicked _ => "pan" | _ => "?"}; ")
 | none=>"none"
end Go.Ce
namespace Go.Ce
open Go.RowKit (Below)
theorem Tr.get_nil {α:Type} (i:Nat):(Tr.nil:Tr α).get i=none:=rfl
theorem Tr.Gh {α:Type} (l:Tr α) (v:Option α) (r:Tr α) (i:Nat) :
  (Tr.node l v r).get i=if i=0 then v else if i % 2=1 then l.get (i / 2) else r.get (i / 2-1):=by
 simp only [Tr.get,cond_eq_ite,Nat.beq_eq]
theorem Tr.rO {α:Type} (f:Nat):∀ (t:Tr α) (i:Nat) (x:α) (j:Nat),i<f→(Tr.dg f t i x).get j=if j=i then some x else t.get j:=by
 induction f with
 | zero=>intro t i x j h; omega
 | succ f ih =>
  intro t i x j h; have h1:i≠0→i / 2<f:=by omega
  have h2:i≠0→i / 2-1<f:=by omega
  cases t with
  | nil =>
   simp only [Tr.dg,cond_eq_ite,Nat.beq_eq]
   by_cases hi:i=0
   ·subst hi; simp only [if_true,Tr.Gh,Tr.get_nil]
    by_cases hj:j=0
    ·simp [hj]
    ·simp [hj]
   ·rw [if_neg hi]
    by_cases hm:i % 2=1
    ·rw [if_pos hm,Tr.Gh,ih _ _ _ _ (h1 hi)]
     by_cases hj:j=0
     ·simp [hj,Tr.get_nil]; omega
     ·rw [if_neg hj]
      by_cases UQ:j % 2=1
      ·rw [if_pos UQ]
       by_cases e:j=i
       ·simp [e]
       ·rw [if_neg (by omega),if_neg e]; rfl
      ·rw [if_neg UQ,if_neg (by omega)]; rfl
    ·rw [if_neg hm,Tr.Gh,ih _ _ _ _ (h2 hi)]
     by_cases hj:j=0
     ·simp [hj,Tr.get_nil]; omega
     ·rw [if_neg hj]
      by_cases UQ:j % 2=1
      ·rw [if_pos UQ,if_neg (by omega)]; rfl
      ·rw [if_neg UQ]
       by_cases e:j=i
       ·simp [e]
       ·rw [if_neg (by omega),if_neg e]; rfl
  | node l v r =>
   simp only [Tr.dg,cond_eq_ite,Nat.beq_eq]
   by_cases hi:i=0
   ·subst hi; simp only [if_true,Tr.Gh]
    by_cases hj:j=0
    ·simp [hj]
    ·simp [hj]
   ·rw [if_neg hi]
    by_cases hm:i % 2=1
    ·rw [if_pos hm,Tr.Gh,ih _ _ _ _ (h1 hi),Tr.Gh]
     by_cases hj:j=0
     ·simp [hj]; omega
     ·rw [if_neg hj,if_neg hj]
      by_cases UQ:j % 2=1
      ·rw [if_pos UQ,if_pos UQ]
       by_cases e:j=i
       ·simp [e]
       ·rw [if_neg (by omega),if_neg e]
      ·rw [if_neg UQ,if_neg UQ,if_neg (by omega)]
    ·rw [if_neg hm,Tr.Gh,ih _ _ _ _ (h2 hi),Tr.Gh]
     by_cases hj:j=0
     ·simp [hj]; omega
     ·rw [if_neg hj,if_neg hj]
      by_cases UQ:j % 2=1
      ·rw [if_pos UQ,if_pos UQ,if_neg (by omega)]
      ·rw [if_neg UQ,if_neg UQ]
       by_cases e:j=i
       ·simp [e]
       ·rw [if_neg (by omega),if_neg e]
theorem Tr.Bw {α:Type} (t:Tr α) (i:Nat) (x:α) (j:Nat):(t.set i x).get j=if j=i then some x else t.get j :=
 Tr.rO _ _ _ _ _ (by omega)
theorem Tr.KH {α:Type} (xs:List α):∀ (t:Tr α) (k j:Nat),(t.Aa k xs).get j=if k≤j∧j<k+xs.length then xs[j-k]? else t.get j:=by
 induction xs with
 | nil=>intro t k j; simp only [Tr.Aa,List.length_nil,Nat.add_zero]; rw [if_neg (by omega)]
 | cons x xs ih =>
  intro t k j; simp only [Tr.Aa,ih,Tr.Bw,List.length_cons]
  by_cases h:k+1≤j∧j<k+1+xs.length
  ·rw [if_pos h,if_pos (by omega)]; obtain ⟨m,rfl⟩:∃ m,j=k+(m+1):=⟨j-k-1,by omega⟩
   have e1:k+(m+1)-(k+1)=m:=by omega
   have e2:k+(m+1)-k=m+1:=by omega
   rw [e1,e2]; rfl
  ·rw [if_neg h]
   by_cases e:j=k
   ·subst e; simp
   ·rw [if_neg e,if_neg (by omega)]
structure Info where
 b:Nat
 o:Nat
 sz:Nat
 n:Nat
 n':Nat
abbrev Bz:=Nat→Option Info
def Ext (ρ ρ':Bz):Prop:=∀ i x,ρ i=some x→ρ' i=some x
theorem Ext.refl (ρ:Bz):Ext ρ ρ:=fun _ _ h=>h
theorem Ext.trans {ρ ρ' ρ'':Bz} (h:Ext ρ ρ') (k:Ext ρ' ρ''):Ext ρ ρ'':=fun i x e=>k i x (h i x e)
def L9 (ρ:Bz) (a a':Addr):Prop:=a.spot=none∧∃ x,ρ a.block=some x∧a'=⟨x.b,a.off+x.o,none⟩
def M1 (ρ:Bz) (r r':Nat):Prop:=∃ x,ρ r=some x∧r'=x.b
def SC (ρ:Bz) (a:Addr) (c c':Nat):Prop:=c'=c∨∃ x,ρ a.block=some x∧0<x.sz∧a.off+c*x.sz=x.n∧a.off+x.o+c'*x.sz=x.n'∧c≤c'
inductive P_ (ρ:Bz):Fn→Fn→Prop
 | func (f:FuncId):P_ ρ (.func f) (.func f)
 | yield {l l':Nat}:M1 ρ l l'→P_ ρ (.yield l) (.yield l')
 | method (s:String):P_ ρ (.method s) (.method s)
 | methodOf (t:TypeId) (s:String):P_ ρ (.methodOf t s) (.methodOf t s)
 | via (t:TypeId) (p:Array FieldStep) (f:FuncId) (b:Bool):P_ ρ (.via t p f b) (.via t p f b)
inductive AL (ρ:Bz):Value→Value→Prop
 | bool (b:Bool):AL ρ (.bool b) (.bool b)
 | int (k:IntKind) (n:Int):AL ρ (.int k n) (.int k n)
 | float (k:FloatKind) (n:Nat):AL ρ (.float k n) (.float k n)
 | complex (k:FloatKind) (n m:Nat):AL ρ (.complex k n m) (.complex k n m)
 | string (s:ByteArray):AL ρ (.string s) (.string s)
 | AAK:AL ρ (.pointer none) (.pointer none)
 | ptr {a a':Addr}:L9 ρ a a'→AL ρ (.pointer (some a)) (.pointer (some a'))
 | dp (n c:Nat):AL ρ (.slice none n c) (.slice none n c)
 | slice {a a':Addr} (n:Nat) {c c':Nat}:L9 ρ a a'→SC ρ a c c'→AL ρ (.slice (some a) n c) (.slice (some a') n c')
 | JE {a a':Addr}:a.spot=some 0→AL ρ (.slice (some a) 0 0) (.slice (some a') 0 0)
 | K1 {a a':Addr} {c':Nat} {x:Info}:a.spot=none→ρ a.block=some x→a'.block=x.b→a'.spot=none→(c'=0∨(0<x.sz∧a'.off+c'*x.sz=x.n'))→AL ρ (.slice (some a) 0 0) (.slice (some a') 0 c')
 | AAL:AL ρ (.map none) (.map none)
 | map {r r':Nat}:M1 ρ r r'→AL ρ (.map (some r)) (.map (some r'))
 | AAM:AL ρ (.chan none) (.chan none)
 | func {f f':Fn} {x x' y y':Array Value}:P_ ρ f f'→x.size=x'.size→(∀ i,i<x.size→AL ρ (x.getD i undef) (x'.getD i undef)) →
   y.size=y'.size→(∀ i,i<y.size→AL ρ (y.getD i undef) (y'.getD i undef))→AL ρ (.func f x y) (.func f' x' y')
 | nilFunc:AL ρ .nilFunc .nilFunc
 | iface (t:TypeId) {v v':Value}:AL ρ v v'→AL ρ (.iface t v) (.iface t v')
 | nilIface:AL ρ .nilIface .nilIface
 | agg {x x':Array Value}:x.size=x'.size→(∀ i,i<x.size→AL ρ (x.getD i undef) (x'.getD i undef))→AL ρ (.agg x) (.agg x')
 | tuple {x x':Array Value}:x.size=x'.size→(∀ i,i<x.size→AL ρ (x.getD i undef) (x'.getD i undef))→AL ρ (.tuple x) (.tuple x')
theorem L9.mono {ρ ρ':Bz} {a a':Addr} (h:L9 ρ a a') (e:Ext ρ ρ'):L9 ρ' a a' :=
 ⟨h.1,let ⟨x,hx,h'⟩:=h.2; ⟨x,e _ _ hx,h'⟩⟩
theorem M1.mono {ρ ρ':Bz} {a a':Nat} (h:M1 ρ a a') (e:Ext ρ ρ'):M1 ρ' a a':=let ⟨x,hx,h'⟩:=h; ⟨x,e _ _ hx,h'⟩
theorem SC.mono {ρ ρ':Bz} {a:Addr} {c c':Nat} (h:SC ρ a c c') (e:Ext ρ ρ'):SC ρ' a c c' :=
 h.imp id fun ⟨x,hx,h'⟩=>⟨x,e _ _ hx,h'⟩
theorem P_.mono {ρ ρ':Bz} {f f':Fn} (h:P_ ρ f f') (e:Ext ρ ρ'):P_ ρ' f f':=by
 cases h with
 | yield h=>exact .yield (h.mono e)
 | func f=>exact .func f
 | method s=>exact .method s
 | methodOf t s=>exact .methodOf t s
 | via t p f b=>exact .via t p f b
theorem AL.mono {ρ ρ':Bz} {v v':Value} (h:AL ρ v v') (e:Ext ρ ρ'):AL ρ' v v':=by
 induction h with
 | bool b=>exact .bool b
 | int k n=>exact .int k n
 | float k n=>exact .float k n
 | complex k n m=>exact .complex k n m
 | string s=>exact .string s
 | AAK=>exact .AAK
 | ptr h=>exact .ptr (h.mono e)
 | dp n c=>exact .dp n c
 | slice n h h'=>exact .slice n (h.mono e) (h'.mono e)
 | JE a=>exact .JE a
 | K1 q a b c d=>exact .K1 q (e _ _ a) b c d
 | AAL=>exact .AAL
 | map h=>exact .map (h.mono e)
 | AAM=>exact .AAM
 | func hf hx _ hy _ iB iC=>exact .func (hf.mono e) hx iB hy iC
 | nilFunc=>exact .nilFunc
 | iface t _ ih=>exact .iface t ih
 | nilIface=>exact .nilIface
 | agg hx _ ih=>exact .agg hx ih
 | tuple hx _ ih=>exact .tuple hx ih
theorem AL.undef (ρ:Bz):AL ρ undef undef:=.tuple rfl fun i h=>by simp at h
theorem AL.QA (ρ:Bz):∀ (n:Nat) (v:Value),F2 n v=true→AL ρ v v:=by
 intro n
 induction n with
 | zero=>intro v h; simp [F2] at h
 | succ n ih =>
  intro v h
  have all:∀ x:Array Value,x.toList.all (F2 n)=true→∀ i,i<x.size→AL ρ (x.getD i Go.undef) (x.getD i Go.undef):=by
   intro x hx i hi; rw [List.all_eq_true] at hx; have e:x.getD i Go.undef=x[i]:=by simp [Array.getD,hi]
   rw [e]; exact ih _ (hx _ (by simp))
  cases v with
  | bool b=>exact .bool b
  | int k m=>exact .int k m
  | float k m=>exact .float k m
  | complex k m l=>exact .complex k m l
  | string s=>exact .string s
  | pointer a=>cases a with
   | none=>exact .AAK
   | some a=>simp [F2] at h
  | slice a l c=>cases a with
   | none=>exact .dp l c
   | some a=>simp [F2] at h
  | map r=>cases r with
   | none=>exact .AAL
   | some a=>simp [F2] at h
  | chan r=>cases r with
   | none=>exact .AAM
   | some a=>simp [F2] at h
  | func f x y=>simp [F2] at h
  | nilFunc=>exact .nilFunc
  | iface t v=>exact .iface t (ih v (by simpa only [F2] using h))
  | nilIface=>exact .nilIface
  | agg x=>exact .agg rfl (all x (by simpa only [F2] using h))
  | tuple x=>exact .tuple rfl (all x (by simpa only [F2] using h))
theorem AL.one {ρ:Bz} {v v':Value} (h:AL ρ v v'):Ba v'=Ba v:=by cases h <;> rfl
def Aq (ρ:Bz) (xs ys:List Value):Prop:=xs.length=ys.length∧∀ i,i<xs.length→AL ρ (xs.getD i undef) (ys.getD i undef)
theorem Aq.nil (ρ:Bz):Aq ρ [] []:=⟨rfl,fun i h=>by simp at h⟩
theorem Aq.cons {ρ:Bz} {x y:Value} {xs ys:List Value} (h:AL ρ x y) (k:Aq ρ xs ys):Aq ρ (x::xs) (y::ys) :=
 ⟨by simp [k.1],fun i hi=>by
  cases i with
  | zero=>exact h
  | succ i=>exact k.2 i (by simpa using hi)⟩
theorem Aq.head {ρ:Bz} {x y:Value} {xs ys:List Value} (h:Aq ρ (x::xs) (y::ys)):AL ρ x y:=h.2 0 (by simp)
theorem Aq.tail {ρ:Bz} {x y:Value} {xs ys:List Value} (h:Aq ρ (x::xs) (y::ys)):Aq ρ xs ys :=
 ⟨by simpa using h.1,fun i hi=>h.2 (i+1) (by simpa using hi)⟩
theorem Aq.mono {ρ ρ':Bz} {xs ys:List Value} (h:Aq ρ xs ys) (e:Ext ρ ρ'):Aq ρ' xs ys:=⟨h.1,fun i hi=>(h.2 i hi).mono e⟩
theorem Aq.append {ρ:Bz} {xs ys PZ Ut:List Value} (h:Aq ρ xs ys) (k:Aq ρ PZ Ut):Aq ρ (xs++PZ) (ys++Ut):=by
 induction xs generalizing ys with
 | nil=>cases ys with
  | nil=>exact k
  | cons y ys=>simpa using h.1
 | cons x xs ih=>cases ys with
  | nil=>simpa using h.1
  | cons y ys=>exact .cons h.head (ih h.tail)
theorem Aq.map {ρ:Bz} {α:Type} (xs:List α) (f g:α→Value) (h:∀ x,x ∈ xs→AL ρ (f x) (g x)):Aq ρ (xs.map f) (xs.map g):=by
 induction xs with
 | nil=>exact .nil ρ
 | cons x xs ih=>exact .cons (h x (by simp)) (ih fun y hy=>h y (by simp [hy]))
theorem Aq.get {ρ:Bz} {xs ys:List Value} (h:Aq ρ xs ys) {i:Nat} {x:Value} (hx:xs[i]?=some x):∃ y,ys[i]?=some y∧AL ρ x y:=by
 obtain ⟨hi,e⟩:=List.getElem?_eq_some_iff.1 hx; have IT:i<ys.length:=h.1 ▸ hi; refine ⟨ys[i],by simp [IT],?_⟩; have:=h.2 i hi; simp only [List.getD_eq_getElem?_getD,hx,List.getElem?_eq_getElem IT,Option.getD_some] at this; exact this
theorem Aq.arr {ρ:Bz} {x x':Array Value}:Aq ρ x.toList x'.toList↔(x.size=x'.size∧∀ i,i<x.size→AL ρ (x.getD i undef) (x'.getD i undef)):=by
 unfold Aq; simp only [Array.length_toList,Array.getD_eq_getD_getElem?,List.getD_eq_getElem?_getD,Array.getElem?_toList]
theorem AL.dq {ρ:Bz} {x x':Array Value} (h:Aq ρ x.toList x'.toList):AL ρ (.agg x) (.agg x'):=.agg (Aq.arr.1 h).1 (Aq.arr.1 h).2
theorem AL.tuple' {ρ:Bz} {x x':Array Value} (h:Aq ρ x.toList x'.toList):AL ρ (.tuple x) (.tuple x'):=.tuple (Aq.arr.1 h).1 (Aq.arr.1 h).2
theorem AL.GH {ρ:Bz} {x:Array Value} {v:Value} (h:AL ρ (.agg x) v):∃ x',v=.agg x'∧Aq ρ x.toList x'.toList:=by
 cases h with | agg e k=>exact ⟨_,rfl,Aq.arr.2 ⟨e,k⟩⟩
theorem AL.nk {ρ:Bz} {x:Array Value} {v:Value} (h:AL ρ (.tuple x) v):∃ x',v=.tuple x'∧Aq ρ x.toList x'.toList:=by
 cases h with | tuple e k=>exact ⟨_,rfl,Aq.arr.2 ⟨e,k⟩⟩
theorem AL.cells {ρ:Bz} {v v':Value} (h:AL ρ v v'):Aq ρ v.cells.toList v'.cells.toList:=by
 cases h <;> first
  | exact .cons (by first | (constructor <;> assumption) | (apply AL.K1 <;> assumption) | (apply AL.JE <;> assumption)) (.nil ρ)
  | (rename_i e k; exact Aq.arr.2 ⟨e,k⟩)
end Go.Ce
namespace Go.Ce
open Go.RowKit (Below)
inductive aK (ρ:Bz):MapEntry→MapEntry→Prop
 | mk {k v k' v':Value} (b:Nat):AL ρ k k'→AL ρ v v'→aK ρ ⟨k,v,b⟩ ⟨k',v',b⟩
def B_ (ρ:Bz):List MapEntry→List MapEntry→Prop
 | [],[]=>True
 | e::es,e'::C3=>aK ρ e e'∧B_ ρ es C3
 | _,_=>False
theorem aK.mono {ρ ρ':Bz} {e e':MapEntry} (h:aK ρ e e') (x:Ext ρ ρ'):aK ρ' e e':=by
 cases h with | mk b hk hv=>exact .mk b (hk.mono x) (hv.mono x)
theorem B_.mono {ρ ρ':Bz} (x:Ext ρ ρ'):∀ {es C3:List MapEntry},B_ ρ es C3→B_ ρ' es C3
 | [],[],_=>trivial
 | _::_,_::_,h=>⟨h.1.mono x,B_.mono x h.2⟩
 | [],_::_,h=>h.elim
 | _::_,[],h=>h.elim
def NF (fr:Nat × Nat) (n:Nat):Prop:=∀ k,k<n→(decide (fr.1≤k) && decide (k<fr.2))=false
theorem NF.zero (n:Nat):NF (0,0) n:=fun k _=>by simp
inductive Io (P:Program) (ρ:Bz) (x:Info):Az→Obj→Prop
 | cells {c:Tr Value} {z:Array Value} {e:TypeId} {c':Array Value} {fr:Nat × Nat}:(P.info? e).map (·.size)=some x.sz→c'.size=x.n'→x.o+x.n≤x.n' →
   (∀ k,k<x.n→AL ρ (cellAt c z k) (c'.getD (k+x.o) undef))→(NF fr c'.size∧(z.size≠0→x.o=0∧x.n=x.n'))→Io P ρ x (.cells c x.n z e) (.cells c' e fr)
 | fixed {f:Nat→Value} {e e':TypeId} {c':Array Value} {fr:Nat × Nat}:(P.info? e).map (·.size)=some x.sz→c'.size=x.n'→x.o+x.n≤x.n' →
   (∀ k,k<x.n→AL ρ (f k) (c'.getD (k+x.o) undef))→Io P ρ x (.fixed f x.n e) (.cells c' e' fr)
 | map {es:List MapEntry} {C3:Array MapEntry} {E7:Nat}:x.o=0→B_ ρ es C3.toList→Io P ρ x (.map es E7) (.map C3 E7)
 | QB {s l:Nat} {seen:List Nat} {ADb:Array Nat}:x.o=0→Io P ρ x (.iter none s seen l) (.mapIter none s ADb l)
 | iter {m m' s l:Nat} {seen:List Nat}:x.o=0→M1 ρ m m'→Io P ρ x (.iter (some m) s seen l) (.mapIter (some m') s seen.toArray l)
 | loop {st:LoopState} {pd:Option Code} {f f':FuncId} {t:Tr Value} {t':Array Value} {ps:Array Tmp} {as bd:Code} {d d':Nat} :
   (∀ i,AL ρ ((t.get i).getD undef) (t'.getD i undef))→M1 ρ d d'→(ADY t'.size ps=true∧codeOk P t'.size true as=true∧codeOk P t'.size true bd=true)→(∃ fn,P.funcs[f']?=some fn) →
   Io P ρ x (.loop st pd f t t'.size ps as bd d) (.loop { state:=st,pending:=pd,fn:=f',tmps:=t',params:=ps,assign:=as,body:=bd,defers:=d' })
 | deferred:Io P ρ x .deferred (.deferred (some []))
theorem Io.mono {P:Program} {ρ ρ':Bz} {x:Info} {o:Az} {o':Obj} (h:Io P ρ x o o') (e:Ext ρ ρ'):Io P ρ' x o o':=by
 cases h with
 | cells a b c d q=>exact .cells a b c (fun k hk=>(d k hk).mono e) q
 | fixed a b c d=>exact .fixed a b c fun k hk=>(d k hk).mono e
 | map a b=>exact .map a (b.mono e)
 | QB a=>exact .QB a
 | iter a b=>exact .iter a (b.mono e)
 | loop a b c d=>exact .loop (fun i=>(a i).mono e) (b.mono e) c d
 | deferred=>exact .deferred
structure AZ (P:Program) (w0:World) (ρ:Bz) (W:CW) (w:World):Prop where
 Uu:∀ i x,ρ i=some x→i<W.sz
 top:∀ i o,W.h.get i=some o→i<W.sz
 live:∀ i o x,W.h.get i=some o→o≠.dead→ρ i=some x→∃ o',w.heap[x.b]?=some o'∧Io P ρ x o o'∧(o.mut=true→w0.heap.size≤x.b)∧(o.mut=false→x.b<w0.heap.size)
 inj:∀ i j o u x y,W.h.get i=some o→o.mut=true→W.h.get j=some u→u.mut=true→ρ i=some x→ρ j=some y→x.b=y.b→i=j
 below:Below w0.heap.size w0 w
section
variable {P:Program} {w0:World} {ρ:Bz} {W:CW} {w:World}
theorem AZ.drew (h:AZ P w0 ρ W w) (n:Nat):AZ P w0 ρ W { w with drawn:=n } :=
 ⟨h.Uu,h.top,h.live,h.inj,⟨h.below.os,h.below.tape,h.below.output,h.below.size,h.below.block⟩⟩
theorem AZ.obj (h:AZ P w0 ρ W w) {i:Nat} {o:Az} (ho:W.obj i=some o) (hd:o≠.dead) {a':Nat} {x:Info} (hx:ρ i=some x) (hb:a'=x.b) :
  ∃ o',w.heap[a']?=some o'∧Io P ρ x o o':=by
 obtain ⟨o',IK,hr,_⟩:=h.live i o x ho hd hx; subst hb; exact ⟨o',IK,hr⟩
def Ej (W:CW) (ρ:Bz) (W1:CW) (ρ':Bz):Prop:=Ext ρ ρ'∧(∀ i,i<W.sz→ρ' i=ρ i)∧W.sz≤W1.sz
theorem Ej.refl {W W1:CW} (ρ:Bz) (h:W.sz≤W1.sz:=by exact Nat.le_refl _):Ej W ρ W1 ρ:=⟨Ext.refl ρ,fun _ _=>rfl,h⟩
theorem Ej.ext {W W1:CW} {ρ ρ':Bz} (h:Ej W ρ W1 ρ'):Ext ρ ρ':=h.1
theorem Ej.trans {W W1 W2:CW} {ρ ρ' ρ'':Bz} (h:Ej W ρ W1 ρ') (k:Ej W1 ρ' W2 ρ''):Ej W ρ W2 ρ'' :=
 ⟨h.1.trans k.1,fun i hi=>by rw [k.2.1 i (Nat.lt_of_lt_of_le hi h.2.2),h.2.1 i hi],Nat.le_trans h.2.2 k.2.2⟩
theorem Az.Jd {o:Az} (h:o.mut=true):o≠.dead:=by rintro rfl; cases h
theorem AZ.new (h:AZ P w0 ρ W w) {o:Az} {o':Obj} (x:Info) (hb:x.b=w.heap.size)
  (hr:Io P (fun i=>if i=W.sz then some x else ρ i) x o o') (hm:o.mut=true:=by rfl) :
  Ej W ρ (W.new o) (fun i=>if i=W.sz then some x else ρ i)∧AZ P w0 (fun i=>if i=W.sz then some x else ρ i) (W.new o) { w with heap:=w.heap.push o' }:=by
 have DV:Ext ρ (fun i=>if i=W.sz then some x else ρ i):=fun i y hy=>by
  have:=h.Uu i y hy; show (if i=W.sz then some x else ρ i)=some y; rw [if_neg (by omega)]; exact hy
 have hw0:w0.heap.size≤w.heap.size:=h.below.size
 have hold:∀ i u y,W.h.get i=some u→u≠.dead→ρ i=some y→y.b<w.heap.size:=fun i u y hu hd hy=>by
  obtain ⟨o',IK,_,_⟩:=h.live i u y hu hd hy; exact (Array.getElem?_eq_some_iff.1 IK).1
 refine ⟨⟨DV,fun i hi=>by show (if i=W.sz then some x else ρ i)=ρ i; rw [if_neg (by omega)],Nat.le_succ _⟩,?_,?_,?_,?_,?_⟩
 ·intro i y hy; show i<W.sz+1
  by_cases e:i=W.sz
  ·omega
  ·have:ρ i=some y:=by simpa [e] using hy
   have:=h.Uu i y this; omega
 ·intro i u hu; show i<W.sz+1; simp only [CW.new,Tr.Bw] at hu
  split at hu
  ·omega
  ·have:=h.top i u hu; omega
 ·intro i u y hu hd hy; simp only [CW.new,Tr.Bw] at hu
  split at hu
  ·rename_i e
   cases hu
   have hy:some x=some y:=by simpa [e] using hy
   cases hy
   refine ⟨o',?_,hr,fun _=>by omega,fun hf=>by rw [hm] at hf; cases hf⟩; show (w.heap.push o')[x.b]?=_; rw [hb]; simp
  ·rename_i e; have hy:ρ i=some y:=by simpa [e] using hy
   obtain ⟨u',rP,hru,gu⟩:=h.live i u y hu hd hy; refine ⟨u',?_,hru.mono DV,gu⟩; have Ae:=(Array.getElem?_eq_some_iff.1 rP).1; show (w.heap.push o')[y.b]?=_; rw [Array.getElem?_push,if_neg (by omega)]; exact rP
 ·intro i j u v y z hu ql hv Mt hy hz rQ; simp only [CW.new,Tr.Bw] at hu hv
  by_cases ei:i=W.sz
  ·by_cases ej:j=W.sz
   ·omega
   ·simp only [if_neg ej] at hv hz; simp only [if_pos ei,Option.some.injEq] at hy; have Ae:=hold j v z hv (Az.Jd Mt) hz; subst hy; omega
  ·simp only [if_neg ei] at hu hy
   by_cases ej:j=W.sz
   ·simp only [if_pos ej,Option.some.injEq] at hz; have Ae:=hold i u y hu (Az.Jd ql) hy; subst hz; omega
   ·simp only [if_neg ej] at hv hz; exact h.inj i j u v y z hu ql hv Mt hy hz rQ
 ·exact ⟨h.below.os,h.below.tape,h.below.output,by show w0.heap.size≤(w.heap.push o').size; rw [Array.size_push]; omega,fun k hk=>by
   show (w.heap.push o')[k]?=_
   rw [Array.getElem?_push,if_neg (by omega)]; exact h.below.block k hk⟩
theorem AZ.BB (h:AZ P w0 ρ W w) {i:Nat} {o u:Az} {u':Obj} {x:Info} (ho:W.obj i=some o) (hd:o.mut=true) (hx:ρ i=some x)
  (hr:Io P ρ x u u') (hm:u.mut=true:=by rfl):AZ P w0 ρ (W.BB i u) { w with heap:=w.heap.setIfInBounds x.b u' }:=by
 obtain ⟨o',IK,_,gu,_⟩:=h.live i o x ho (Az.Jd hd) hx; have gu:=gu hd; have Ae:=(Array.getElem?_eq_some_iff.1 IK).1; have hi:=h.top i o ho
 refine ⟨h.Uu,?_,?_,?_,?_⟩
 ·intro j v hv; simp only [CW.BB,Tr.Bw] at hv
  split at hv
  ·show j<W.sz; omega
  ·exact h.top j v hv
 ·intro j v y hv Mt hy; simp only [CW.BB,Tr.Bw] at hv
  split at hv
  ·rename_i e
   cases hv; subst e
   rw [hx] at hy; cases hy; refine ⟨u',?_,hr,fun _=>gu,fun hf=>by rw [hm] at hf; cases hf⟩; show (w.heap.setIfInBounds x.b u')[x.b]?=_; simp [Ae]
  ·rename_i e; obtain ⟨v',HD,hrv,qn⟩:=h.live j v y hv Mt hy; refine ⟨v',?_,hrv,qn⟩
   have D0:x.b≠y.b:=fun hb=>by
    cases X_:v.mut with
    | true=>exact e (h.inj j i v o y x hv X_ ho hd hy hx hb.symm)
    | false=>have:=qn.2 X_; omega
   show (w.heap.setIfInBounds x.b u')[y.b]?=_; rw [Array.getElem?_setIfInBounds_ne D0]; exact HD
 ·intro j k v v' y z hv Mt HD dr hy hz rQ
  have get:∀ j v,(W.BB i u).h.get j=some v→v.mut=true→∃ v0,W.h.get j=some v0∧v0.mut=true:=fun j v hv Mt=>by
   simp only [CW.BB,Tr.Bw] at hv
   split at hv
   ·rename_i e; subst e; exact ⟨o,ho,hd⟩
   ·exact ⟨v,hv,Mt⟩
  obtain ⟨a,ha,had⟩:=get j v hv Mt; obtain ⟨b,hb,hbd⟩:=get k v' HD dr; exact h.inj j k a b y z ha had hb hbd hy hz rQ
 ·exact ⟨h.below.os,h.below.tape,h.below.output,by show w0.heap.size≤(w.heap.setIfInBounds x.b u').size; rw [Array.size_setIfInBounds]; exact h.below.size,fun k hk=>by
   show (w.heap.setIfInBounds x.b u')[k]?=_
   rw [Array.getElem?_setIfInBounds_ne (by omega)]; exact h.below.block k hk⟩
end
end Go.Ce
namespace Go.Ce
open Go.RowKit (Below)
section
variable {P:Program} {w:World} {b:Nat} {c:Array Value} {e:TypeId} {fr:Nat × Nat}
theorem cell_of (hb:w.heap[b]?=some (.cells c e fr)) (off:Nat):w.cell? ⟨b,off,none⟩=c[off]?:=by
 simp [World.cell?,hb]
theorem np (hb:w.heap[b]?=some (.cells c e fr)) (hf:NF fr c.size) (off:Nat) (h:off<c.size):w.frozen? ⟨b,off,none⟩=false:=by
 simp only [World.frozen?,hb]; exact hf off h
theorem iD (hb:w.heap[b]?=some (.cells c e fr)) (off:Nat) (v:Value) :
  w.setCell ⟨b,off,none⟩ v={ w with heap:=w.heap.setIfInBounds b (.cells (c.setIfInBounds off v) e fr) }:=by
 have Ae:=(Array.getElem?_eq_some_iff.1 hb).1; have hv:=(Array.getElem?_eq_some_iff.1 hb).2; simp only [World.setCell,World.mk.injEq,and_self,and_true]; apply Array.ext_getElem?; intro i; rw [Array.getElem?_modify,Array.getElem?_setIfInBounds]
 by_cases h:b=i
 ·subst h; simp [Ae,hv]
 ·rw [if_neg h,if_neg h]
theorem M3 (b off i:Nat):(⟨b,off,none⟩:Addr).add i=⟨b,off+i,none⟩:=by
 unfold Addr.add
 split
 ·rename_i h; simp [h]
 ·rfl
def Df (c:Array Value):Nat→Nat→List Value
 | 0,_=>[]
 | m+1,k=>c.getD k undef::Df c m (k+1)
theorem Ip (c:Array Value):∀ m k,(Df c m k).length=m
 | 0,_=>rfl
 | m+1,k=>by simp [Df,Ip c m]
theorem run_loadCellsFrom (hb:w.heap[b]?=some (.cells c e fr)) (off:Nat):∀ (n i:Nat) (acc:Array Value),off+i+n≤c.size →
  (loadCellsFrom ⟨b,off,none⟩ i n acc).run P w=.ok (acc++(Df c n (off+i)).toArray) w:=by
 intro n
 induction n with
 | zero=>intro i acc _; simp [loadCellsFrom,Df]
 | succ n ih =>
  intro i acc h
  have hc:c[off+i]?=some (c.getD (off+i) undef):=by
   have:off+i<c.size:=by omega
   simp [Array.getD,this]
  simp only [loadCellsFrom,Sem.run_bind,run_load,M3,cell_of hb,hc,Result.andThen_ok]; rw [ih (i+1) _ (by omega)]; simp only [Df]; congr 1; apply Array.ext'; simp [Nat.add_assoc]
theorem run_loadCells (hb:w.heap[b]?=some (.cells c e fr)) (off n:Nat) (h:off+n≤c.size) :
  (loadCells ⟨b,off,none⟩ n).run P w=.ok (Df c n off).toArray w:=by
 have:=run_loadCellsFrom (P:=P) hb off n 0 #[] (by omega)
 simpa [loadCells] using this
def Gz (c:Array Value):Nat→List Value→Array Value
 | _,[]=>c
 | k,v::vs=>Gz (c.setIfInBounds k v) (k+1) vs
theorem HU:∀ (vs:List Value) (c:Array Value) (k:Nat),(Gz c k vs).size=c.size
 | [],_,_=>rfl
 | v::vs,c,k=>by simp [Gz,HU vs]
theorem Tp:∀ (vs:List Value) (c:Array Value) (k j:Nat),k+vs.length≤c.size →
  (Gz c k vs).getD j undef=if k≤j∧j<k+vs.length then vs.getD (j-k) undef else c.getD j undef:=by
 intro vs
 induction vs with
 | nil=>intro c k j _; simp only [Gz,List.length_nil,Nat.add_zero]; rw [if_neg (by omega)]
 | cons v vs ih =>
  intro c k j h; simp only [List.length_cons] at h; rw [Gz,ih _ _ _ (by simp; omega)]; simp only [List.length_cons]
  by_cases h1:k+1≤j∧j<k+1+vs.length
  ·rw [if_pos h1,if_pos (by omega)]; obtain ⟨m,rfl⟩:∃ m,j=k+(m+1):=⟨j-k-1,by omega⟩
   have e1:k+(m+1)-(k+1)=m:=by omega
   have e2:k+(m+1)-k=m+1:=by omega
   rw [e1,e2]; simp
  ·rw [if_neg h1]
   by_cases ej:j=k
   ·subst ej; have:j<c.size:=by omega
    simp [Array.getD_eq_getD_getElem?,this]
   ·rw [if_neg (by omega)]; simp only [Array.getD_eq_getD_getElem?]; rw [Array.getElem?_setIfInBounds_ne (by omega)]
theorem iE {v:Value} (h:Ba v=true):v.oneCell'=true:=by cases v <;> simp_all [Ba,Value.oneCell']
theorem F3 (off:Nat):∀ (vs:List Value) (i:Nat) (w:World) (c:Array Value),w.heap[b]?=some (.cells c e fr)→NF fr c.size→off+i+vs.length≤c.size→vs.all Ba=true →
  (storeCells ⟨b,off,none⟩ vs i).run P w=.ok () { w with heap:=w.heap.setIfInBounds b (.cells (Gz c (off+i) vs) e fr) }:=by
 intro vs
 induction vs with
 | nil =>
  intro i w c hb _ _ _; have Ae:=(Array.getElem?_eq_some_iff.1 hb).1; have hv:=(Array.getElem?_eq_some_iff.1 hb).2; simp only [storeCells,Sem.run_pure,Gz]; congr 1
  have:w.heap.setIfInBounds b (.cells c e fr)=w.heap:=by
   apply Array.ext_getElem?; intro j; rw [Array.getElem?_setIfInBounds]
   by_cases h:b=j
   ·subst h; simp [Ae,hv]
   ·rw [if_neg h]
  rw [this]
 | cons v vs ih =>
  intro i w c hb gv h CJ; simp only [List.length_cons] at h; simp only [List.all_cons,Bool.and_eq_true] at CJ
  have hc:c[off+i]?=some (c.getD (off+i) undef):=by
   have:off+i<c.size:=by omega
   simp [Array.getD,this]
  have Ae:=(Array.getElem?_eq_some_iff.1 hb).1; simp only [storeCells,Sem.run_bind,M3]; rw [run_store P w _ v _ (iE CJ.1)]; simp only [cell_of hb,hc,np hb gv (off+i) (by omega),Bool.false_eq_true,if_false,Result.andThen_ok,iD hb]; rw [ih (i+1) _ (c.setIfInBounds (off+i) v) (by simp [Ae]) (by simpa using gv) (by simp; omega) CJ.2]; simp [Gz,Nat.add_assoc]
theorem run_underlying (t:TypeId) (w:World):(underlying t).run P w=match P.underlying t with | some d=>.ok d w | none=>.halt (.stuck "no such type") w:=by
 simp only [underlying,Sem.run_bind,run_program,Result.andThen_ok]
 cases P.underlying t <;> rfl
theorem AG {t:TypeId} {d:TypeDesc} (h:P.underlying t=some d) (w:World):(underlying t).run P w=.ok d w:=by rw [run_underlying,h]
theorem IL {t:TypeId} {i:TypeInfo} (h:P.info? t=some i) (w:World):(typeInfo t).run P w=.ok i w:=by
 simp only [typeInfo,Sem.run_bind,run_program,Result.andThen_ok,h]; rfl
theorem BP {t:TypeId} {n:Nat} (h:D_ P t=some n) (w:World):(sizeOf t).run P w=.ok n w:=by
 unfold D_ at h
 cases hi:P.info? t with
 | none=>simp [hi] at h
 | some i=>simp only [hi,Option.map_some,Option.some.injEq] at h; simp [sizeOf,IL hi,h]
theorem Bp {t:TypeId} {z:Value} (h:Hz P t=some z) (w:World):(zeroValue t).run P w=.ok z w:=by
 unfold Hz at h
 cases hi:P.info? t with
 | none=>simp [hi] at h
 | some i =>
  simp only [hi,Option.bind_some,cond_eq_ite] at h
  split at h
  ·simp [zeroValue,IL hi,h]
  ·cases h
theorem F4 {t:TypeId} {x:Bool} (h:agg? P t=some x) (w:World):(isAgg t).run P w=.ok x w:=by
 unfold agg? at h
 cases hd:P.underlying t with
 | none=>simp [hd] at h
 | some d =>
  simp only [hd,Option.map_some,Option.some.injEq] at h; subst h; simp only [isAgg,Sem.run_bind,AG hd,Result.andThen_ok]
  cases d <;> rfl
end
section
variable {P:Program} {w0:World} {ρ:Bz} {W:CW} {w:World}
theorem L_ (c:Array Value):∀ (m k i:Nat),i<m→(Df c m k).getD i undef=c.getD (k+i) undef
 | 0,_,_,h=>by omega
 | m+1,k,0,_=>by simp [Df]
 | m+1,k,i+1,h=>by
  have:=L_ c m (k+1) i (by omega); simp only [Df,List.getD_cons_succ,this]; congr 1; omega
theorem Gi (c:Tr Value) (z:Array Value):∀ (m k i:Nat),i<m→(Bk c z m k).getD i undef=cellAt c z (k+i)
 | 0,_,_,h=>by omega
 | m+1,k,0,_=>by simp [Bk]
 | m+1,k,i+1,h=>by
  have:=Gi c z m (k+1) i (by omega); simp only [Bk,List.getD_cons_succ,this]; congr 1; omega
theorem A6 (c:Tr Value) (z:Array Value):∀ m k,(Bk c z m k).length=m
 | 0,_=>rfl
 | m+1,k=>by simp [Bk,A6 c z m]
theorem dt {c:Tr Value} {z:Array Value} {c':Array Value} {n o:Nat} (h:∀ k,k<n→AL ρ (cellAt c z k) (c'.getD (k+o) undef)) (m k:Nat) (hm:k+m≤n) :
  Aq ρ (Bk c z m k) (Df c' m (k+o)):=by
 refine ⟨by rw [A6,Ip],fun i hi=>?_⟩; rw [A6] at hi; rw [Gi _ _ _ _ _ hi,L_ _ _ _ _ hi]; have:=h (k+i) (by omega); have e:k+i+o=k+o+i:=by omega
 rwa [e] at this
theorem V0 (c:Tr Value) (z:Array Value) (vs:List Value) (k j:Nat) :
  cellAt (c.Aa k vs) z j=if k≤j∧j<k+vs.length then vs.getD (j-k) undef else cellAt c z j:=by
 unfold cellAt; rw [Tr.KH]
 by_cases h:k≤j∧j<k+vs.length
 ·rw [if_pos h,if_pos h]; have:j-k<vs.length:=by omega
  simp [List.getD_eq_getElem?_getD,this]
 ·rw [if_neg h,if_neg h]
theorem Io.write {fr:Nat × Nat} {x:Info} {c:Tr Value} {z:Array Value} {e:TypeId} {c':Array Value} {n:Nat} (h:Io P ρ x (.cells c n z e) (.cells c' e fr)) {vs vs':List Value} (hv:Aq ρ vs vs') {k:Nat}
  (hk:k+vs.length≤n):Io P ρ x (.cells (c.Aa k vs) n z e) (.cells (Gz c' (k+x.o) vs') e fr):=by
 cases h with
 | cells he hs ho hc hq =>
  refine .cells he (by rw [HU]; exact hs) ho (fun j hj=>?_) (by rw [HU]; exact hq); rw [V0,Tp _ _ _ _ (by rw [←hv.1]; omega),←hv.1]
  by_cases h:k≤j∧j<k+vs.length
  ·rw [if_pos h,if_pos (by omega)]; have e:j+x.o-(k+x.o)=j-k:=by omega
   rw [e]; exact hv.2 _ (by omega)
  ·rw [if_neg h,if_neg (by omega)]; exact hc j hj
theorem AZ.cells (h:AZ P w0 ρ W w) {a a':Addr} (ha:L9 ρ a a') {c:Tr Value} {n:Nat} {z:Array Value} {e:TypeId} (ho:W.obj a.block=some (.cells c n z e)) :
  ∃ x c' fr,ρ a.block=some x∧a'=⟨x.b,a.off+x.o,none⟩∧w.heap[x.b]?=some (.cells c' e fr)∧NF fr c'.size∧Io P ρ x (.cells c n z e) (.cells c' e fr)∧x.n=n∧c'.size=x.n'∧x.o+n≤x.n' ∧
   (P.info? e).map (·.size)=some x.sz∧(∀ k,k<n→AL ρ (cellAt c z k) (c'.getD (k+x.o) undef)):=by
 obtain ⟨_,x,hx,rfl⟩:=ha; obtain ⟨o',IK,hr⟩:=h.obj ho (by simp) hx rfl
 cases hr with
 | cells he hs iF hc hq=>exact ⟨x,_,_,hx,rfl,IK,hq.1,.cells he hs iF hc hq,rfl,hs,iF,he,hc⟩
theorem AZ.fixed (h:AZ P w0 ρ W w) {a a':Addr} (ha:L9 ρ a a') {f:Nat→Value} {n:Nat} {e:TypeId} (ho:W.obj a.block=some (.fixed f n e)) :
  ∃ x c' e' fr,ρ a.block=some x∧a'=⟨x.b,a.off+x.o,none⟩∧w.heap[x.b]?=some (.cells c' e' fr)∧x.n=n∧c'.size=x.n'∧x.o+n≤x.n' ∧
   (P.info? e).map (·.size)=some x.sz∧(∀ k,k<n→AL ρ (f k) (c'.getD (k+x.o) undef)):=by
 obtain ⟨_,x,hx,rfl⟩:=ha; obtain ⟨o',IK,hr⟩:=h.obj ho (by simp) hx rfl
 cases hr with
 | fixed he hs iF hc=>exact ⟨x,_,_,_,hx,rfl,IK,rfl,hs,iF,he,hc⟩
theorem Er (f:Nat→Value):∀ m k,(FF f m k).length=m
 | 0,_=>rfl
 | m+1,k=>by simp [FF,Er f m]
theorem M4 (f:Nat→Value):∀ (m k i:Nat),i<m→(FF f m k).getD i undef=f (k+i)
 | 0,_,_,h=>by omega
 | m+1,k,0,_=>rfl
 | m+1,k,i+1,h=>by
  have:=M4 f m (k+1) i (by omega); simp only [FF,List.getD_cons_succ,this]; congr 1; omega
theorem Tq {f:Nat→Value} {c':Array Value} {n o:Nat} (h:∀ k,k<n→AL ρ (f k) (c'.getD (k+o) undef)) (m k:Nat) (hm:k+m≤n) :
  Aq ρ (FF f m k) (Df c' m (k+o)) :=
 ⟨by rw [Er,Ip],fun i hi=>by
  rw [Er] at hi; rw [M4 _ _ _ _ hi,L_ _ _ _ _ hi]; have:=h (k+i) (by omega); have e:k+i+o=k+o+i:=by omega
  rwa [e] at this⟩
theorem Ts (h:AZ P w0 ρ W w) {t:TypeId} {a a':Addr} {v:Value} (ha:L9 ρ a a') (hl:LI P t a W=some v) :
  ∃ v',(loadVar t a').run P w=.ok v' w∧AL ρ v v':=by
 unfold LI at hl
 split at hl
 ·rename_i c n z e ho; obtain ⟨x,c',fr,hx,rfl,hb,_,_,_,hs,iF,_,hc⟩:=h.cells ha ho
  split at hl
  ·rename_i iG
   split at hl
   ·rename_i m hm; rw [cond_eq_ite] at hl
    split at hl
    ·rename_i hle; have hle:=Nat.le_of_ble_eq_true hle
     cases hl
     refine ⟨.agg (Df c' m (a.off+x.o)).toArray,?_,.dq (by simpa using dt hc m a.off hle)⟩; simp only [loadVar,Sem.run_bind,F4 iG,Result.andThen_ok,if_true,BP hm]; rw [run_loadCells hb _ _ (by omega)]; rfl
    ·cases hl
   ·cases hl
  ·rename_i iG; rw [cond_eq_ite] at hl
   split at hl
   ·rename_i Ae; have Ae:a.off<n:=by have:=Nat.le_of_ble_eq_true Ae; omega
    cases hl
    refine ⟨c'.getD (a.off+x.o) undef,?_,hc _ Ae⟩
    have:c'[a.off+x.o]?=some (c'.getD (a.off+x.o) undef):=by
     have:a.off+x.o<c'.size:=by omega
     simp [Array.getD,this]
    simp only [loadVar,Sem.run_bind,F4 iG,Result.andThen_ok,Bool.false_eq_true,if_false,run_load,cell_of hb,this]
   ·cases hl
  ·cases hl
 ·rename_i f n e ho; obtain ⟨x,c',e',fr,hx,rfl,hb,_,hs,iF,_,hc⟩:=h.fixed ha ho
  split at hl
  ·rename_i iG
   split at hl
   ·rename_i m hm; rw [cond_eq_ite] at hl
    split at hl
    ·rename_i hle; have hle:=Nat.le_of_ble_eq_true hle
     cases hl
     refine ⟨.agg (Df c' m (a.off+x.o)).toArray,?_,.dq (by simpa using Tq hc m a.off hle)⟩; simp only [loadVar,Sem.run_bind,F4 iG,Result.andThen_ok,if_true,BP hm]; rw [run_loadCells hb _ _ (by omega)]; rfl
    ·cases hl
   ·cases hl
  ·rename_i iG; rw [cond_eq_ite] at hl
   split at hl
   ·rename_i Ae; have Ae:a.off<n:=by have:=Nat.le_of_ble_eq_true Ae; omega
    cases hl
    refine ⟨c'.getD (a.off+x.o) undef,?_,hc _ Ae⟩
    have:c'[a.off+x.o]?=some (c'.getD (a.off+x.o) undef):=by
     have:a.off+x.o<c'.size:=by omega
     simp [Array.getD,this]
    simp only [loadVar,Sem.run_bind,F4 iG,Result.andThen_ok,Bool.false_eq_true,if_false,run_load,cell_of hb,this]
   ·cases hl
  ·cases hl
 ·cases hl
theorem nq {v v':Value} (h:AL ρ v v') (hc:v.cells.toList.all Ba=true):v'.cells.toList.all Ba=true:=by
 have hl:=h.cells; rw [List.all_eq_true] at hc ⊢; intro y hy; obtain ⟨i,hi,rfl⟩:=List.getElem_of_mem hy; have IT:i<v.cells.toList.length:=hl.1 ▸ hi; have:=hl.2 i IT; simp only [List.getD_eq_getElem?_getD,List.getElem?_eq_getElem hi,List.getElem?_eq_getElem IT,Option.getD_some] at this; rw [this.one]; exact hc _ (List.getElem_mem IT)
theorem QC (h:AZ P w0 ρ W w) {t:TypeId} {a a':Addr} {v v':Value} (ha:L9 ρ a a') (hv:AL ρ v v') {c:Tr Value} {n:Nat} {z:Array Value} {e:TypeId} {m:Nat}
  (ho:W.obj a.block=some (.cells c n z e)) (hm:D_ P t=some m) (J5:v.cells.size=m) (hle:a.off+m≤n) (V3:v.cells.toList.all Ba=true) :
  ∃ w',(storeVar t a' v').run P w=.ok () w'∧AZ P w0 ρ (W.BB a.block (.cells (c.Aa a.off v.cells.toList) n z e)) w':=by
 obtain ⟨x,c',fr,hx,rfl,hb,gv,hr,_,hs,iF,_,hc⟩:=h.cells ha ho; have hl:=hv.cells; have O':v'.cells.size=m:=by have:=hl.1; simp at this; omega
 refine ⟨{ w with heap:=w.heap.setIfInBounds x.b (.cells (Gz c' (a.off+x.o) v'.cells.toList) e fr) },?_,?_⟩
 ·simp only [storeVar,Sem.run_bind,BP hm,Result.andThen_ok,O',ne_eq,not_true,if_false]; have:=F3 (P:=P) (a.off+x.o) v'.cells.toList 0 w c' hb gv (by simp; omega) (nq hv V3)
  simpa using this
 ·exact h.BB ho rfl hx (hr.write hl (by simp; omega))
theorem aL (h:AZ P w0 ρ W w) {t:TypeId} {a a':Addr} {v v':Value} {W1:CW} (ha:L9 ρ a a') (hv:AL ρ v v') (hl:Kx P t a v W=some W1) :
  ∃ w',(storeVar t a' v').run P w=.ok () w'∧AZ P w0 ρ W1 w':=by
 unfold Kx at hl
 split at hl
 ·rename_i c n z e ho
  split at hl
  ·rename_i cs
   split at hl
   ·rename_i m hm; rw [cond_eq_ite] at hl
    split at hl
    ·rename_i BZ; simp only [Bool.and_eq_true] at BZ
     cases hl
     exact QC h ha hv ho hm (Nat.eq_of_beq_eq_true BZ.1.1) (Nat.le_of_ble_eq_true BZ.1.2) BZ.2
    ·cases hl
   ·cases hl
  ·cases hl
  ·rename_i hna OW
   split at hl
   ·rename_i m hm; rw [cond_eq_ite] at hl
    split at hl
    ·rename_i BZ; simp only [Bool.and_eq_true] at BZ
     cases hl
     have V3:Ba v=true:=by cases v <;> first | rfl | exact (hna _ rfl).elim | exact (OW _ rfl).elim
     have M5:v.cells=#[v]:=by cases v <;> first | rfl | exact (hna _ rfl).elim
     have QD:=Nat.eq_of_beq_eq_true BZ.1; have Ae:a.off<n:=by have:=Nat.le_of_ble_eq_true BZ.2; omega
     have:=QC h ha hv ho hm (by rw [M5]; simp [QD]) (by omega) (by rw [M5]; simp [V3]); rw [M5] at this; exact this
    ·cases hl
   ·cases hl
 ·cases hl
end
end Go.Ce
namespace Go.Ce
open Go.RowKit (Below)
def EX (P:Program):Prop:=∀ f fn,P.funcs[f]?=some fn→fn.body.isNone=true→(fn.name == "maps.clone")=true→∀ args w v w',(Extern.MapsClone.clone args).run P w=.ok v w'→(callFunc f args).run P w=.ok (.value v) w'
def ZP (P:Program):Prop:=(∀ t z,Hz P t=some z→∃ n,F2 n z=true)∧EX P
theorem ZP.rel {P:Program} (h:ZP P) {t:TypeId} {z:Value} (hz:Hz P t=some z) (ρ:Bz):AL ρ z z:=let ⟨n,hn⟩:=h.1 t z hz; .QA ρ n z hn
inductive LK (ρ:Bz):Deferred→Deferred→Prop
 | fn {f:FuncId} {cap cap' args args':Array Value}:Aq ρ cap.toList cap'.toList→Aq ρ args.toList args'.toList→LK ρ ⟨.fn (.func f) cap,args⟩ ⟨.fn (.func f) cap',args'⟩
 | collected {r r':Nat}:M1 ρ r r'→LK ρ ⟨.collected r,#[]⟩ ⟨.collected r',#[]⟩
theorem LK.mono {ρ ρ':Bz} {d d':Deferred} (h:LK ρ d d') (e:Ext ρ ρ'):LK ρ' d d':=by
 cases h with
 | fn a b=>exact .fn (a.mono e) (b.mono e)
 | collected a=>exact .collected (a.mono e)
inductive du (P:Program) (w0:World) (ρ:Bz) (W:CW) (r:Result Next):Bn→Prop
 | value {v v':Value} {w:World}:r=.ok (.value v') w→AL ρ v v'→AZ P w0 ρ W w→du P w0 ρ W r (.value v)
 | skip {w:World}:r=.ok .skip w→AZ P w0 ρ W w→du P w0 ρ W r .skip
 | enter {f:FuncId} {args:List Value} {args':Array Value} {w:World}:r=(callFunc f args').run P w→Aq ρ args args'.toList→AZ P w0 ρ W w→du P w0 ρ W r (.enter f args)
 | round {l l':Nat} {args:List Value} {args':Array Value} {w:World}:r=(Instr.yield l' args').run P w→M1 ρ l l'→Aq ρ args args'.toList→AZ P w0 ρ W w→du P w0 ρ W r (.round l args)
 | defer {d d':Deferred} {w:World}:r=.ok (.defer d') w→LK ρ d d'→AZ P w0 ρ W w→du P w0 ρ W r (.defer d)
 | recover {w:World}:r=.ok .recover w→AZ P w0 ρ W w→du P w0 ρ W r .recover
 | panic {v v':Value} {w:World}:r=.halt (.panic v') w→AL ρ v v'→AZ P w0 ρ W w→du P w0 ρ W r (.panic v)
def BC (P:Program) (w0:World) (ρ:Bz) (W:CW) (r:Result Next) (outs:List (Bn × CW)):Prop :=
 ∃ n W1 ρ',(n,W1) ∈ outs∧Ej W ρ W1 ρ'∧du P w0 ρ' W1 r n
section
variable {P:Program} {w0:World} {ρ:Bz} {W:CW} {w:World}
theorem BC.value (hw:AZ P w0 ρ W w) {r:Result Next} {v v':Value} (hr:r=.ok (.value v') w) (hv:AL ρ v v'):BC P w0 ρ W r [(.value v,W)] :=
 ⟨_,_,ρ,List.mem_singleton.2 rfl,.refl _,.value hr hv hw⟩
def Me (ρ:Bz):Option Value→Option Value→Prop
 | none,none=>True
 | some v,some v'=>AL ρ v v'
 | _,_=>False
theorem F5 {x x':Option Value} {d y y' k:Nat} (h:bound x d y=some k) (hx:Me ρ x x') (hy:y≤y') :
  (x=none∧x'=none∧k=d)∨(∃ v',x'=some v'∧k≤y∧∀ code (w:World),(Instr.sliceBound v' y' code).run P w=.ok k w):=by
 unfold bound at h
 split at h
 ·rename_i kk i; rw [cond_eq_ite] at h
  split at h
  ·rename_i hc; simp only [Bool.and_eq_true,decide_eq_true_eq] at hc
   cases h
   cases x' with
   | none=>exact hx.elim
   | some v' =>
    have hx:AL ρ (.int kk i) v':=hx
    cases hx
    right; refine ⟨_,rfl,by omega,fun code w=>?_⟩; have:0≤i∧i≤(y':Int):=⟨hc.1,by omega⟩
    simp [Instr.sliceBound,asIntOf,this]
  ·cases h
 ·cases h
 ·cases h
  cases x' with
  | none=>exact .inl ⟨rfl,rfl,rfl⟩
  | some v'=>exact hx.elim
theorem Me.map {f g:Operand→Value} (x:Option Operand) (h:∀ y,x=some y→AL ρ (f y) (g y)):Me ρ (x.map f) (x.map g):=by
 cases x with
 | none=>trivial
 | some y=>exact h y rfl
theorem Af {α β:Type} {o:Option α} {f:α→Option β} {b:β} (h:DJ o f=some b):∃ a,o=some a∧f a=some b:=by
 cases o with
 | none=>cases h
 | some a=>exact ⟨a,rfl,h⟩
theorem MA (b:Bool) {lo qo hi IT mx mx':Option Value} {len cap cap' m h l:Nat} (hm:bound mx cap cap=some m) (hh:bound hi len m=some h) (hl:bound lo 0 h=some l)
  (rl:Me ρ lo qo) (rh:Me ρ hi IT) (rm:Me ρ mx mx') (hc:cap≤cap') (hn:(mx.isSome && hi.isNone)=false) :
  ∃ m',(∀ w:World,(Instr.sliceBounds b len cap' qo IT mx').run P w=.ok (l,h,m') w)∧((mx=none∧m'=cap'∧m=cap)∨(m'=m∧m≤cap))∧l≤h:=by
 have nr:l≤h:=by
  rcases F5 (P:=P) hl rl (Nat.le_refl _) with ⟨_,_,rfl⟩ | ⟨_,_,h,_⟩
  ·exact Nat.zero_le _
  ·exact h
 rcases F5 (P:=P) hm rm hc with ⟨rfl,rfl,rfl⟩ | ⟨v,rfl,AGn,hmr⟩
 ·refine ⟨cap',fun w=>?_,.inl ⟨rfl,rfl,rfl⟩,nr⟩
  rcases F5 (P:=P) hh rh hc with ⟨rfl,rfl,rfl⟩ | ⟨v2,rfl,_,hhr⟩
  ·rcases F5 (P:=P) hl rl (Nat.le_refl _) with ⟨rfl,rfl,rfl⟩ | ⟨v3,rfl,_,hlr⟩
   ·simp [Instr.sliceBounds]
   ·simp [Instr.sliceBounds,hlr]
  ·rcases F5 (P:=P) hl rl (Nat.le_refl _) with ⟨rfl,rfl,rfl⟩ | ⟨v3,rfl,_,hlr⟩
   ·simp [Instr.sliceBounds,hhr]
   ·simp [Instr.sliceBounds,hhr,hlr]
 ·have hms:mx.isSome=true:=by
   cases mx with
   | none=>exact rm.elim
   | some _=>rfl
  refine ⟨m,fun w=>?_,.inr ⟨rfl,AGn⟩,nr⟩
  rcases F5 (P:=P) hh rh (Nat.le_refl _) with ⟨rfl,rfl,rfl⟩ | ⟨v2,rfl,_,hhr⟩
  ·simp [hms] at hn
  ·rcases F5 (P:=P) hl rl (Nat.le_refl _) with ⟨rfl,rfl,rfl⟩ | ⟨v3,rfl,_,hlr⟩
   ·simp [Instr.sliceBounds,hmr,hhr]
   ·simp [Instr.sliceBounds,hmr,hhr,hlr]
end
end Go.Ce
namespace Go.Ce
open Go.RowKit (Below)
section
variable {P:Program} {w0:World} {ρ:Bz} {W:CW} {w:World}
theorem aM {t:TypeId} {n m:Nat} (h:D_ P t=some n) (k:(P.info? t).map (·.size)=some m):m=n:=by
 unfold D_ at h; rw [h] at k; cases k; rfl
theorem QF {a a':Addr} (h:L9 ρ a a') (k:Nat):L9 ρ ⟨a.block,a.off+k,none⟩ (a'.add k):=by
 obtain ⟨_,x,hx,rfl⟩:=h; refine ⟨rfl,x,hx,?_⟩; rw [M3]; simp only [Addr.mk.injEq,and_true,true_and]; omega
theorem QG (a:Addr):a.add 0=a:=by simp [Addr.add]
theorem aN (hw:AZ P w0 ρ W w) {t:TypeId} {x x' v:Value} {lo qo hi IT mx mx':Option Value} (h:Vu P W t x lo hi mx=some v) (hx:AL ρ x x')
  (rl:Me ρ lo qo) (rh:Me ρ hi IT) (rm:Me ρ mx mx'):∃ v',(Instr.sliceAt t x' qo IT mx').run P w=.ok v' w∧AL ρ v v':=by
 unfold Vu at h
 split at h
 ·rename_i elem a len cap ht; obtain ⟨m,hm,h⟩:=Af h; obtain ⟨hh,L5,h⟩:=Af h; obtain ⟨l,hl,h⟩:=Af h; rw [cond_eq_ite] at h
  split at h
  ·cases h
  rename_i BZ; simp only [Bool.or_eq_true,Bool.not_eq_true',not_or,Bool.not_eq_true,Bool.not_eq_false] at BZ; obtain ⟨⟨AAN,hle⟩,UR⟩:=BZ; have hle:=Nat.le_of_ble_eq_true hle; obtain ⟨s,hs,h⟩:=Af h
  cases h
  have run:∀ (a':Option Addr) (cap':Nat),cap≤cap'→∃ m',(Instr.sliceAt t (.slice a' len cap') qo IT mx').run P w=.ok (.slice (if m'=l then a' else a'.map (·.add (l*s))) (hh-l) (m'-l)) w∧((mx=none∧m'=cap'∧m=cap)∨(m'=m∧m≤cap))∧l≤hh:=by
   intro a' cap' hc; obtain ⟨m',hr,BD,nr⟩:=MA (P:=P) true hm L5 hl rl rh rm hc AAN; refine ⟨m',?_,BD,nr⟩; simp only [Instr.sliceAt,Sem.run_bind,AG ht,Result.andThen_ok,Instr.slice,hr,BP hs,Sem.run_pure]
  cases hx with
  | dp =>
   obtain ⟨m',hr,BD,nr⟩:=run none cap (Nat.le_refl _); refine ⟨_,hr,?_⟩; have:m'=m:=by rcases BD with ⟨_,h1,h2⟩ | ⟨h1,_⟩ <;> omega
   subst this; simp only [Option.map_none,ite_self,cond_eq_ite]; exact .dp _ _
  | @slice a a' n c c' ha hc =>
   have FP:cap≤c':=by
    rcases hc with rfl | ⟨_,_,_,_,_,h⟩
    ·exact Nat.le_refl _
    ·exact h
   obtain ⟨m',hr,BD,nr⟩:=run (some a') c' FP; refine ⟨_,hr,?_⟩
   have ADc:mx=none→c'=cap∨∃ y,ρ a.block=some y∧0<s∧y.sz=s∧a.off+cap*s=y.n∧a.off+y.o+c'*s=y.n':=by
    intro dv
    rcases hc with rfl | ⟨y,hy,LL,h1,h2,_⟩
    ·exact .inl rfl
    ·right; subst dv; simp only [Option.isSome_none,Vt,ha.1,Bool.false_or] at UR
     split at UR
     ·rename_i cc nn zz ee ho; have:=Nat.eq_of_beq_eq_true (UR.resolve_left (by simp)); subst this; obtain ⟨y',c2,_,v9,_,_,_,_,_,_,_,he,_⟩:=hw.cells ha ho; rw [hy] at v9; cases v9; have:=aM hs he; rw [this] at h1 h2 LL; exact ⟨y,hy,LL,this,h1,h2⟩
     ·rename_i ff nn ee ho; have:=Nat.eq_of_beq_eq_true (UR.resolve_left (by simp)); subst this; obtain ⟨y',_,_,_,v9,_,_,_,_,_,he,_⟩:=hw.fixed ha ho; rw [hy] at v9; cases v9; have:=aM hs he; rw [this] at h1 h2 LL; exact ⟨y,hy,LL,this,h1,h2⟩
     ·simp at UR
   by_cases e:m=l
   ·have ehl:hh=l:=by omega
    subst ehl; simp only [cond_eq_ite,Nat.beq_eq,e,if_true,Nat.sub_self]; obtain ⟨y,hy,rfl⟩:=ha.2
    by_cases em:m'=hh
    ·subst em; simp only [if_true,Nat.sub_self]; exact .K1 ha.1 hy rfl rfl (.inl rfl)
    ·rw [if_neg em]
     rcases BD with ⟨dv,e1,e2⟩ | ⟨h1,_⟩
     ·rcases ADc dv with h1 | ⟨y',v9,LL,J5,h1,h2⟩
      ·omega
      ·rw [hy] at v9; cases v9; simp only [Option.map_some,M3]; refine .K1 ha.1 hy rfl rfl (.inr ⟨by omega,?_⟩); rw [J5]; obtain ⟨d,hd⟩:∃ d,m'=hh+d:=⟨m'-hh,by omega⟩
       have e3:m'-hh=d:=by omega
       rw [e3]; rw [←e1,hd,Nat.add_mul] at h2; show a.off+y.o+hh*s+d*s=y.n'; omega
     ·omega
   ·have qp:l<m:=by omega
    have em:m'≠l:=by rcases BD with ⟨_,h1,h2⟩ | ⟨h1,_⟩ <;> omega
    simp only [cond_eq_ite,Nat.beq_eq,e,if_false,em,Option.map_some]; refine .slice _ (QF ha _) ?_
    rcases BD with ⟨dv,rfl,rfl⟩ | ⟨rfl,_⟩
    ·rcases ADc dv with rfl | ⟨y,hy,LL,J5,h1,h2⟩
     ·exact .inl rfl
     ·right
      refine ⟨y,hy,by omega,?_,?_,by omega⟩
      ·rw [J5]; obtain ⟨d,rfl⟩:∃ d,m=l+d:=⟨m-l,by omega⟩
       have:l+d-l=d:=by omega
       rw [this]; rw [Nat.add_mul] at h1; show a.off+l*s+d*s=y.n; omega
      ·rw [J5]; obtain ⟨d,rfl⟩:∃ d,m'=l+d:=⟨m'-l,by omega⟩
       have:l+d-l=d:=by omega
       rw [this]; rw [Nat.add_mul] at h2; show a.off+l*s+y.o+d*s=y.n'; omega
    ·exact .inl rfl
  | @K1 a a' c' y hq hy hb Je hc =>
   obtain ⟨m',hr,BD,nr⟩:=run (some a') c' (Nat.zero_le _); refine ⟨_,hr,?_⟩; have nu:m=0:=by rcases BD with ⟨_,h1,h2⟩ | ⟨h1,h2⟩ <;> omega
   subst nu; have hh0:hh=0:=by omega
   subst hh0; have hl0:l=0:=by omega
   subst hl0; simp only [cond_eq_ite,Nat.beq_eq,if_true,Nat.sub_zero,Nat.zero_mul,Option.map_some,QG,ite_self]; refine .K1 hq hy hb Je ?_
   rcases BD with ⟨_,rfl,_⟩ | ⟨rfl,_⟩
   ·exact hc
   ·exact .inl rfl
  | @JE a a' hq =>
   obtain ⟨m',hr,BD,nr⟩:=run (some a') 0 (Nat.le_refl _); refine ⟨_,hr,?_⟩; have nu:m=0:=by rcases BD with ⟨_,h1,h2⟩ | ⟨h1,h2⟩ <;> omega
   subst nu; have hh0:hh=0:=by omega
   subst hh0; have hl0:l=0:=by omega
   subst hl0; simp only [cond_eq_ite,Nat.beq_eq,if_true,Nat.sub_zero,Nat.zero_mul,Option.map_some,QG,ite_self]; have AGo:m'=0:=by rcases BD with ⟨_,h1,_⟩ | ⟨h1,_⟩ <;> omega
   subst AGo; exact .JE hq
 ·rename_i n elem a ht; obtain ⟨m,hm,h⟩:=Af h; obtain ⟨hh,L5,h⟩:=Af h; obtain ⟨l,hl,h⟩:=Af h; rw [cond_eq_ite] at h
  split at h
  ·cases h
  rename_i BZ; simp only [Bool.or_eq_true,Bool.not_eq_true',not_or,Bool.not_eq_true,Bool.not_eq_false] at BZ; obtain ⟨s,hs,h⟩:=Af h
  cases h
  cases hx with
  | @ptr a a' ha =>
   obtain ⟨m',hr,BD,nr⟩:=MA (P:=P) false hm L5 hl rl rh rm (Nat.le_refl _) BZ.1; have:m'=m:=by rcases BD with ⟨_,h1,h2⟩ | ⟨h1,_⟩ <;> omega
   subst this
   refine ⟨.slice (some (if m'=l then a' else a'.add (l*s))) (hh-l) (m'-l),?_,?_⟩
   ·simp only [Instr.sliceAt,Sem.run_bind,AG ht,Result.andThen_ok,Instr.sureAddr,Sem.run_pure,hr,BP hs]
   ·simp only [cond_eq_ite,Nat.beq_eq]
    by_cases e:m'=l
    ·rw [if_pos e,if_pos e]; exact .slice _ ha (.inl rfl)
    ·rw [if_neg e,if_neg e]; exact .slice _ (QF ha _) (.inl rfl)
 ·cases h
end
end Go.Ce
namespace Go.Ce
open Go.RowKit (Below)
section
variable {P:Program} {w0:World} {ρ:Bz} {W:CW} {w:World} {o:Oper} {e e':Operand→Value} {outs:List (Bn × CW)}
theorem FH {x:Option Value} (h:(match x with | some v=>some [(Bn.value v,W)] | none=>none)=some outs):∃ v,x=some v∧outs=[(.value v,W)]:=by
 cases x with
 | none=>cases h
 | some v=>cases h; exact ⟨v,rfl,rfl⟩
theorem Nv {x:Option (Value × CW)} (h:(match x with | some (v,W)=>some [(Bn.value v,W)] | none=>none)=some outs):∃ v W1,x=some (v,W1)∧outs=[(.value v,W1)]:=by
 cases x with
 | none=>cases h
 | some v=>obtain ⟨v,W1⟩:=v; cases h; exact ⟨v,W1,rfl,rfl⟩
theorem mH {x:Option CW} (h:(match x with | some W=>some [(Bn.skip,W)] | none=>none)=some outs):∃ W1,x=some W1∧outs=[(.skip,W1)]:=by
 cases x with
 | none=>cases h
 | some W1=>cases h; exact ⟨W1,rfl,rfl⟩
theorem BH {s:Sem Value} {v:Value} {w w':World} (hs:s.run P w=.ok v w'):(do let x ←s; pure (Next.value x):Sem Next).run P w=.ok (.value v) w':=by simp [hs]
theorem iH {s:Sem Unit} {w w':World} (hs:s.run P w=.ok () w'):(do s; pure Next.skip:Sem Next).run P w=.ok .skip w':=by simp [hs]
theorem mI {x:Operand} (ho:o.op=.move x∨o.op=.assign x) (h:Bf P o e W=some outs) (hw:AZ P w0 ρ W w) (he:AL ρ (e x) (e' x)) :
  BC P w0 ρ W ((execOp e' o).run P w) outs:=by
 rcases ho with ho | ho <;>
 ·simp only [Bf,ho] at h
  cases h
  exact .value hw (by simp only [execOp,ho,Sem.run_pure]) he
theorem we {c a b:Operand} (ho:o.op=.pick c a b) (h:Bf P o e W=some outs) (hw:AZ P w0 ρ W w) (hc:AL ρ (e c) (e' c)) (ha:AL ρ (e a) (e' a)) (hb:AL ρ (e b) (e' b)) :
  BC P w0 ρ W ((execOp e' o).run P w) outs:=by
 simp only [Bf,ho] at h
 split at h
 ·rename_i b0 wg
  cases h
  rw [wg] at hc; generalize FP:e' c=vc at hc
  cases hc
  have hr:(execOp e' o).run P w=.ok (.value (if b0=true then e' a else e' b)) w:=by
   simp [execOp,ho,FP,asBool]
  refine .value hw hr ?_
  cases b0
  ·simpa using hb
  ·simpa using ha
 ·cases h
theorem wh {t:TypeId} {a:Operand} (ho:o.op=.load t a) (h:Bf P o e W=some outs) (hw:AZ P w0 ρ W w) (ha:AL ρ (e a) (e' a)) :
  BC P w0 ρ W ((execOp e' o).run P w) outs:=by
 simp only [Bf,ho] at h; obtain ⟨v,hv,rfl⟩:=FH h
 split at hv
 ·rename_i p hp; rw [hp] at ha; generalize FP:e' a=va at ha
  cases ha with
  | ptr ha =>
   obtain ⟨v',hr,HD⟩:=Ts hw ha hv; refine .value hw ?_ HD; simp only [execOp,ho,FP]; exact BH (by simpa [Instr.loadAt,Instr.sureAddr] using hr)
 ·cases hv
theorem nz {t:TypeId} {a:Addr} {v:Value} {W1:CW} (h:Kx P t a v W=some W1):W.sz≤W1.sz:=by
 unfold Kx at h
 repeat' (first | (cases h; done) | (cases h; exact Nat.le_refl _) | (rw [cond_eq_ite] at h) | split at h)
theorem rR {t:TypeId} {a x:Operand} (ho:o.op=.store t a x) (h:Bf P o e W=some outs) (hw:AZ P w0 ρ W w) (ha:AL ρ (e a) (e' a)) (hx:AL ρ (e x) (e' x)) :
  BC P w0 ρ W ((execOp e' o).run P w) outs:=by
 simp only [Bf,ho] at h; obtain ⟨W1,hv,rfl⟩:=mH h
 split at hv
 ·rename_i p hp; rw [hp] at ha; generalize FP:e' a=va at ha
  cases ha with
  | ptr ha =>
   obtain ⟨w',hr,JF⟩:=aL hw ha hx hv; refine ⟨_,_,ρ,List.mem_singleton.2 rfl,.refl _ (nz hv),.skip (w:=w') ?_ JF⟩; simp only [execOp,ho,FP]; exact iH (by simpa [Instr.storeAt,Instr.sureAddr] using hr)
 ·cases hv
theorem dw {x:Operand} (ho:o.op=.nilCheck x) (h:Bf P o e W=some outs) (hw:AZ P w0 ρ W w) (hx:AL ρ (e x) (e' x)) :
  BC P w0 ρ W ((execOp e' o).run P w) outs:=by
 simp only [Bf,ho] at h; obtain ⟨v,hv,rfl⟩:=FH h; generalize hc:e x=vx at *; generalize FP:e' x=Tt at *
 split at hv <;> cases hv <;> cases hx
 ·rename_i h1; exact .value hw (by simp only [execOp,ho,FP,Sem.run_pure]) (.ptr h1)
 ·rename_i h1; exact .value hw (by simp only [execOp,ho,FP,Sem.run_pure]) (.iface _ h1)
 ·rename_i h1 h2 h3 h4 h5
  cases h1
  exact .value hw (by simp only [execOp,ho,FP,Sem.run_pure]) (.func (.func _) h2 h3 h4 h5)
 ·rename_i h1 h2 h3 h4 h5
  cases h1 with
  | yield hb=>exact .value hw (by simp only [execOp,ho,FP,Sem.run_pure]) (.func (.yield hb) h2 h3 h4 h5)
theorem QH (hw:AZ P w0 ρ W w) {c:Tr Value} {z:Array Value} {n:Nat} {t:TypeId} {sz:Nat} {c':Array Value} (hs:D_ P t=some sz) (hn:c'.size=n)
  (hc:∀ k,k<n→AL ρ (cellAt c z k) (c'.getD k undef)) :
  ∃ ρ',Ej W ρ (W.new (.cells c n z t)) ρ'∧ρ' W.sz=some ⟨w.heap.size,0,sz,n,n⟩∧AZ P w0 ρ' (W.new (.cells c n z t)) { w with heap:=w.heap.push (.cells c' t) }∧L9 ρ' ⟨W.sz,0,none⟩ ⟨w.heap.size,0,none⟩:=by
 have DV:Ext ρ (fun i=>if i=W.sz then some ⟨w.heap.size,0,sz,n,n⟩ else ρ i):=fun i y hy=>by
  have:=hw.Uu i y hy; show (if i=W.sz then _ else ρ i)=some y; rw [if_neg (by omega)]; exact hy
 have:=hw.new (o:=.cells c n z t) (o':=.cells c' t) ⟨w.heap.size,0,sz,n,n⟩ rfl (by
  exact .cells hs hn (by simp) (fun k hk=>(hc k hk).mono DV) ⟨NF.zero _,fun _=>⟨rfl,rfl⟩⟩)
 exact ⟨_,this.1,by simp,this.2,⟨rfl,⟨w.heap.size,0,sz,n,n⟩,by simp,by simp⟩⟩
theorem DE (vs:List Value) (z:Array Value) (k:Nat) (h:k<vs.length):cellAt (Tr.nil.Aa 0 vs) z k=vs.getD k undef:=by
 rw [V0]; simp [h]
theorem AAO {t:TypeId} {x:Operand} (ho:o.op=.box t x) (h:Bf P o e W=some outs) (hw:AZ P w0 ρ W w) (hx:AL ρ (e x) (e' x)) :
  BC P w0 ρ W ((execOp e' o).run P w) outs:=by
 simp only [Bf,ho,Ur] at h
 split at h
 ·rename_i sz hs
  cases h
  have hl:=hx.cells
  obtain ⟨ρ',DV,_,JF,ha⟩:=QH hw (c:=Tr.nil.Aa 0 (e x).cells.toList) (z:=#[]) (n:=(e x).cells.size) (c':=(e' x).cells) hs (by simpa using hl.1.symm) (fun k hk=>by
   rw [DE _ _ _ (by simpa using hk)]; have:=hl.2 k (by simpa using hk)
   simpa [Array.getD_eq_getD_getElem?,List.getD_eq_getElem?_getD] using this)
  refine ⟨_,_,ρ',List.mem_singleton.2 rfl,DV,.value (w:={ w with heap:=w.heap.push (.cells (e' x).cells t) }) ?_ (.ptr ha) JF⟩; simp only [execOp,ho]; exact BH (by simp [Instr.box,newVar,newRow])
 ·cases h
theorem rS (hz:ZP P) {t:TypeId} (ho:o.op=.alloc t) (h:Bf P o e W=some outs) (hw:AZ P w0 ρ W w) :
  BC P w0 ρ W ((execOp e' o).run P w) outs:=by
 simp only [Bf,ho] at h
 split at h
 ·rename_i z L6
  split at h
  ·rename_i sz hs
   cases h
   obtain ⟨ρ',DV,_,JF,ha⟩:=QH hw (c:=.nil) (z:=z.cells) (n:=z.cells.size) (c':=z.cells) hs rfl (fun k hk=>by
    have hc:=(hz.rel L6 ρ).cells.2 k (by simpa using hk); have:cellAt .nil z.cells k=z.cells.getD k undef:=by simp [cellAt,Tr.get_nil,Nat.mod_eq_of_lt hk]
    rw [this]
    simpa [Array.getD_eq_getD_getElem?,List.getD_eq_getElem?_getD] using hc)
   refine ⟨_,_,ρ',List.mem_singleton.2 rfl,DV,.value (w:={ w with heap:=w.heap.push (.cells z.cells t) }) ?_ (.ptr ha) JF⟩; simp only [execOp,ho]; exact BH (by simp [Instr.alloc,Bp L6,newVar,newRow])
  ·cases h
 ·cases h
theorem wi {u:UnOp} {t:TypeId} {x:Operand} (ho:o.op=.unOp u t x) (h:Bf P o e W=some outs) (hw:AZ P w0 ρ W w) (hx:AL ρ (e x) (e' x)) :
  BC P w0 ρ W ((execOp e' o).run P w) outs:=by
 cases u <;> simp only [Bf,ho] at h <;> first | (cases h; done) | skip
 all_goals
  obtain ⟨v,hv,rfl⟩:=FH h
  split at hv
  ·rename_i hc
   cases hv
   rw [hc] at hx; generalize FP:e' x=Tt at hx
   cases hx
   refine .value hw ?_ (by constructor); simp only [execOp,ho,FP]; exact BH (by simp [Op.unary,Op.intArith])
  ·cases hv
theorem SD {t:TypeId} {x:Operand} (ho:o.op=.makeInterface t x) (h:Bf P o e W=some outs) (hw:AZ P w0 ρ W w) (hx:AL ρ (e x) (e' x)) :
  BC P w0 ρ W ((execOp e' o).run P w) outs:=by
 simp only [Bf,ho] at h; obtain ⟨v,hv,rfl⟩:=FH h
 split at hv
 ·cases hv
 ·cases hv
 ·rename_i dS mJ
  cases hv
  refine .value hw ?_ (.iface _ hx); simp only [execOp,ho]; refine BH ?_
  cases hu:P.underlying t with
  | none=>exact (mJ hu).elim
  | some d =>
   simp only [Instr.makeInterface,Sem.run_bind,AG hu,Result.andThen_ok]
   cases d <;> first | rfl | exact (dS _ hu).elim
theorem iI {x:Operand} {i:Nat} (ho:o.op=.extract x i) (h:Bf P o e W=some outs) (hw:AZ P w0 ρ W w) (hx:AL ρ (e x) (e' x)) :
  BC P w0 ρ W ((execOp e' o).run P w) outs:=by
 simp only [Bf,ho] at h; obtain ⟨v,hv,rfl⟩:=FH h
 split at hv
 ·rename_i vs hc; rw [hc] at hx; generalize FP:e' x=Tt at hx; obtain ⟨vs',rfl,hl⟩:=hx.nk; obtain ⟨y,hy,hr⟩:=hl.get (x:=v) (i:=i) (by simpa using hv); have hy:vs'[i]?=some y:=by simpa using hy
  refine .value hw ?_ hr; simp only [execOp,ho,FP]; exact BH (by simp [Instr.extract,hy])
 ·cases hv
end
end Go.Ce
namespace Go.Ce
open Go.RowKit (Below)
section
variable {P:Program} {w0:World} {ρ:Bz} {W:CW} {w:World} {o:Oper} {e e':Operand→Value} {outs:List (Bn × CW)}
theorem iJ {op:BinOp} {k:IntKind} {a b:Int} {v:Value} {t:TypeId} (h:O5 op k a b=some v) (w:World):(binOp op t (.int k a) (.int k b)).run P w=.ok v w∧AL ρ v v:=by
 cases op <;> simp only [O5] at h
 case quo =>
  rw [cond_eq_ite] at h
  split at h
  ·cases h
  ·rename_i hb
   cases h
   have:¬b=0:=by simpa using hb
   exact ⟨by simp [binOp,Op.intDiv,this],.int _ _⟩
 case rem =>
  rw [cond_eq_ite] at h
  split at h
  ·cases h
  ·rename_i hb
   cases h
   have:¬b=0:=by simpa using hb
   exact ⟨by simp [binOp,Op.intDiv,this],.int _ _⟩
 case and=>cases h; exact ⟨by simp only [binOp,ne_eq,not_true_eq_false,if_false,Op.intBits,Sem.run_pure],.int _ _⟩
 case or=>cases h; exact ⟨by simp only [binOp,ne_eq,not_true_eq_false,if_false,Op.intBits,Sem.run_pure],.int _ _⟩
 case xor=>cases h; exact ⟨by simp only [binOp,ne_eq,not_true_eq_false,if_false,Op.intBits,Sem.run_pure],.int _ _⟩
 case andNot=>cases h; exact ⟨by simp only [binOp,ne_eq,not_true_eq_false,if_false,Op.intBits,Sem.run_pure],.int _ _⟩
 all_goals first
  | (cases h; done)
  | (cases h; exact ⟨by simp [binOp,Op.intArith],.int _ _⟩)
  | (cases h; exact ⟨by simp [binOp,Op.intCmp],.bool _⟩)
theorem iK:∀ (x y:List UInt8),YK x y=(x == y)
 | [],[]=>rfl
 | [],_::_=>rfl
 | _::_,[]=>rfl
 | a::x,b::y=>by
  have h1:Nat.beq a.toNat b.toNat=(a == b):=by
   rw [Bool.eq_iff_iff]; simp only [Nat.beq_eq,beq_iff_eq]; exact ⟨fun h=>UInt8.toNat_inj.1 h,fun h=>by rw [h]⟩
  simp only [YK,iK x y,h1,List.cons_beq_cons]
theorem rT:∀ (x y:List UInt8),SA x y=Op.bytesLess x y
 | [],[]=>rfl
 | [],_::_=>rfl
 | _::_,[]=>rfl
 | a::x,b::y=>by
  have h1:Nat.beq a.toNat b.toNat=(a == b):=by
   rw [Bool.eq_iff_iff]; simp only [Nat.beq_eq,beq_iff_eq]; exact ⟨fun h=>UInt8.toNat_inj.1 h,fun h=>by rw [h]⟩
  have h2:Nat.blt a.toNat b.toNat=decide (a<b):=by
   rw [Bool.eq_iff_iff]; simp only [Nat.blt_eq,decide_eq_true_eq]; exact UInt8.lt_iff_toNat_lt.symm
  simp only [SA,rT x y,h1,h2,Op.bytesLess]
theorem mK (a:ByteArray):sb a=a.toList:=(ByteArray.toList_eq a).symm
theorem SE {a b:ByteArray}:YK (sb a) (sb b)=(a.toList == b.toList):=by rw [iK,mK,mK]
theorem n8 {a b:ByteArray}:SA (sb a) (sb b)=Op.bytesLess a.toList b.toList:=by rw [rT,mK,mK]
theorem M6 {a b:ByteArray} (h:YK (sb a) (sb b)=true):a=b:=by
 rw [iK] at h; have h:a.data.toList=b.data.toList:=by simpa [sb] using h
 cases a; cases b
 exact congrArg ByteArray.mk (Array.ext' h)
theorem iL {op:BinOp} {a b:ByteArray} {v:Value} {t:TypeId} (h:AAF op a b=some v) (w:World):(binOp op t (.string a) (.string b)).run P w=.ok v w∧AL ρ v v:=by
 cases op <;> simp only [AAF] at h <;> first
  | (cases h; done)
  | (cases h; exact ⟨by simp only [binOp,Op.stringOp,Sem.run_pure,SE,n8],.bool _⟩)
  | skip
 rw [cond_eq_ite] at h
 split at h
 ·rename_i hle; have hle:=Nat.le_of_ble_eq_true hle
  cases h
  refine ⟨?_,.string _⟩; show (Op.stringOp .add a b).run P w=_; rw [run_string_add_sum (P:=P) w a b hle]; congr 2
 ·cases h
theorem SF {d:TypeDesc} {t:TypeId} {x y x' y':Value} {b:Bool} (ht:P.underlying t=some d) (h:wX d x y=some b) (hx:AL ρ x x') (hy:AL ρ y y') (w:World) (n:Nat) :
  (Op.equalIn (n+1) t x' y').run P w=.ok b w:=by
 rw [Op.equalIn]; simp only [Sem.run_bind,AG ht,Result.andThen_ok]; unfold wX at h; split at h <;> first | (cases h; done) | skip
 all_goals
  cases h
  cases hx <;> cases hy <;> rfl
theorem H_ (t:TypeId) (x y:Value):Op.equal t x y=Op.equalIn (9999+1) t x y:=rfl
theorem LM {t:TypeId} {xs PZ:Array Value} {off:Nat} {v:Value} (h:Tl P t xs off=some v) (hx:Aq ρ xs.toList PZ.toList) (w:World):∃ v',(part t PZ off).run P w=.ok v' w∧AL ρ v v':=by
 unfold Tl at h
 split at h
 ·rename_i m ha hm
  cases h
  refine ⟨.agg (PZ.extract off (off+m)),by simp only [part,Sem.run_bind,F4 ha,Result.andThen_ok,if_true,BP hm,Sem.run_pure],.dq ?_⟩; refine ⟨by simp; have:=hx.1; simp at this; rw [this],fun i hi=>?_⟩; have hs:xs.size=PZ.size:=by simpa using hx.1
  simp at hi; have:=hx.2 (off+i) (by simp; omega); simp only [List.getD_eq_getElem?_getD,Array.getElem?_toList] at this ⊢; rw [Array.getElem?_extract,Array.getElem?_extract,if_pos (by omega),if_pos (by omega)]; exact this
 ·rename_i ha; obtain ⟨y,hy,hv⟩:=hx.get (i:=off) (x:=v) (by simpa using h); have hy:PZ[off]?=some y:=by simpa using hy
  exact ⟨y,by simp only [part,Sem.run_bind,F4 ha,Result.andThen_ok,Bool.false_eq_true,if_false,hy,Sem.run_pure],hv⟩
 ·cases h
theorem dz {eq:TypeId→Value→Value→Option Bool} {n:Nat} (hq:∀ t x y b x' y',eq t x y=some b→AL ρ x x'→AL ρ y y'→∀ w:World,(Op.equalIn n t x' y').run P w=.ok b w)
  {xs ys PZ Ut:Array Value} (hx:Aq ρ xs.toList PZ.toList) (hy:Aq ρ ys.toList Ut.toList) (w:World):∀ (fs:List Field) (b:Bool),dh P eq xs ys fs=some b→(Op.eqFields n PZ Ut fs).run P w=.ok b w:=by
 intro fs
 induction fs with
 | nil=>intro b h; cases h; simp [Op.eqFields]
 | cons f fs ih =>
  intro b h; simp only [dh,cond_eq_ite] at h
  split at h
  ·rename_i hn; have hn:f.name="_":=by simpa using hn
   simp only [Op.eqFields,hn,ne_eq,not_true_eq_false,if_false]; exact ih b h
  ·rename_i hn; have hn:f.name≠"_":=by simpa using hn
   split at h
   ·rename_i u v hu hv; obtain ⟨u',rP,ru⟩:=LM hu hx w; obtain ⟨v',HD,rv⟩:=LM hv hy w; simp only [Op.eqFields,if_pos hn,Sem.run_bind,rP,HD,Result.andThen_ok]
    split at h
    ·rename_i he; rw [hq _ _ _ _ _ _ he ru rv w]; simp only [Result.andThen_ok,Bool.not_true,Bool.false_eq_true,if_false]; exact ih b h
    ·rename_i he
     cases h
     rw [hq _ _ _ _ _ _ he ru rv w]; simp
    ·cases h
   ·cases h
theorem Tu (t:TypeId) (x y:Operand) (a b:Value):∀ op,(op=BinOp.eql∨op=.neq)→(eqGuard op t x y a b)=(match a,b with
  | .nilIface,.nilIface =>
   if ((match x with | .const _=>true | _=>false) || (match y with | .const _=>true | _=>false))=true then pure () else do
   if ←Op.eqGuardIn Op.maxDepth t a b then unsupported (.noEntry "binop/eql: two nil values of an interface type with methods, neither of them the literal nil")
  | .agg _,.agg _=>do
   if !(←program).eqGuardType (←program).depth t then return
   if ←Op.eqGuardIn Op.maxDepth t a b then unsupported (.noEntry "binop/eql: two nil values of an interface type with methods, in a part of a struct or an array")
  | _,_=>pure ()):=by
 rintro op (rfl | rfl) <;> rfl
theorem rU (x y:Operand):(isConst x || isConst y)=true→((match x with | .const _=>true | _=>false) || (match y with | .const _=>true | _=>false))=true:=by
 cases x <;> cases y <;> intro h <;> first | rfl | cases h
theorem E8 {op:BinOp} {t:TypeId} {x y:Operand} {a b:Value} (SG:op=.eql∨op=.neq) (h1:∀ u v,¬(a=.agg u∧b=.agg v)) (h2:¬(a=.nilIface∧b=.nilIface)∨(isConst x || isConst y)=true) (w:World) :
  (eqGuard op t x y a b).run P w=.ok () w:=by
 rw [Tu t x y a b op SG]
 split
 ·rcases h2 with h2 | h2
  ·exact (h2 ⟨rfl,rfl⟩).elim
  ·rw [if_pos (rU x y h2)]; rfl
 ·exact (h1 _ _ ⟨rfl,rfl⟩).elim
 ·rfl
theorem IM {op:BinOp} {t:TypeId} {x y:Operand} {a b:Value} (h:op≠.eql) (k:op≠.neq) (w:World):(eqGuard op t x y a b).run P w=.ok () w:=by
 cases op <;> first | rfl | exact (h rfl).elim | exact (k rfl).elim
theorem Yn {d:TypeDesc} {x y x' y':Value} {b:Bool} (h:wX d x y=some b) (hx:AL ρ x x') (hy:AL ρ y y') :
  (∀ u v,¬(x'=.agg u∧y'=.agg v))∧¬(x'=.nilIface∧y'=.nilIface):=by
 unfold wX at h; split at h <;> first | (cases h; done) | skip
 all_goals
  cases hx <;> cases hy <;> exact ⟨fun u v h=>by simp at h,fun h=>by simp at h⟩
theorem Yo {d:TypeDesc} {t:TypeId} {x y x' y':Value} {b:Bool} (h:wX d x y=some b) (hx:AL ρ x x') (hy:AL ρ y y') :
  binOp .eql t x' y'=(do pure (.bool (←Op.equal t x' y')))∧binOp .neq t x' y'=(do pure (.bool (!(←Op.equal t x' y')))):=by
 unfold wX at h; split at h <;> first | (cases h; done) | skip
 all_goals
  cases hx <;> cases hy <;> exact ⟨rfl,rfl⟩
theorem n9 {eq:Value→Value→Option Bool} {elem:TypeId} {n m:Nat} (hq:∀ x y b x' y',eq x y=some b→AL ρ x x'→AL ρ y y'→∀ w:World,(Op.equalIn n elem x' y').run P w=.ok b w)
  {xs ys PZ Ut:Array Value} (hx:Aq ρ xs.toList PZ.toList) (hy:Aq ρ ys.toList Ut.toList) (w:World):∀ (k i:Nat) (b:Bool),mE P eq elem m xs ys k i=some b →
   (forIn (List.range' i k) ((none,()):Option Bool × Unit) (fun j _=>do
    if (!(←Op.equalIn n elem (←part elem PZ (j*m)) (←part elem Ut (j*m))))=true then pure (ForInStep.done (some false,())) else pure (ForInStep.yield (none,()))):Sem (Option Bool × Unit)).run P w=.ok (if b then (none,()) else (some false,())) w:=by
 intro k
 induction k with
 | zero=>intro i b h; cases h; simp
 | succ k ih =>
  intro i b h; simp only [mE] at h
  split at h
  ·rename_i u v hu hv; obtain ⟨u',rP,ru⟩:=LM hu hx w; obtain ⟨v',HD,rv⟩:=LM hv hy w; simp only [List.range'_succ,List.forIn_cons,Sem.run_bind,rP,HD,Result.andThen_ok]
   split at h
   ·rename_i he; rw [hq _ _ _ _ _ he ru rv w]; simp only [Result.andThen_ok,Bool.not_true,Bool.false_eq_true,if_false,Sem.run_pure]; exact ih (i+1) b h
   ·rename_i he
    cases h
    rw [hq _ _ _ _ _ he ru rv w]; simp
   ·cases h
  ·cases h
theorem O_:∀ (n:Nat) (t:TypeId) (x y:Value) (b:Bool) (x' y':Value),di P n t x y=some b→AL ρ x x'→AL ρ y y'→∀ (m:Nat),n≤m→∀ w:World,(Op.equalIn m t x' y').run P w=.ok b w:=by
 intro n
 induction n with
 | zero=>intro t x y b x' y' h; cases h
 | succ n ih =>
  intro t x y b x' y' h hx hy m hm w; obtain ⟨m,rfl⟩:∃ k,m=k+1:=⟨m-1,by omega⟩
  have hm:n≤m:=by omega
  simp only [di] at h
  split at h
  ·cases h
  rename_i d hd
  split at h
  ·rename_i fs xs ys; rw [cond_eq_ite] at h
   split at h
   ·cases h
   ·rename_i hs; have hs:P.stoodInHeld t=false:=by simpa using hs
    obtain ⟨PZ,rfl,rx⟩:=hx.GH; obtain ⟨Ut,rfl,ry⟩:=hy.GH; have hf:P.fieldsOf t=fs:=by simp [Program.fieldsOf,hd]
    rw [run_equalIn_struct (P:=P) w m t PZ Ut (by rw [hf]; exact hd) hs,hf]; exact dz (fun t x y b x' y' h1 h2 h3 w=>ih t x y b x' y' h1 h2 h3 m hm w) rx ry w _ _ h
  ·rename_i len elem xs ys; obtain ⟨PZ,rfl,rx⟩:=hx.GH; obtain ⟨Ut,rfl,ry⟩:=hy.GH
   split at h
   ·rename_i s hs; have:=n9 (m:=s) (fun x y b x' y' h1 h2 h3 w=>ih elem x y b x' y' h1 h2 h3 m hm w) rx ry w len 0 b h; rw [Op.equalIn]; simp only [Sem.run_bind,AG hd,Result.andThen_ok,BP hs,Std.Legacy.Range.forIn_eq_forIn_range',Std.Legacy.Range.size,Nat.sub_zero,Nat.add_sub_cancel,Nat.div_one]; rw [this]
    cases b <;> simp
   ·cases h
  ·rename_i k1 a k2 b2; rw [cond_eq_ite] at h
   split at h
   ·rename_i hk; have hk:k1=k2:=by simpa using hk
    subst hk
    cases h; cases hx; cases hy
    rw [Op.equalIn]; simp only [Sem.run_bind,AG hd,Result.andThen_ok,if_true,Sem.run_pure]
   ·cases h
  ·rename_i a b2
   cases h; cases hx; cases hy
   rw [Op.equalIn]; simp only [Sem.run_bind,AG hd,Result.andThen_ok,Sem.run_pure,SE,beq_toListBytes]
  ·exact SF hd h hx hy w m
theorem Tv {op:BinOp} {t:TypeId} {x y:Operand} {xs ys:Array Value} (SG:op=.eql∨op=.neq) (hg:P.eqGuardType P.depth t=false) (w:World) :
  (eqGuard op t x y (.agg xs) (.agg ys)).run P w=.ok () w:=by
 rw [Tu t x y _ _ op SG]; simp only [Sem.run_bind,run_program,Result.andThen_ok,hg,Bool.not_false,if_true,Sem.run_pure]
theorem Yp (t:TypeId) (xs ys:Array Value):binOp .eql t (.agg xs) (.agg ys)=(do pure (.bool (←Op.equal t (.agg xs) (.agg ys))))∧binOp .neq t (.agg xs) (.agg ys)=(do pure (.bool (!(←Op.equal t (.agg xs) (.agg ys))))):=⟨rfl,rfl⟩
theorem Tw {t:TypeId} {m:Array (String × TypeId)} (ht:P.underlying t=some (.interface m)) (n:Nat) (w:World):(Op.equalIn (n+1) t .nilIface .nilIface).run P w=.ok true w:=by
 rw [Op.equalIn]; simp only [Sem.run_bind,AG ht,Result.andThen_ok,Sem.run_pure]
theorem Yq (t:TypeId):binOp .eql t .nilIface .nilIface=(do pure (.bool (←Op.equal t .nilIface .nilIface)))∧binOp .neq t .nilIface .nilIface=(do pure (.bool (!(←Op.equal t .nilIface .nilIface)))):=⟨rfl,rfl⟩
theorem iM {op:BinOp} {t:TypeId} {x y:Operand} {vx vy Tt vy' v:Value} (h:D6 P op t (isConst x || isConst y) vx vy=some v) (hx:AL ρ vx Tt) (hy:AL ρ vy vy') (w:World) :
  ∃ v',(do eqGuard op t x y Tt vy'; binOp op t Tt vy':Sem Value).run P w=.ok v' w∧AL ρ v v':=by
 unfold D6 at h
 split at h
 ·rw [cond_eq_ite] at h
  split at h
  ·cases h
  ·rename_i hb
   cases h
   cases hx; cases hy
   simp only [decide_eq_true_eq] at hb; exact ⟨_,by simp only [Sem.run_bind,IM (op:=.shl) (by simp) (by simp),Result.andThen_ok,binOp,Op.shift,hb,if_false,Sem.run_pure],.int _ _⟩
 ·rw [cond_eq_ite] at h
  split at h
  ·cases h
  ·rename_i hb
   cases h
   cases hx; cases hy
   simp only [decide_eq_true_eq] at hb; exact ⟨_,by simp only [Sem.run_bind,IM (op:=.shr) (by simp) (by simp),Result.andThen_ok,binOp,Op.shift,hb,if_false,Sem.run_pure],.int _ _⟩
 ·rename_i k a k' b h1 h2; rw [cond_eq_ite] at h
  split at h
  ·rename_i hk; have hk:k=k':=by simpa using hk
   subst hk
   cases hx; cases hy
   obtain ⟨hr,hv⟩:=iJ (P:=P) (ρ:=ρ) (t:=t) h w; refine ⟨v,?_,hv⟩
   have hg:(eqGuard op t x y (.int k a) (.int k b)).run P w=.ok () w:=by
    by_cases e1:op=.eql
    ·exact E8 (.inl e1) (fun u v h=>by simp at h) (.inl fun h=>by simp at h) w
    ·by_cases e2:op=.neq
     ·exact E8 (.inr e2) (fun u v h=>by simp at h) (.inl fun h=>by simp at h) w
     ·exact IM e1 e2 w
   simp only [Sem.run_bind,hg,Result.andThen_ok,hr]
  ·cases h
 ·rename_i a b
  cases hx; cases hy
  obtain ⟨hr,hv⟩:=iL (P:=P) (ρ:=ρ) (t:=t) h w; refine ⟨v,?_,hv⟩
  have hg:(eqGuard op t x y (.string a) (.string b)).run P w=.ok () w:=by
   by_cases e1:op=.eql
   ·exact E8 (.inl e1) (fun u v h=>by simp at h) (.inl fun h=>by simp at h) w
   ·by_cases e2:op=.neq
    ·exact E8 (.inr e2) (fun u v h=>by simp at h) (.inl fun h=>by simp at h) w
    ·exact IM e1 e2 w
  simp only [Sem.run_bind,hg,Result.andThen_ok,hr]
 ·rw [cond_eq_ite] at h
  split at h
  ·cases h
  ·rename_i hg; have hg:P.eqGuardType P.depth t=false:=by simpa using hg
   rw [Option.map_eq_some_iff] at h; obtain ⟨b,hb,rfl⟩:=h; obtain ⟨PZ,rfl,_⟩:=hx.GH; obtain ⟨Ut,rfl,_⟩:=hy.GH; refine ⟨.bool b,?_,.bool _⟩; simp only [Sem.run_bind,Tv (.inl rfl) hg,Result.andThen_ok,(Yp t PZ Ut).1,H_,O_ 20 _ _ _ _ _ _ hb hx hy 10000 (by omega),Sem.run_pure]
 ·rw [cond_eq_ite] at h
  split at h
  ·cases h
  ·rename_i hg; have hg:P.eqGuardType P.depth t=false:=by simpa using hg
   rw [Option.map_eq_some_iff] at h; obtain ⟨b,hb,rfl⟩:=h; obtain ⟨PZ,rfl,_⟩:=hx.GH; obtain ⟨Ut,rfl,_⟩:=hy.GH; refine ⟨.bool (!b),?_,.bool _⟩; simp only [Sem.run_bind,Tv (.inr rfl) hg,Result.andThen_ok,(Yp t PZ Ut).2,H_,O_ 20 _ _ _ _ _ _ hb hx hy 10000 (by omega),Sem.run_pure]
 ·split at h
  ·rename_i m hm; rw [cond_eq_ite] at h
   split at h
   ·rename_i hc
    cases h
    cases hx; cases hy
    refine ⟨.bool true,?_,.bool _⟩; simp only [Sem.run_bind,E8 (a:=.nilIface) (b:=.nilIface) (.inl rfl) (fun u v h=>by simp at h) (.inr hc),Result.andThen_ok,(Yq t).1,H_,Tw hm,Sem.run_pure]
   ·cases h
  ·cases h
 ·split at h
  ·rename_i m hm; rw [cond_eq_ite] at h
   split at h
   ·rename_i hc
    cases h
    cases hx; cases hy
    refine ⟨.bool false,?_,.bool _⟩; simp only [Sem.run_bind,E8 (a:=.nilIface) (b:=.nilIface) (.inr rfl) (fun u v h=>by simp at h) (.inr hc),Result.andThen_ok,(Yq t).2,H_,Tw hm,Sem.run_pure]; rfl
   ·cases h
  ·cases h
 ·split at h
  ·rename_i d hd; rw [Option.map_eq_some_iff] at h; obtain ⟨b,hb,rfl⟩:=h; obtain ⟨s1,s2⟩:=Yn hb hx hy; refine ⟨.bool b,?_,.bool _⟩; simp only [Sem.run_bind,E8 (.inl rfl) s1 (.inl s2),Result.andThen_ok,(Yo (t:=t) hb hx hy).1,H_,SF hd hb hx hy,Sem.run_pure]
  ·cases h
 ·split at h
  ·rename_i d hd; rw [Option.map_eq_some_iff] at h; obtain ⟨b,hb,rfl⟩:=h; obtain ⟨s1,s2⟩:=Yn hb hx hy; refine ⟨.bool (!b),?_,.bool _⟩; simp only [Sem.run_bind,E8 (.inr rfl) s1 (.inl s2),Result.andThen_ok,(Yo (t:=t) hb hx hy).2,H_,SF hd hb hx hy,Sem.run_pure]
  ·cases h
 ·cases h
theorem rV {op:BinOp} {t t2:TypeId} {x y:Operand} (ho:o.op=.binOp op t x y t2) (h:Bf P o e W=some outs) (hw:AZ P w0 ρ W w) (hx:AL ρ (e x) (e' x)) (hy:AL ρ (e y) (e' y)) :
  BC P w0 ρ W ((execOp e' o).run P w) outs:=by
 simp only [Bf,ho] at h; obtain ⟨v,hv,rfl⟩:=FH h; obtain ⟨v',hr,HD⟩:=iM hv hx hy w; refine .value hw ?_ HD; simp only [execOp,ho]; exact BH hr
end
end Go.Ce
namespace Go.Ce
open Go.RowKit (Below)
section
variable {P:Program} {w0:World} {ρ:Bz} {W:CW} {w:World} {o:Oper} {e e':Operand→Value} {outs:List (Bn × CW)}
theorem Aq.set {c c':Array Value} (h:Aq ρ c.toList c'.toList) {v v':Value} (hv:AL ρ v v') (i:Nat):Aq ρ (c.setIfInBounds i v).toList (c'.setIfInBounds i v').toList:=by
 rw [Aq.arr] at h ⊢; refine ⟨by simp [h.1],fun j hj=>?_⟩; rw [Array.size_setIfInBounds] at hj; have hj':j<c'.size:=h.1 ▸ hj; have h2:=h.2 j hj; simp only [Array.getD_eq_getD_getElem?] at h2 ⊢; rw [Array.getElem?_setIfInBounds,Array.getElem?_setIfInBounds]
 by_cases e:i=j
 ·rw [if_pos e,if_pos e,if_pos (by omega),if_pos (by omega)]; exact hv
 ·rw [if_neg e,if_neg e]; exact h2
theorem YL (off:Nat):∀ (vs vs':List Value) (k:Nat) (c c':Array Value),Aq ρ vs vs'→Aq ρ c.toList c'.toList →
  Aq ρ ((vs.zipIdx k).foldl (fun cs (p:Value × Nat)=>cs.setIfInBounds (off+p.2) p.1) c).toList ((vs'.zipIdx k).foldl (fun cs (p:Value × Nat)=>cs.setIfInBounds (off+p.2) p.1) c').toList:=by
 intro vs
 induction vs with
 | nil =>
  intro vs' k c c' h hc
  cases vs' with
  | nil=>exact hc
  | cons y ys=>have:=h.1; simp at this
 | cons x xs ih =>
  intro vs' k c c' h hc
  cases vs' with
  | nil=>have:=h.1; simp at this
  | cons y ys =>
   simp only [List.zipIdx_cons,List.foldl_cons]; exact ih ys (k+1) _ _ h.tail (hc.set h.head _)
inductive aO (ρ:Bz):List (Nat × Value)→List (Nat × Value)→Prop
 | nil:aO ρ [] []
 | cons (i:Nat) {v v':Value} {xs ys:List (Nat × Value)}:AL ρ v v'→aO ρ xs ys→aO ρ ((i,v)::xs) ((i,v')::ys)
theorem aO.map (xs:List (Nat × Operand)) (h:∀ p,p ∈ xs→AL ρ (e p.2) (e' p.2)):aO ρ (xs.map fun (i,x)=>(i,e x)) (xs.map fun (i,x)=>(i,e' x)):=by
 induction xs with
 | nil=>exact .nil
 | cons p xs ih=>exact .cons _ (h p (by simp)) (ih fun q hq=>h q (by simp [hq]))
theorem V4 (place:Nat→Option (Nat × Nat)):∀ {xs ys:List (Nat × Value)},aO ρ xs ys→∀ {c c' r:Array Value},Aq ρ c.toList c'.toList→Instr.fill place c xs=some r →
  ∃ r',Instr.fill place c' ys=some r'∧Aq ρ r.toList r'.toList:=by
 intro xs ys h
 induction h with
 | nil =>
  intro c c' r hc hr; simp only [Instr.fill,Option.some.injEq] at hr; subst hr; exact ⟨c',rfl,hc⟩
 | @cons i v v' xs ys hv hp ih =>
  intro c c' r hc hr; rw [Instr.fill] at hr ⊢
  cases qq:place i with
  | none=>rw [qq] at hr; cases hr
  | some q =>
   obtain ⟨off,size⟩:=q; rw [qq] at hr; simp only at hr ⊢; have M5:=hv.cells; have e1:v'.cells.size=v.cells.size:=by have:=M5.1; simpa using this.symm
   have e2:c'.size=c.size:=by have:=hc.1; simpa using this.symm
   rw [e1,e2]
   split at hr
   ·cases hr
   ·rename_i BZ; rw [if_neg BZ]; refine ih ?_ hr; rw [←Array.foldl_toList,←Array.foldl_toList,Array.toList_zipIdx,Array.toList_zipIdx]; exact YL off _ _ 0 _ _ M5 hc
theorem d_ {fs:List Field} {pl:List (Nat × Nat)} (h:(fs.mapM fun f=>(D_ P f.type).map fun s=>(f.offset,s))=some pl) (w:World) :
  (fs.mapM fun f=>(do pure (f.offset,←sizeOf f.type):Sem (Nat × Nat))).run P w=.ok pl w:=by
 induction fs generalizing pl with
 | nil=>simp only [List.mapM_nil,Option.pure_def,Option.some.injEq] at h; subst h; simp
 | cons f fs ih =>
  rw [List.mapM_cons] at h
  cases hs:D_ P f.type with
  | none=>simp [hs] at h
  | some s =>
   simp only [hs,Option.map_some,Option.bind_eq_bind,Option.bind_some] at h
   cases hr:(fs.mapM fun f=>(D_ P f.type).map fun s=>(f.offset,s)) with
   | none=>simp [hr] at h
   | some pl2 =>
    simp only [hr,Option.bind_some,Option.pure_def,Option.some.injEq] at h; subst h; rw [List.mapM_cons]; simp only [Sem.run_bind,BP hs,Result.andThen_ok,Sem.run_pure,ih hr]
theorem rX (hz:ZP P) {t:TypeId} {parts:Array (Nat × Operand)} (ho:o.op=.build t parts) (h:Bf P o e W=some outs) (hw:AZ P w0 ρ W w) (hp:∀ p,p ∈ parts.toList→AL ρ (e p.2) (e' p.2)) :
  BC P w0 ρ W ((execOp e' o).run P w) outs:=by
 simp only [Bf,ho] at h; obtain ⟨v,hv,rfl⟩:=FH h
 split at hv
 ·rename_i z fields L6 ht
  split at hv
  ·rename_i O9 qq; rw [Option.map_eq_some_iff] at hv; obtain ⟨r,hr,rfl⟩:=hv; obtain ⟨r',Iq,CR⟩:=V4 _ (aO.map (e:=e) (e':=e') parts.toList hp) (hz.rel L6 ρ).cells hr; refine .value hw (v':=.agg r') ?_ (.dq CR); simp only [execOp,ho]; refine BH ?_
   have hm:(fields.mapM fun f=>(do pure (f.offset,←sizeOf f.type):Sem (Nat × Nat))).run P w=.ok O9.toArray w:=by
    have:=d_ qq w; rw [←Array.toArray_toList (xs:=fields),List.mapM_toArray]; simp only [Sem.run_map,this,Result.andThen_ok]
   simp only [Instr.build,Sem.run_bind,Bp L6,Result.andThen_ok,AG ht,hm]; have:(fun i:Nat=>O9.toArray[i]?)=(fun i:Nat=>O9[i]?):=by funext i; simp
   rw [this,Array.toList_map,Iq]; rfl
  ·cases hv
 ·rename_i z n elem L6 ht
  split at hv
  ·rename_i s hs; rw [Option.map_eq_some_iff] at hv; obtain ⟨r,hr,rfl⟩:=hv; obtain ⟨r',Iq,CR⟩:=V4 _ (aO.map (e:=e) (e':=e') parts.toList hp) (hz.rel L6 ρ).cells hr; refine .value hw (v':=.agg r') ?_ (.dq CR); simp only [execOp,ho]; refine BH ?_; simp only [Instr.build,Sem.run_bind,Bp L6,Result.andThen_ok,AG ht,BP hs]; rw [Array.toList_map,Iq]; rfl
  ·cases hv
 ·cases hv
theorem Nw (hz:ZP P) {t:TypeId} {z:Value} (L6:Hz P t=some z) (n:Nat) (hn:n=0∨0<z.cells.size) (k:Nat) (hk:k<n) :
  AL ρ (cellAt .nil z.cells k) (((Array.range n).map (z.cells[· % z.cells.size]!)).getD k undef):=by
 have LL:0<z.cells.size:=by omega
 have Ae:k % z.cells.size<z.cells.size:=Nat.mod_lt _ LL; have h1:cellAt .nil z.cells k=z.cells.getD (k % z.cells.size) undef:=rfl
 have h2:((Array.range n).map (z.cells[· % z.cells.size]!)).getD k undef=z.cells.getD (k % z.cells.size) undef:=by
  simp [Array.getD_eq_getD_getElem?,hk,Ae]
 rw [h1,h2]; have hc:=(hz.rel L6 ρ).cells.2 (k % z.cells.size) (by simpa using Ae)
 simpa [Array.getD_eq_getD_getElem?,List.getD_eq_getElem?_getD] using hc
theorem YM (hz:ZP P) {t:TypeId} {len:Nat} {parts:Array (Nat × Operand)} (ho:o.op=.buildSlice t len parts) (h:Bf P o e W=some outs) (hw:AZ P w0 ρ W w) (hp:∀ p,p ∈ parts.toList→AL ρ (e p.2) (e' p.2)) :
  BC P w0 ρ W ((execOp e' o).run P w) outs:=by
 simp only [Bf,ho] at h; obtain ⟨v,W1,hv,rfl⟩:=Nv h
 split at hv
 ·rename_i elem ht; obtain ⟨s,hs,hv⟩:=Af hv; obtain ⟨z,L6,hv⟩:=Af hv; rw [cond_eq_ite] at hv
  split at hv
  ·rename_i BZ; simp only [Bool.and_eq_true] at BZ; have hle:=Nat.le_of_ble_eq_true BZ.1; have J5:=Nat.eq_of_beq_eq_true BZ.2
   split at hv
   ·rename_i cs ADd; simp only [Option.some.injEq,Prod.mk.injEq] at hv; obtain ⟨rfl,rfl⟩:=hv
    have hzero:len*s=0∨0<z.cells.size:=by
     rw [J5]
     rcases Nat.eq_zero_or_pos s with h0 | h0
     ·left; rw [h0]; rfl
     ·exact .inr h0
    have ADe:Aq ρ ((Bk .nil z.cells (len*s) 0).toArray).toList ((Array.range (len*s)).map (z.cells[· % z.cells.size]!)).toList:=by
     refine ⟨by simp [A6],fun i hi=>?_⟩; have hi:i<len*s:=by simpa [A6] using hi
     have:=Nw (ρ:=ρ) hz L6 (len*s) hzero i hi; have e1:=Gi .nil z.cells (len*s) 0 i hi; rw [Nat.zero_add] at e1; simp only [e1]; rw [Array.getD_eq_getD_getElem?,←Array.getElem?_toList] at this; rw [List.getD_eq_getElem?_getD]; exact this
    obtain ⟨r',Iq,CR⟩:=V4 _ (aO.map (e:=e) (e':=e') parts.toList hp) ADe ADd
    obtain ⟨ρ',DV,_,JF,ha⟩:=QH hw (c:=Tr.nil.Aa 0 cs.toList) (z:=#[]) (n:=cs.size) (c':=r') hs (by simpa using CR.1.symm) (fun k hk=>by
     rw [DE _ _ _ (by simpa using hk)]; have:=CR.2 k (by simpa using hk)
     simpa [Array.getD_eq_getD_getElem?,List.getD_eq_getElem?_getD] using this)
    refine ⟨_,_,ρ',List.mem_singleton.2 rfl,DV,.value (w:={ w with heap:=w.heap.push (.cells r' elem) }) ?_ (.slice _ ha (.inl rfl)) JF⟩; simp only [execOp,ho]; refine BH ?_; have wj:¬len*s>2 ^ 24:=by omega
    have iN:∀ f g:Nat→Value,len*s=0→(Array.range (len*s)).map f=(Array.range (len*s)).map g:=fun f g h0=>by simp [h0]
    simp only [Instr.buildSlice,Sem.run_bind,AG ht,Result.andThen_ok,BP hs]; rw [if_neg wj]
    by_cases h0:len*s=0
    ·rw [if_pos h0]; simp only [Sem.run_bind,Sem.run_pure,Result.andThen_ok]; rw [iN _ (z.cells[· % z.cells.size]!) h0,Array.toList_map,Iq]; simp [newRow]
    ·rw [if_neg h0]; simp only [Sem.run_bind,Bp L6,Sem.run_pure,Result.andThen_ok]; rw [Array.toList_map,Iq]; simp [newRow]
   ·cases hv
  ·cases hv
 ·cases hv
theorem OX {t elem:TypeId} {k1 k2:IntKind} {ln cp:Int} {s:Nat} {z:Value} (ht:P.underlying t=some (.slice elem)) (hs:D_ P elem=some s) (L6:Hz P elem=some z) (c1:0≤ln) (c2:ln≤cp) (c3:cp≤2000000)
  (c4:(P.info? elem).map (·.bytes) |>.getD 0 |> (·≤1024)) (w:World) :
  (Instr.makeSlice t (.int k1 ln) (.int k2 cp)).run P w=.ok (.slice (some ⟨w.heap.size,0,none⟩) ln.toNat cp.toNat) { w with heap:=w.heap.push (.cells ((Array.range (cp.toNat*s)).map (z.cells[· % z.cells.size]!)) elem) }:=by
 obtain ⟨info,eA⟩:∃ i,P.info? elem=some i:=by
  unfold D_ at hs
  cases hi:P.info? elem with
  | none=>simp [hi] at hs
  | some i=>exact ⟨i,rfl⟩
 have hb:info.bytes≤1024:=by simpa [eA] using c4
 have w1:IntKind.i64.wrap ln=ln:=by unfold IntKind.wrap; simp [IntKind.bits,IntKind.signed]; omega
 have w2:IntKind.i64.wrap cp=cp:=by unfold IntKind.wrap; simp [IntKind.bits,IntKind.signed]; omega
 have wj:(info.bytes:Int)*cp≤2 ^ 48:=by
  have h1:(info.bytes:Int)*cp≤1024*cp:=Int.mul_le_mul_of_nonneg_right (by omega) (by omega); omega
 have t1:(decide (cp<0) || decide ((info.bytes:Int)*cp>2 ^ 48))=false:=by simp; omega
 simp only [Instr.makeSlice,Sem.run_bind,AG ht,Result.andThen_ok,asInt,asIntOf,Sem.run_pure,IL eA,w1,w2,Bool.or_eq_true,decide_eq_true_eq]; rw [if_neg (by omega)]; simp only [Sem.run_bind,run_askRoom,Result.andThen_ok,BP hs]; have iN:∀ f g:Nat→Value,cp.toNat*s=0→(Array.range (cp.toNat*s)).map f=(Array.range (cp.toNat*s)).map g:=fun f g h0=>by simp [h0]
 by_cases h0:cp.toNat*s=0
 ·rw [if_pos h0]; simp only [Sem.run_bind,Sem.run_pure,Result.andThen_ok]; rw [iN _ (z.cells[· % z.cells.size]!) h0]; simp [newRow]
 ·rw [if_neg h0]; simp only [Sem.run_bind,Bp L6,Sem.run_pure,Result.andThen_ok,newRow,run_newObj]
theorem aP (hz:ZP P) {t:TypeId} {l c:Operand} (ho:o.op=.makeSlice t l c) (h:Bf P o e W=some outs) (hw:AZ P w0 ρ W w) (hl:AL ρ (e l) (e' l)) (hc:AL ρ (e c) (e' c)) :
  BC P w0 ρ W ((execOp e' o).run P w) outs:=by
 simp only [Bf,ho] at h; obtain ⟨v,W1,hv,rfl⟩:=Nv h
 split at hv
 ·rename_i elem k1 ln k2 cp ht h1 h2; rw [h1] at hl; rw [h2] at hc; generalize e1:e' l=vl at hl; generalize e2:e' c=vc at hc
  cases hl
  cases hc
  obtain ⟨s,hs,hv⟩:=Af hv; obtain ⟨z,L6,hv⟩:=Af hv; rw [cond_eq_ite] at hv
  split at hv
  ·rename_i BZ; simp only [Bool.and_eq_true,decide_eq_true_eq] at BZ; obtain ⟨⟨⟨⟨⟨c1,c2⟩,c3⟩,c4⟩,c5⟩,c6⟩:=BZ; have c4:=Nat.le_of_ble_eq_true c4; have c5:=Nat.eq_of_beq_eq_true c5; have c6:0<s:=by have:=Nat.le_of_ble_eq_true c6; omega
   simp only [Option.some.injEq,Prod.mk.injEq] at hv; obtain ⟨rfl,rfl⟩:=hv; obtain ⟨ρ',DV,_,JF,ha⟩:=QH hw (c:=.nil) (z:=z.cells) (n:=cp.toNat*s) (c':=(Array.range (cp.toNat*s)).map (z.cells[· % z.cells.size]!)) hs (by simp) (fun k hk=>Nw hz L6 _ (.inr (by omega)) k hk); refine ⟨_,_,ρ',List.mem_singleton.2 rfl,DV,.value (w:={ w with heap:=w.heap.push (.cells ((Array.range (cp.toNat*s)).map (z.cells[· % z.cells.size]!)) elem) }) ?_ (.slice _ ha (.inl rfl)) JF⟩; simp only [execOp,ho,e1,e2]; exact BH (OX ht hs L6 c1 c2 c3 c4 w)
  ·cases hv
 ·cases hv
end
end Go.Ce
namespace Go.Ce
open Go.RowKit (Below)
section
variable {P:Program} {w0:World} {ρ:Bz} {W:CW} {w:World} {o:Oper} {e e':Operand→Value} {outs:List (Bn × CW)}
theorem eB {f:FuncId} {first cap:Array Operand} (ho:o.op=.makeFunc (.func f) first cap) (h:Bf P o e W=some outs) (hw:AZ P w0 ρ W w)
  (hf:∀ x,x ∈ first.toList→AL ρ (e x) (e' x)) (hc:∀ x,x ∈ cap.toList→AL ρ (e x) (e' x)):BC P w0 ρ W ((execOp e' o).run P w) outs:=by
 simp only [Bf,ho] at h
 cases h
 have h1:=Aq.arr.1 (by simpa using Aq.map (ρ:=ρ) first.toList e e' hf:Aq ρ (first.map e).toList (first.map e').toList); have h2:=Aq.arr.1 (by simpa using Aq.map (ρ:=ρ) cap.toList e e' hc:Aq ρ (cap.map e).toList (cap.map e').toList); refine .value hw ?_ (.func (.func f) h1.1 h1.2 h2.1 h2.2); simp only [execOp,ho]; exact BH (by simp [Instr.makeFunc])
theorem iO {t:TypeId} (ho:o.op=.makeMap t none) (h:Bf P o e W=some outs) (hw:AZ P w0 ρ W w):BC P w0 ρ W ((execOp e' o).run P w) outs:=by
 simp only [Bf,ho] at h
 cases h
 obtain ⟨DV,JF⟩:=hw.new (o:=.map [] 0) (o':=.map #[] 0) ⟨w.heap.size,0,0,0,0⟩ rfl (.map rfl trivial); refine ⟨_,_,_,List.mem_singleton.2 rfl,DV,.value (v':=.map (some w.heap.size)) (w:={ w with heap:=w.heap.push (.map #[] 0) }) ?_ (.map ⟨⟨w.heap.size,0,0,0,0⟩,by simp,rfl⟩) JF⟩; simp only [execOp,ho]; exact BH (by simp [Instr.makeMap])
theorem aQ {t:TypeId} {x:Operand} {i:Nat} (ho:o.op=.fieldAddr t x i) (h:Bf P o e W=some outs) (hw:AZ P w0 ρ W w) (hx:AL ρ (e x) (e' x)) :
  BC P w0 ρ W ((execOp e' o).run P w) outs:=by
 simp only [Bf,ho] at h; obtain ⟨v,hv,rfl⟩:=FH h
 split at hv
 ·rename_i fs a ht hc; rw [hc] at hx; generalize FP:e' x=Tt at hx
  cases hx with
  | @ptr _ a' ha =>
   split at hv
   ·rename_i fd yq
    split at hv
    ·rename_i m hm; rw [cond_eq_ite] at hv
     split at hv
     ·cases hv
     ·rename_i nu; have nu:m≠0:=by simpa using nu
      cases hv
      refine .value hw (v':=.pointer (some (a'.add fd.offset))) ?_ (.ptr (QF ha _)); simp only [execOp,ho,FP]; refine BH ?_; simp only [Instr.fieldAt,Sem.run_bind,AG ht,Result.andThen_ok,yq,Instr.sureAddr,Sem.run_pure,fieldPlace,BP hm,if_neg nu]
    ·cases hv
   ·cases hv
 ·cases hv
theorem Aq.extract {c c':Array Value} (h:Aq ρ c.toList c'.toList) (i j:Nat):Aq ρ (c.extract i j).toList (c'.extract i j).toList:=by
 rw [Aq.arr] at h ⊢; refine ⟨by simp [h.1],fun k hk=>?_⟩; have hk:k<min j c.size-i:=by simpa using hk
 have h2:=h.2 (i+k) (by omega); have l1:i+k<c.size:=by omega
 have l2:i+k<c'.size:=by omega
 simp only [Array.getD_eq_getD_getElem?] at h2 ⊢; have g1:(c.extract i j)[k]?=c[i+k]?:=by rw [Array.getElem?_extract,if_pos (by omega)]
 have g2:(c'.extract i j)[k]?=c'[i+k]?:=by rw [Array.getElem?_extract,if_pos (by omega)]
 rw [g1,g2]; exact h2
theorem eD {t:TypeId} {cs YA:Array Value} {off:Nat} {v:Value} (hl:Aq ρ cs.toList YA.toList)
  (h:(agg? P t=some true∧∃ m,D_ P t=some m∧v=.agg (cs.extract off (off+m)))∨(agg? P t=some false∧cs[off]?=some v)) :
  ∃ v',(part t YA off).run P w=.ok v' w∧AL ρ v v':=by
 rcases h with ⟨ha,m,hm,rfl⟩ | ⟨ha,hv⟩
 ·refine ⟨.agg (YA.extract off (off+m)),?_,.dq (hl.extract _ _)⟩; simp only [part,Sem.run_bind,F4 ha,Result.andThen_ok,if_true,BP hm,Sem.run_pure]
 ·obtain ⟨y,hy,hr⟩:=hl.get (x:=v) (i:=off) (by simpa using hv); have hy:YA[off]?=some y:=by simpa using hy
  refine ⟨y,?_,hr⟩; simp only [part,Sem.run_bind,F4 ha,Result.andThen_ok,Bool.false_eq_true,if_false,hy,Sem.run_pure]
theorem rY {t:TypeId} {x:Operand} {i:Nat} (ho:o.op=.field t x i) (h:Bf P o e W=some outs) (hw:AZ P w0 ρ W w) (hx:AL ρ (e x) (e' x)) :
  BC P w0 ρ W ((execOp e' o).run P w) outs:=by
 simp only [Bf,ho] at h; obtain ⟨v,hv,rfl⟩:=FH h
 split at hv
 ·rename_i fs cs ht hc; rw [hc] at hx; generalize FP:e' x=Tt at hx; obtain ⟨YA,rfl,hl⟩:=hx.GH
  split at hv
  ·rename_i fd yq
   obtain ⟨v',hr,HD⟩:=eD (P:=P) (w:=w) (t:=fd.type) (off:=fd.offset) (v:=v) hl (by
    split at hv
    ·rename_i m ha hm
     cases hv
     exact .inl ⟨ha,m,hm,rfl⟩
    ·rename_i ha; exact .inr ⟨ha,hv⟩
    ·cases hv)
   refine .value hw ?_ HD; simp only [execOp,ho,FP]; refine BH ?_; simp only [Instr.field,Sem.run_bind,AG ht,Result.andThen_ok,yq,asAgg,Sem.run_pure,hr]
  ·cases hv
 ·cases hv
theorem aR {t:TypeId} {x ix:Operand} (ho:o.op=.indexAddr t x ix) (h:Bf P o e W=some outs) (hw:AZ P w0 ρ W w) (hx:AL ρ (e x) (e' x)) (hi:AL ρ (e ix) (e' ix)) :
  BC P w0 ρ W ((execOp e' o).run P w) outs:=by
 simp only [Bf,ho] at h; obtain ⟨v,hv,rfl⟩:=FH h
 split at hv
 ·rename_i k i iP; rw [iP] at hi; generalize FP:e' ix=vi' at hi
  cases hi
  split at hv
  ·rename_i len elem a ht hc; rw [hc] at hx; generalize P0:e' x=Tt at hx
   cases hx with
   | @ptr _ a' ha =>
    obtain ⟨s,hs,hv⟩:=Af hv; rw [cond_eq_ite] at hv
    split at hv
    ·rename_i BZ; simp only [Bool.and_eq_true,decide_eq_true_eq] at BZ
     cases hv
     refine .value hw (v':=.pointer (some (a'.add (i.toNat*s)))) ?_ (.ptr (QF ha _)); simp only [execOp,ho,FP,P0]; refine BH ?_; simp only [Instr.indexAt,Sem.run_bind,asIntOf,Sem.run_pure,Result.andThen_ok,AG ht,Instr.sureAddr,if_pos BZ,BP hs]
    ·cases hv
  ·rename_i elem a len cp ht hc; rw [hc] at hx; generalize P0:e' x=Tt at hx
   have:∃ a' c',Tt=.slice (some a') len c'∧(len=0∨L9 ρ a a'):=by
    cases hx with
    | slice _ ha _=>exact ⟨_,_,rfl,.inr ha⟩
    | K1 _ _ _ _ _=>exact ⟨_,_,rfl,.inl rfl⟩
    | JE _=>exact ⟨_,_,rfl,.inl rfl⟩
   obtain ⟨a',c',rfl,yr⟩:=this; obtain ⟨s,hs,hv⟩:=Af hv; rw [cond_eq_ite] at hv
   split at hv
   ·rename_i BZ; simp only [Bool.and_eq_true,decide_eq_true_eq] at BZ
    cases hv
    have ha:L9 ρ a a':=yr.resolve_left (by omega); refine .value hw (v':=.pointer (some (a'.add (i.toNat*s)))) ?_ (.ptr (QF ha _)); simp only [execOp,ho,FP,P0]; refine BH ?_; simp only [Instr.indexAt,Sem.run_bind,asIntOf,Sem.run_pure,Result.andThen_ok,AG ht,if_pos BZ,BP hs]
   ·cases hv
  ·cases hv
 ·cases hv
theorem rZ {t:TypeId} {x ix:Operand} (ho:o.op=.index t x ix) (h:Bf P o e W=some outs) (hw:AZ P w0 ρ W w) (hx:AL ρ (e x) (e' x)) (hi:AL ρ (e ix) (e' ix)) :
  BC P w0 ρ W ((execOp e' o).run P w) outs:=by
 simp only [Bf,ho] at h; obtain ⟨v,hv,rfl⟩:=FH h
 split at hv
 ·rename_i k i iP; rw [iP] at hi; generalize FP:e' ix=vi' at hi
  cases hi
  split at hv
  ·rename_i len elem cs ht hc; rw [hc] at hx; generalize P0:e' x=Tt at hx; obtain ⟨YA,rfl,hl⟩:=hx.GH; rw [cond_eq_ite] at hv
   split at hv
   ·rename_i BZ; simp only [Bool.and_eq_true,decide_eq_true_eq] at BZ
    have:∃ m,D_ P elem=some m∧((agg? P elem=some true∧∃ n,D_ P elem=some n∧v=.agg (cs.extract (i.toNat*m) (i.toNat*m+n)))∨(agg? P elem=some false∧cs[i.toNat*m]?=some v)):=by
     split at hv
     ·rename_i m ha hm
      cases hv
      exact ⟨m,hm,.inl ⟨ha,m,hm,rfl⟩⟩
     ·rename_i m ha hm; exact ⟨m,hm,.inr ⟨ha,hv⟩⟩
     ·cases hv
    obtain ⟨m,hm,hp⟩:=this; obtain ⟨v',hr,HD⟩:=eD (P:=P) (w:=w) hl hp; refine .value hw ?_ HD; simp only [execOp,ho,FP,P0]; refine BH ?_; simp only [Instr.index,Sem.run_bind,asIntOf,Sem.run_pure,Result.andThen_ok,AG ht,if_pos BZ,BP hm,hr]
   ·cases hv
  ·rename_i s ht hc; rw [hc] at hx; generalize P0:e' x=Tt at hx
   cases hx
   rw [cond_eq_ite] at hv
   split at hv
   ·rename_i BZ; have BZ:0≤i:=by simpa using BZ
    cases hs:s[i.toNat]? with
    | none=>rw [hs] at hv; cases hv
    | some b =>
     rw [hs] at hv
     cases hv
     refine .value hw ?_ (.int _ _); simp only [execOp,ho,FP,P0]; refine BH ?_; simp only [Instr.index,Sem.run_bind,asIntOf,Sem.run_pure,Result.andThen_ok,AG ht,if_pos BZ,hs]
   ·cases hv
  ·cases hv
 ·cases hv
theorem re {t:TypeId} {x:Operand} {lo hi mx:Option Operand} (ho:o.op=.slice t x lo hi mx) (h:Bf P o e W=some outs) (hw:AZ P w0 ρ W w) (hx:AL ρ (e x) (e' x))
  (hl:∀ y,lo=some y→AL ρ (e y) (e' y)) (hh:∀ y,hi=some y→AL ρ (e y) (e' y)) (hm:∀ y,mx=some y→AL ρ (e y) (e' y)):BC P w0 ρ W ((execOp e' o).run P w) outs:=by
 simp only [Bf,ho] at h; obtain ⟨v,hv,rfl⟩:=FH h; have rl:=Me.map (ρ:=ρ) (f:=e) (g:=e') lo hl; have rh:=Me.map (ρ:=ρ) (f:=e) (g:=e') hi hh; have rm:=Me.map (ρ:=ρ) (f:=e) (g:=e') mx hm
 split at hv
 ·rename_i s ht hc; rw [hc] at hx; generalize P0:e' x=Tt at hx
  cases hx
  obtain ⟨h',hh',hv⟩:=Af hv; obtain ⟨l',Tx,hv⟩:=Af hv; rw [cond_eq_ite] at hv
  split at hv
  ·cases hv
  ·rename_i dv
   cases hv
   have dv:mx=none:=by cases mx <;> simp_all
   subst dv; have hb:=MA (P:=P) (ρ:=ρ) (mx:=none) (mx':=none) (cap:=s.size) (cap':=s.size) (m:=s.size) false rfl hh' Tx rl rh trivial (Nat.le_refl _) (by simp); obtain ⟨m',hr,_,_⟩:=hb; refine .value hw ?_ (.string _); simp only [execOp,ho,P0]; refine BH ?_; simp only [Instr.sliceAt,Sem.run_bind,AG ht,Result.andThen_ok,Instr.slice,Option.map_none,Option.isSome_none,Bool.false_eq_true,if_false,Sem.run_pure,hr]
 ·obtain ⟨v',hr,HD⟩:=aN hw hv hx rl rh rm; refine .value hw ?_ HD; simp only [execOp,ho]; exact BH hr
theorem YN (hz:ZP P) {x:Operand} {xt t:TypeId} {ok:Bool} (ho:o.op=.typeAssert x xt t ok) (h:Bf P o e W=some outs) (hw:AZ P w0 ρ W w) (hx:AL ρ (e x) (e' x)) :
  BC P w0 ρ W ((execOp e' o).run P w) outs:=by
 simp only [Bf,ho] at h; obtain ⟨v,hv,rfl⟩:=FH h
 split at hv
 ·cases hv
 ·rename_i d u y h1 h2 hce; have hc:P.underlying t=some d:=by first | exact h1 | exact h2
  have ht:∀ m,d=.interface m→False:=by first | exact h1 | exact h2
  rw [hce] at hx; generalize P0:e' x=Tt at hx
  cases hx with
  | @iface _ _ y' hy =>
   rw [cond_eq_ite] at hv; have D0:∀ m,d≠.interface m:=fun m hm=>ht m hm
   have run:∀ {v':Value},((t=u∧v'=(if ok=true then .tuple #[y',.bool true] else y'))∨(t≠u∧ok=true∧∃ z,Hz P t=some z∧v'=.tuple #[z,.bool false])) →
     (Instr.typeAssert (.iface u y') xt t ok).run P w=.ok v' w:=by
    intro v' hr; simp only [Instr.typeAssert,Sem.run_bind,AG hc,Result.andThen_ok]
    rcases hr with ⟨iQ,rfl⟩ | ⟨iQ,rfl,z,L6,rfl⟩
    ·cases d <;> first | (exact (D0 _ rfl).elim) | (simp [iQ])
    ·cases d <;> first | (exact (D0 _ rfl).elim) | (simp [Ne.symm iQ,Bp L6])
   split at hv
   ·rename_i iQ; have iQ:t=u:=by simpa using iQ
    cases hv
    refine .value hw (v':=if ok=true then .tuple #[y',.bool true] else y') ?_ ?_
    ·simp only [execOp,ho,P0]; exact BH (run (.inl ⟨iQ,rfl⟩))
    ·cases ok
     ·simpa using hy
     ·simp only [cond_true,if_true]; exact .tuple' (.cons hy (.cons (.bool _) (.nil _)))
   ·rename_i iQ; have iQ:¬t=u:=by simpa using iQ
    cases ok
    ·cases hv
    ·simp only [cond_true] at hv; rw [Option.map_eq_some_iff] at hv; obtain ⟨z,L6,rfl⟩:=hv; refine .value hw (v':=.tuple #[z,.bool false]) ?_ (.tuple' (.cons (hz.rel L6 ρ) (.cons (.bool _) (.nil _)))); simp only [execOp,ho,P0]; exact BH (run (.inr ⟨iQ,rfl,z,L6,rfl⟩))
 ·cases hv
theorem ri {x:Operand} (ho:o.op=.panic x) (h:Bf P o e W=some outs) (hw:AZ P w0 ρ W w) (hx:AL ρ (e x) (e' x)):BC P w0 ρ W ((execOp e' o).run P w) outs:=by
 simp only [Bf,ho] at h
 split at h
 ·rename_i t y hc
  cases h
  rw [hc] at hx; generalize P0:e' x=Tt at hx
  cases hx with
  | @iface _ _ y' hy =>
   refine ⟨_,_,ρ,List.mem_singleton.2 rfl,.refl _,.panic (v':=.iface t y') (w:=w) ?_ (.iface _ hy) hw⟩; simp [execOp,ho,P0,Instr.panic]
 ·cases h
theorem rj {c:Call} {f:Operand} (ho:o.op=.defer c) (hf:c.callee=.value f) (h:Bf P o e W=some outs) (hw:AZ P w0 ρ W w) (hx:AL ρ (e f) (e' f))
  (ha:∀ x,x ∈ c.args.toList→AL ρ (e x) (e' x)):BC P w0 ρ W ((execOp e' o).run P w) outs:=by
 simp only [Bf,ho,hf] at h; have DP:Aq ρ (c.args.map e).toList (c.args.map e').toList:=by simpa using Aq.map (ρ:=ρ) c.args.toList e e' ha
 split at h
 ·rename_i fn first cap hc
  cases h
  rw [hc] at hx; generalize P0:e' f=Tt at hx
  cases hx with
  | @func _ f' _ x' _ y' aS h1 h2 h3 h4 =>
   cases aS
   refine ⟨_,_,ρ,List.mem_singleton.2 rfl,.refl _,.defer (w:=w) (d':={ target:=.fn (.func fn) y',args:=x'++c.args.map e' }) ?_ (.fn ?_ ?_) hw⟩
   ·simp only [execOp,ho,resolve,hf,P0,Deferred.ofValue,Sem.run_bind,Sem.run_pure,Result.andThen_ok]
   ·exact Aq.arr.2 ⟨h3,h4⟩
   ·have e1:=Aq.arr.2 ⟨h1,h2⟩
    simpa using e1.append DP
 ·cases h
end
end Go.Ce
namespace Go.Ce
open Go.RowKit (Below)
section
variable {P:Program} {w0:World} {ρ:Bz} {W:CW} {w:World} {o:Oper} {e e':Operand→Value} {outs:List (Bn × CW)}
theorem Aw {r:Nat} {u:Obj} (h:w.heap[r]?=some u) (hc:∀ c e z,u≠.cells c e z):(getObj r).run P w=.ok u w:=by
 cases u <;> first | exact (hc _ _ _ rfl).elim | simp [getObj,Sem.run,h]
theorem DW {r:Nat} {u:Obj} (h:w.heap[r]?=some u) (hc:∀ c e z,u≠.cells c e z) (v:Obj):(setObj r v).run P w=.ok () { w with heap:=w.heap.setIfInBounds r v }:=by
 cases u <;> first | exact (hc _ _ _ rfl).elim | simp [setObj,Sem.run,h]
theorem eE {d:TypeDesc} {k k' v v':Value} {b:Bool} (h:Instr.sameNow d k v=some b) (hk:AL ρ k k') (hv:AL ρ v v'):Instr.sameNow d k' v'=some b:=by
 unfold Instr.sameNow at h ⊢; split at h <;> first | (cases h; done) | skip
 all_goals
  cases hk
  cases hv
  exact h
theorem eF {d:TypeDesc} {k k':Value} (hk:AL ρ k k'):∀ {es C3:List MapEntry},B_ ρ es C3→∀ {i:Nat} {r:Option (Nat × Value)},Instr.findNow d k es i=some r →
  ∃ r',Instr.findNow d k' C3 i=some r'∧((r=none∧r'=none)∨∃ j v v' en,r=some (j,v)∧r'=some (j,v')∧AL ρ v v'∧i≤j∧C3[j-i]?=some en∧Instr.sameNow d k' en.key=some true):=by
 intro es
 induction es with
 | nil =>
  intro C3 rk i r h
  cases C3 with
  | nil=>simp only [Instr.findNow,Option.some.injEq] at h; subst h; exact ⟨none,rfl,.inl ⟨rfl,rfl⟩⟩
  | cons _ _=>exact rk.elim
 | cons en es ih =>
  intro C3 rk i r h
  cases C3 with
  | nil=>exact rk.elim
  | cons dT C3 =>
   obtain ⟨h1,h2⟩:=rk
   cases h1 with
   | @mk k1 v1 k1' mL born rn eG =>
    rw [Instr.findNow] at h ⊢; simp only at h ⊢
    cases hs:Instr.sameNow d k k1 with
    | none=>rw [hs] at h; cases h
    | some b =>
     have O':=eE hs hk rn; rw [hs] at h; rw [O']
     cases b with
     | true =>
      cases h
      exact ⟨_,rfl,.inr ⟨i,v1,mL,⟨k1',mL,born⟩,rfl,rfl,eG,Nat.le_refl _,by simp,O'⟩⟩
     | false =>
      obtain ⟨r',Iq,BD⟩:=ih h2 h; refine ⟨r',Iq,BD.imp id ?_⟩; rintro ⟨j,v,v',en2,e1,e2,e3,e4,e5,e6⟩; refine ⟨j,v,v',en2,e1,e2,e3,by omega,?_,e6⟩; have:j-i=(j-(i+1))+1:=by omega
      rw [this]; simpa using e5
theorem eH {d:TypeDesc} {k v:Value} (h:Instr.sameNow d k v=some true):Instr.sameBits 10000 v k=true:=by
 unfold Instr.sameNow at h
 split at h <;> first | (cases h; done) | skip
 ·rename_i k1 a k2 b
  split at h
  ·rename_i hk; subst hk; have:a=b:=by simpa using h
   subst this; simp [Instr.sameBits]
  ·cases h
 ·rename_i a b; have h:(a == b)=true:=by simpa using h
  have:a=b:=by
   cases a; cases b
   have h:(_ == _)=true:=h; exact congrArg ByteArray.mk (Array.eq_of_isEqv _ _ (show Array.isEqv _ _ (fun a b=>a == b)=true from h))
  subst this; exact h
 ·rename_i a b; have:a=b:=by simpa using h
  subst this; simp [Instr.sameBits]
theorem aT {b:Bool} {t:TypeId} {d:TypeDesc} {k:Value} (hu:P.underlying t=some d) (hs:JR d=true) (w:World):(Instr.checkKey b 10000 t k).run P w=.ok () w:=by
 rw [Instr.checkKey]; simp only [Sem.run_bind,AG hu,Result.andThen_ok]
 cases d <;> first | (cases hs; done) | rfl
theorem rq (d:TypeDesc) (k v:Value):OU d k v=Instr.sameNow d k v:=by
 unfold OU
 split
 ·rename_i a b; simp only [Instr.sameNow,SE,beq_toListBytes]
 ·rfl
theorem Ty (d:TypeDesc) (k:Value):∀ (es:List MapEntry) (i:Nat),LH d k es i=Instr.findNow d k es i
 | [],_=>rfl
 | e::es,i=>by simp only [LH,Instr.findNow,rq,Ty d k es]; rfl
theorem V5 {x y x' y':Value} (h:O6 x y=true) (hx:AL ρ x x') (hy:AL ρ y y'):x'=y'∧∀ n,Instr.sameBits n y' x'=true:=by
 unfold O6 at h
 split at h
 ·simp only [Bool.and_eq_true,decide_eq_true_eq] at h; obtain ⟨rfl,rfl⟩:=h
  cases hx; cases hy
  exact ⟨rfl,fun n=>by cases n <;> simp [Instr.sameBits]⟩
 ·have:=M6 h; subst this
  cases hx; cases hy
  exact ⟨rfl,fun n=>by cases n <;> simp [Instr.sameBits,beq_toListBytes]⟩
 ·have:=eq_of_beq h; subst this
  cases hx; cases hy
  exact ⟨rfl,fun n=>by cases n <;> simp [Instr.sameBits]⟩
 ·cases h
theorem QJ:∀ {xs ys PZ Ut:List Value},P5 xs ys=true→Aq ρ xs PZ→Aq ρ ys Ut→PZ=Ut∧∀ n,((Ut.zip PZ).all fun (x,y)=>Instr.sameBits n x y)=true
 | [],[],PZ,Ut,_,hx,hy=>by
  have h1:PZ=[]:=List.length_eq_zero_iff.1 hx.1.symm; have h2:Ut=[]:=List.length_eq_zero_iff.1 hy.1.symm; subst h1 h2; exact ⟨rfl,fun _=>rfl⟩
 | x::xs,y::ys,[],_,_,hx,_=>by have:=hx.1; simp at this
 | x::xs,y::ys,_::_,[],_,_,hy=>by have:=hy.1; simp at this
 | x::xs,y::ys,x'::PZ,y'::Ut,h,hx,hy=>by
  simp only [P5,Bool.and_eq_true] at h; obtain ⟨e1,e2⟩:=V5 h.1 hx.head hy.head; obtain ⟨e3,e4⟩:=QJ h.2 hx.tail hy.tail; exact ⟨by rw [e1,e3],fun n=>by simp only [List.zip_cons_cons,List.all_cons,e2 n,e4 n,Bool.and_self]⟩
 | [],_::_,_,_,h,_,_=>by cases h
 | _::_,[],_,_,h,_,_=>by cases h
theorem eI {k v k' v':Value} (h:aF k v=true) (hk:AL ρ k k') (hv:AL ρ v v'):Instr.sameBits 10000 v' k'=true:=by
 unfold aF at h
 split at h
 ·obtain ⟨PZ,rfl,hx⟩:=hk.GH; obtain ⟨Ut,rfl,hy⟩:=hv.GH; obtain ⟨e1,e2⟩:=QJ h hx hy; have e:PZ=Ut:=Array.ext' e1; rw [show (10000:Nat)=9999+1 from rfl,Instr.sameBits]; rw [e2 9999,e]; simp
 ·cases h
theorem US {b:Bool} {n:Nat} {cs YA:Array Value} (hc:Aq ρ cs.toList YA.toList) (w:World):∀ (fs:List Field),
  (fs.all fun f=>!(f.name == "_") && (match P.underlying f.type with | some d=>JR d | none=>false) && (Tl P f.type cs f.offset).isSome)=true →
  (forIn fs PUnit.unit (fun f _=>do
   if f.name≠"_" then do Instr.checkKey b (n+1) f.type (←part f.type YA f.offset); pure (ForInStep.yield PUnit.unit) else pure (ForInStep.yield PUnit.unit)):Sem PUnit).run P w=.ok PUnit.unit w:=by
 intro fs
 induction fs with
 | nil=>intro _; simp
 | cons f fs ih =>
  intro h; simp only [List.all_cons,Bool.and_eq_true] at h; obtain ⟨⟨⟨h1,h2⟩,h3⟩,h4⟩:=h; have hn:f.name≠"_":=by simpa using h1
  obtain ⟨v,hv⟩:=Option.isSome_iff_exists.1 h3; obtain ⟨v',HD,_⟩:=LM hv hc w
  have Mu:(Instr.checkKey b (n+1) f.type v').run P w=.ok () w:=by
   split at h2
   ·rename_i d hd; rw [Instr.checkKey]; simp only [Sem.run_bind,AG hd,Result.andThen_ok]
    cases d <;> first | (cases h2; done) | rfl
   ·cases h2
  simp only [List.forIn_cons,if_pos hn,Sem.run_bind,HD,Result.andThen_ok,Mu,Sem.run_pure]; exact ih h4
theorem n_ {t:TypeId} {k k':Value} (hk:AL ρ k k'):∀ {es C3:List MapEntry},B_ ρ es C3→∀ {i:Nat} {r:Option (Nat × Value)},dj P t k es i=some r →
  ∃ r',(∀ w:World,(Instr.findAsking t k' C3 i).run P w=.ok r' w)∧((r=none∧r'=none)∨∃ j v v' en,r=some (j,v)∧r'=some (j,v')∧AL ρ v v'∧i≤j∧C3[j-i]?=some en∧Instr.sameBits 10000 en.key k'=true):=by
 intro es
 induction es with
 | nil =>
  intro C3 he i r h
  cases C3 with
  | cons=>exact he.elim
  | nil =>
   simp only [dj,Option.some.injEq] at h; subst h; exact ⟨none,fun w=>by simp [Instr.findAsking],.inl ⟨rfl,rfl⟩⟩
 | cons en es ih =>
  intro C3 he i r h
  cases C3 with
  | nil=>exact he.elim
  | cons dT C3 =>
   obtain ⟨h1,h2⟩:=he
   cases h1 with
   | @mk k1 v1 k1' mL b rn eG =>
    simp only [dj] at h
    have run:∀ (b:Bool),di P 20 t k k1=some b→∀ w:World,(Op.equal t k' k1').run P w=.ok b w:=fun b hb w=>by
     rw [H_]; exact O_ 20 _ _ _ _ _ _ hb hk rn 10000 (by omega) w
    split at h
    ·rename_i OJ; rw [cond_eq_ite] at h
     split at h
     ·rename_i ADf
      cases h
      refine ⟨some (i,mL),fun w=>by simp only [Instr.findAsking,Sem.run_bind,run true OJ,Result.andThen_ok,if_true,Sem.run_pure],.inr ⟨i,v1,mL,_,rfl,rfl,eG,Nat.le_refl _,by simp; rfl,?_⟩⟩; exact eI ADf hk rn
     ·cases h
    ·rename_i OJ; obtain ⟨r',Iq,BD⟩:=ih h2 h; refine ⟨r',fun w=>by simp only [Instr.findAsking,Sem.run_bind,run false OJ,Result.andThen_ok,Bool.false_eq_true,if_false,Iq],BD.imp id ?_⟩; rintro ⟨j,v,v',en,e1,e2,e3,e4,e5,e6⟩; refine ⟨j,v,v',en,e1,e2,e3,by omega,?_,e6⟩; have:j-i=(j-(i+1))+1:=by omega
     rw [this]; simpa using e5
    ·cases h
theorem M7 {t:TypeId} {k k':Value} {es C3:List MapEntry} {r:Option (Nat × Value)} (h:OV P t k es=some r) (hk:AL ρ k k') (he:B_ ρ es C3) :
  ∃ r',(∀ (b:Bool) (w:World),(Instr.checkKey b 10000 t k').run P w=.ok () w)∧(∀ w:World,(Instr.findKey t k' C3).run P w=.ok r' w) ∧
   ((r=none∧r'=none)∨∃ j v v' en,r=some (j,v)∧r'=some (j,v')∧AL ρ v v'∧C3[j]?=some en∧Instr.sameBits 10000 en.key k'=true):=by
 unfold OV at h
 cases hd:P.underlying t with
 | none=>rw [hd] at h; cases h
 | some d =>
  rw [hd] at h; simp only [cond_eq_ite] at h
  split at h
  ·rename_i hs; rw [Ty] at h; obtain ⟨r',Iq,BD⟩:=eF hk he h
   refine ⟨r',fun b w=>aT hd hs w,fun w=>?_,BD.imp id ?_⟩
   ·simp only [Instr.findKey,Sem.run_bind,AG hd,Result.andThen_ok,Iq,Sem.run_pure]
   ·rintro ⟨j,v,v',en,e1,e2,e3,_,e5,e6⟩; exact ⟨j,v,v',en,e1,e2,e3,by simpa using e5,eH e6⟩
  ·split at h
   ·rename_i hf; unfold mF at hf; rw [hd] at hf
    split at hf
    ·rename_i fs cs mM
     cases mM
     simp only [Bool.and_eq_true] at hf; obtain ⟨eJ,qu⟩:=hf; obtain ⟨YA,rfl,hc⟩:=hk.GH; obtain ⟨r',Iq,BD⟩:=n_ hk he h
     refine ⟨r',fun b w=>?_,fun w=>?_,BD.imp id ?_⟩
     ·have:=US (P:=P) (b:=b) (n:=9998) hc w fs.toList qu; rw [show (10000:Nat)=9999+1 from rfl,Instr.checkKey]; simp only [Sem.run_bind,AG hd,Result.andThen_ok]; rw [←Array.forIn_toList,this]; rfl
     ·have AGp:Instr.findNow (.struct fs) (.agg YA) C3 0=(match C3 with | []=>some none | _::_=>none):=by
       cases C3 with
       | nil=>rfl
       | cons e C3=>simp [Instr.findNow,Instr.sameNow]
      simp only [Instr.findKey,Sem.run_bind,AG hd,Result.andThen_ok,AGp]
      cases C3 with
      | nil=>have:=Iq w; simpa [Instr.findAsking] using this
      | cons e C3=>exact Iq w
     ·rintro ⟨j,v,v',en,e1,e2,e3,_,e5,e6⟩; exact ⟨j,v,v',en,e1,e2,e3,by simpa using e5,e6⟩
    ·cases hf
   ·cases h
theorem AZ.Tz (h:AZ P w0 ρ W w) {r r':Nat} (hr:M1 ρ r r') {es:List MapEntry} {E7:Nat} (ho:W.obj r=some (.map es E7)) :
  ∃ x C3,ρ r=some x∧r'=x.b∧x.o=0∧w.heap[r']?=some (.map C3 E7)∧B_ ρ es C3.toList:=by
 obtain ⟨x,hx,rfl⟩:=hr; obtain ⟨o',IK,hr⟩:=h.obj ho (by simp) hx rfl
 cases hr with
 | map h1 h2=>exact ⟨x,_,hx,rfl,h1,IK,h2⟩
theorem oB (hz:ZP P) {t:TypeId} {x k:Operand} {ok:Bool} (ho:o.op=.lookup t x k ok) (h:Bf P o e W=some outs) (hw:AZ P w0 ρ W w) (hx:AL ρ (e x) (e' x)) (hk:AL ρ (e k) (e' k)) :
  BC P w0 ρ W ((execOp e' o).run P w) outs:=by
 simp only [Bf,ho] at h; obtain ⟨v,hv,rfl⟩:=FH h
 split at hv
 ·rename_i kt elem ht; obtain ⟨z,L6,hv⟩:=Af hv; obtain ⟨es,rk,hv⟩:=Af hv; obtain ⟨r,hr,hv⟩:=Af hv
  have:∃ C3:Array MapEntry,B_ ρ es C3.toList∧((e' x=.map none∧C3=#[])∨∃ r E7,e' x=.map (some r)∧w.heap[r]?=some (.map C3 E7)):=by
   generalize e' x=Tt at *
   split at rk
   ·rename_i hc; rw [hc] at hx
    cases hx
    cases rk
    exact ⟨#[],trivial,.inl ⟨rfl,rfl⟩⟩
   ·rename_i r0 hc; rw [hc] at hx
    cases hx with
    | map hb =>
     split at rk
     ·rename_i es0 E7 Bv
      cases rk
      obtain ⟨x,C3,_,_,_,hh,CR⟩:=hw.Tz hb Bv; exact ⟨C3,CR,.inr ⟨_,_,rfl,hh⟩⟩
     ·cases rk
   ·cases rk
  obtain ⟨C3,CR,AAP⟩:=this; obtain ⟨r',Mu,KI,BD⟩:=M7 hr hk CR
  have Ir:∀ y:Value × Bool,((r'=none∧y=(z,false))∨∃ j,r'=some (j,y.1)∧y.2=true) →
    (Instr.lookup t (e' x) (e' k) ok).run P w=.ok (if ok then .tuple #[y.1,.bool y.2] else y.1) w:=by
   intro y hy
   rcases AAP with ⟨hc,rfl⟩ | ⟨r,E7,hc,hh⟩ <;> rcases hy with ⟨rfl,rfl⟩ | ⟨j,rfl,h2⟩
   ·simp only [Instr.lookup,Sem.run_bind,AG ht,Result.andThen_ok,hc,Sem.run_pure,Mu,KI,Bp L6]
   ·simp only [Instr.lookup,Sem.run_bind,AG ht,Result.andThen_ok,hc,Sem.run_pure,Mu,KI,h2]
   ·simp only [Instr.lookup,Sem.run_bind,AG ht,Result.andThen_ok,hc,Aw hh (by simp),Sem.run_pure,Mu,KI,Bp L6]
   ·simp only [Instr.lookup,Sem.run_bind,AG ht,Result.andThen_ok,hc,Aw hh (by simp),Sem.run_pure,Mu,KI,h2]
  rcases BD with ⟨rfl,rfl⟩ | ⟨j,x1,x1',en,rfl,rfl,hxx,_,_⟩
  ·cases hv
   refine .value hw ?_ ?_ (v':=if ok then .tuple #[z,.bool false] else z)
   ·simp only [execOp,ho]; exact BH (Ir (z,false) (.inl ⟨rfl,rfl⟩))
   ·cases ok
    ·exact hz.rel L6 ρ
    ·exact .tuple' (.cons (hz.rel L6 ρ) (.cons (.bool _) (.nil _)))
  ·cases hv
   refine .value hw ?_ ?_ (v':=if ok then .tuple #[x1',.bool true] else x1')
   ·simp only [execOp,ho]; exact BH (Ir (x1',true) (.inr ⟨j,rfl,rfl⟩))
   ·cases ok
    ·exact hxx
    ·exact .tuple' (.cons hxx (.cons (.bool _) (.nil _)))
 ·cases hv
theorem B_.push:∀ {es C3:List MapEntry},B_ ρ es C3→∀ {a b:MapEntry},aK ρ a b→B_ ρ (es++[a]) (C3++[b])
 | [],[],_,_,_,h=>⟨h,trivial⟩
 | _::_,_::_,h,_,_,k=>⟨h.1,h.2.push k⟩
 | [],_::_,h,_,_,_=>h.elim
 | _::_,[],h,_,_,_=>h.elim
theorem B_.KF:∀ {es C3:List MapEntry},B_ ρ es C3→∀ {v v' k k':Value},AL ρ v v'→AL ρ k k'→∀ i,B_ ρ (KF v k i es) (C3.modify i fun en=>{ en with key:=k',val:=v' })
 | [],[],_,_,_,_,_,_,_,i=>by cases i <;> simp [Ce.KF,B_]
 | en::es,dT::C3,h,_,_,_,_,hv,hk,0=>by
  cases h.1 with
  | mk b _ _=>simp only [Ce.KF,List.modify_zero_cons]; exact ⟨.mk b hk hv,h.2⟩
 | en::es,dT::C3,h,_,_,_,_,hv,hk,i+1=>by
  simp only [Ce.KF,List.modify_succ_cons]; exact ⟨h.1,B_.KF h.2 hv hk i⟩
 | [],_::_,h,_,_,_,_,_,_,_=>h.elim
 | _::_,[],h,_,_,_,_,_,_,_=>h.elim
theorem B_.L7:∀ {es C3:List MapEntry},B_ ρ es C3→∀ i,B_ ρ (L7 i es) (C3.eraseIdx i)
 | [],[],_,i=>by cases i <;> simp [Ce.L7,B_]
 | en::es,dT::C3,h,0=>by simp only [Ce.L7,List.eraseIdx_cons_zero]; exact h.2
 | en::es,dT::C3,h,i+1=>by simp only [Ce.L7,List.eraseIdx_cons_succ]; exact ⟨h.1,B_.L7 h.2 i⟩
 | [],_::_,h,_=>h.elim
 | _::_,[],h,_=>h.elim
theorem B_.length:∀ {es C3:List MapEntry},B_ ρ es C3→es.length=C3.length
 | [],[],_=>rfl
 | _::_,_::_,h=>by simp [B_.length h.2]
 | [],_::_,h=>h.elim
 | _::_,[],h=>h.elim
theorem QK {t:TypeId} {m k x:Operand} (ho:o.op=.mapUpdate t m k x∨o.op=.insert t m k x) (h:Bf P o e W=some outs) (hw:AZ P w0 ρ W w) (hm:AL ρ (e m) (e' m)) (hk:AL ρ (e k) (e' k)) (hx:AL ρ (e x) (e' x)) :
  BC P w0 ρ W ((execOp e' o).run P w) outs:=by
 rcases ho with ho | ho
 all_goals
  simp only [Bf,ho] at h; obtain ⟨W1,hv,rfl⟩:=mH h
  split at hv
  ·rename_i kt elem r ht hc; rw [hc] at hm; generalize FP:e' m=vm' at hm
   cases hm with
   | @map _ r' hb =>
    split at hv
    ·rename_i es E7 Bv; obtain ⟨y,C3,hy,rfl,mN,hh,CR⟩:=hw.Tz hb Bv; obtain ⟨f,hf,hv⟩:=Af hv; obtain ⟨r',Mu,KI,BD⟩:=M7 hf hk CR
     rcases BD with ⟨rfl,rfl⟩ | ⟨j,x1,x1',en,rfl,rfl,hxx,E9,eK⟩
     ·cases hv
      refine ⟨_,_,ρ,List.mem_singleton.2 rfl,.refl _,.skip (w:={ w with heap:=w.heap.setIfInBounds y.b (.map (C3.push { key:=e' k,val:=e' x,born:=E7 }) (E7+1)) }) ?_ ?_⟩
      ·simp only [execOp,ho,FP]; refine iH ?_; simp only [Instr.mapUpdate,Sem.run_bind,AG ht,Result.andThen_ok,Aw hh (by simp),Mu,KI,DW hh (by simp)]
      ·refine hw.BB Bv rfl hy (.map mN ?_); rw [Array.toList_push]; exact CR.push (.mk E7 hk hx)
     ·cases hv
      refine ⟨_,_,ρ,List.mem_singleton.2 rfl,.refl _,.skip (w:={ w with heap:=w.heap.setIfInBounds y.b (.map (C3.modify j fun en=>{ en with key:=e' k,val:=e' x }) E7) }) ?_ ?_⟩
      ·simp only [execOp,ho,FP]; refine iH ?_; have AAQ:C3[j]?=some en:=by simpa using E9
       simp only [Instr.mapUpdate,Sem.run_bind,AG ht,Result.andThen_ok,Aw hh (by simp),Mu,KI,Instr.keyThatStays,AAQ,Option.map_some,Option.getD_some,eK,if_true,Sem.run_pure,DW hh (by simp)]
      ·refine hw.BB Bv rfl hy (.map mN ?_); rw [Array.toList_modify]; exact CR.KF hx hk j
    ·cases hv
  ·cases hv
theorem rr {t:TypeId} {x:Operand} (ho:o.op=.range t x) (h:Bf P o e W=some outs) (hw:AZ P w0 ρ W w) (hx:AL ρ (e x) (e' x)) :
  BC P w0 ρ W ((execOp e' o).run P w) outs:=by
 simp only [Bf,ho] at h; obtain ⟨v,W1,hv,rfl⟩:=Nv h; generalize FP:e' x=Tt at *
 split at hv
 ·rename_i kt elem ht hc; rw [hc] at hx
  cases hx
  simp only [Option.some.injEq,Prod.mk.injEq] at hv; obtain ⟨rfl,rfl⟩:=hv; obtain ⟨DV,JF⟩:=hw.new (o:=.iter none 0 [] 0) (o':=.mapIter none 0 #[] 0) ⟨w.heap.size,0,0,0,0⟩ rfl (.QB rfl); refine ⟨_,_,_,List.mem_singleton.2 rfl,DV,.value (v':=.pointer (some ⟨w.heap.size,0,none⟩)) (w:={ w with heap:=w.heap.push (.mapIter none 0 #[] 0) }) ?_ (.ptr ⟨rfl,⟨w.heap.size,0,0,0,0⟩,by simp,by simp⟩) JF⟩; simp only [execOp,ho,FP]; refine BH ?_; simp [Instr.range,AG ht]
 ·rename_i kt elem r ht hc; rw [hc] at hx
  cases hx with
  | @map _ r' hb =>
   split at hv
   ·rename_i es E7 Bv; simp only [Option.some.injEq,Prod.mk.injEq] at hv; obtain ⟨rfl,rfl⟩:=hv; obtain ⟨y,C3,hy,rfl,mN,hh,CR⟩:=hw.Tz hb Bv; have Ae:=hw.Uu r y hy; obtain ⟨DV,JF⟩:=hw.new (o:=.iter (some r) E7 [] E7) (o':=.mapIter (some y.b) E7 [].toArray E7) ⟨w.heap.size,0,0,0,0⟩ rfl (.iter rfl ⟨y,by simp [show r≠W.sz by omega,hy],rfl⟩); refine ⟨_,_,_,List.mem_singleton.2 rfl,DV,.value (v':=.pointer (some ⟨w.heap.size,0,none⟩)) (w:={ w with heap:=w.heap.push (.mapIter (some y.b) E7 [].toArray E7) }) ?_ (.ptr ⟨rfl,⟨w.heap.size,0,0,0,0⟩,by simp,by simp⟩) JF⟩; simp only [execOp,ho,FP]; refine BH ?_; simp [Instr.range,AG ht,Aw hh (by simp)]
   ·cases hv
 ·cases hv
theorem B_.filter (p:Nat→Bool):∀ {es C3:List MapEntry},B_ ρ es C3→B_ ρ (es.filter fun e=>p e.born) (C3.filter fun e=>p e.born)
 | [],[],_=>trivial
 | en::es,dT::C3,h=>by
  cases h.1 with
  | mk b hk hv =>
   simp only [List.filter_cons]
   cases p b
   ·simpa using B_.filter p h.2
   ·simpa using ⟨.mk b hk hv,B_.filter p h.2⟩
 | [],_::_,h=>h.elim
 | _::_,[],h=>h.elim
theorem B_.append:∀ {es C3 us us':List MapEntry},B_ ρ es C3→B_ ρ us us'→B_ ρ (es++us) (C3++us')
 | [],[],_,_,_,h=>h
 | _::_,_::_,_,_,h,k=>⟨h.1,h.2.append k⟩
 | [],_::_,_,_,h,_=>h.elim
 | _::_,[],_,_,h,_=>h.elim
theorem B_.get:∀ {es C3:List MapEntry},B_ ρ es C3→∀ {i:Nat} {b:MapEntry},C3[i]?=some b→∃ a,es[i]?=some a∧aK ρ a b
 | [],[],_,i,_,h=>by simp at h
 | a::es,a'::C3,h,0,b,hb=>by simp at hb; subst hb; exact ⟨a,rfl,h.1⟩
 | _::es,_::C3,h,i+1,b,hb=>by simpa using B_.get h.2 (by simpa using hb)
 | [],_::_,h,_,_,_=>h.elim
 | _::_,[],h,_,_,_=>h.elim
theorem B_.all (p:Nat→Bool):∀ {es C3:List MapEntry},B_ ρ es C3→(es.all fun e=>p e.born)=(C3.all fun e=>p e.born)
 | [],[],_=>rfl
 | en::es,dT::C3,h=>by cases h.1 with | mk b _ _=>simp only [List.all_cons,B_.all p h.2]
 | [],_::_,h=>h.elim
 | _::_,[],h=>h.elim
theorem AZ.rz (h:AZ P w0 ρ W w) {a a':Addr} (ha:L9 ρ a a') {m s l:Nat} {seen:List Nat} (ho:W.obj a.block=some (.iter (some m) s seen l)) :
  ∃ x m',ρ a.block=some x∧a'=⟨x.b,a.off,none⟩∧x.o=0∧M1 ρ m m'∧w.heap[x.b]?=some (.mapIter (some m') s seen.toArray l):=by
 obtain ⟨_,x,hx,rfl⟩:=ha; obtain ⟨o',IK,hr⟩:=h.obj ho (by simp) hx rfl
 cases hr with
 | iter h1 h2=>exact ⟨x,_,hx,by rw [h1]; rfl,h1,h2,IK⟩
theorem B_.find (n:Nat):∀ {es C3:List MapEntry},B_ ρ es C3→∀ {a:MapEntry},es.find? (fun e=>Nat.beq e.born n)=some a→∃ b,C3.find? (fun e=>e.born == n)=some b∧aK ρ a b
 | [],[],_,_,h=>by simp at h
 | en::es,dT::C3,h,a,ha=>by
  have hb:dT.born=en.born:=by cases h.1 with | mk b _ _=>rfl
  rw [List.find?_cons] at ha ⊢; rw [hb]; have e1:Nat.beq en.born n=(en.born == n):=by rw [Bool.eq_iff_iff]; simp
  rw [e1] at ha
  cases hx:(en.born == n)
  ·rw [hx] at ha; exact B_.find n h.2 ha
  ·rw [hx] at ha; cases ha; exact ⟨dT,rfl,h.1⟩
 | [],_::_,h,_,_=>h.elim
 | _::_,[],h,_,_=>h.elim
theorem r6 {x:Operand} (ho:o.op=.entry x) (h:Bf P o e W=some outs) (hw:AZ P w0 ρ W w) (hx:AL ρ (e x) (e' x)):BC P w0 ρ W ((execOp e' o).run P w) outs:=by
 simp only [Bf,ho] at h; obtain ⟨v,hv,rfl⟩:=FH h; generalize FP:e' x=Tt at *
 split at hv
 ·rename_i a hc; rw [hc] at hx
  cases hx with
  | @ptr _ a' ha =>
   rw [cond_eq_ite] at hv
   split at hv
   ·cases hv
   rename_i UT; have UT:a.off=0:=by simpa using UT
   split at hv
   ·rename_i r since seen Us Bv; obtain ⟨y,m',hy,rfl,_,hm,hh⟩:=hw.rz ha Bv
    split at hv
    ·rename_i st es E7 T0 r9; obtain ⟨y2,C3,mO,rfl,_,wo,CR⟩:=hw.Tz hm r9; rw [cond_eq_ite] at hv
     split at hv
     ·rename_i AAR; have AAR:=Nat.eq_of_beq_eq_true AAR; subst AAR; rw [Option.map_eq_some_iff] at hv; obtain ⟨en,E9,rfl⟩:=hv; obtain ⟨dT,AAQ,hr⟩:=CR.find st E9; have hf:C3.find? (fun e=>e.born == st)=some dT:=by rw [←Array.find?_toList]; exact AAQ
      have hl:seen.toArray.back?=some st:=by simpa [Array.back?_eq_getElem?,List.getLast?_eq_getElem?] using T0
      refine .value hw (v':=.tuple #[dT.key,dT.val]) ?_ ?_
      ·simp only [execOp,ho,FP]; refine BH ?_; simp [Instr.entry,UT,Aw hh (by simp),Aw wo (by simp),hl,hf]
      ·cases hr with
       | mk b h1 h2=>exact .tuple' (.cons h1 (.cons h2 (.nil _)))
     ·cases hv
    ·cases hv
   ·cases hv
 ·cases hv
theorem oC {es C3:List MapEntry} (h:B_ ρ es C3) (since:Nat) (seen:List Nat) {c:Option MapEntry} (hc:c ∈ Tm C3 since seen) :
  ∃ c0,c0 ∈ Tm es since seen∧((c0=none∧c=none)∨∃ a b,c0=some a∧c=some b∧aK ρ a b):=by
 unfold Tm at hc ⊢; have hl:=h.filter (fun b=>!seen.contains b); have ho:=hl.filter (fun b=>decide (b<since)); have hn:=hl.filter (fun b=>!decide (b<since)); simp only [List.mem_append,List.mem_map] at hc
 rcases hc with hc | ⟨b,hb,rfl⟩
 ·have hlen:=ho.length
  refine ⟨none,?_,?_⟩
  ·simp only [List.mem_append]; left
   cases hx:(List.filter (fun e=>decide (e.born<since)) (List.filter (fun e=>!seen.contains e.born) C3)) with
   | nil =>
    rw [hx] at hlen; have:(List.filter (fun e=>decide (e.born<since)) (List.filter (fun e=>!seen.contains e.born) es))=[]:=List.length_eq_zero_iff.1 (by simpa using hlen); rw [this]; simp
   | cons y ys=>rw [hx] at hc; simp at hc
  ·left; refine ⟨rfl,?_⟩; rw [cond_eq_ite] at hc
   split at hc
   ·simpa using hc
   ·simp at hc
 ·rw [←List.mem_append] at hb; obtain ⟨i,hi,hbi⟩:=List.getElem_of_mem hb; obtain ⟨a,ha,hr⟩:=(ho.append hn).get (i:=i) (b:=b) (by rw [List.getElem?_eq_getElem hi,hbi]); refine ⟨some a,?_,.inr ⟨a,b,rfl,rfl,hr⟩⟩; simp only [List.mem_append]; right; exact List.mem_map_of_mem (List.mem_of_getElem? ha)
theorem wq {x:Operand} (ho:o.op=.next x false) (h:Bf P o e W=some outs) (hw:AZ P w0 ρ W w) (hx:AL ρ (e x) (e' x)):BC P w0 ρ W ((execOp e' o).run P w) outs:=by
 simp only [Bf,ho] at h; generalize FP:e' x=Tt at *
 split at h
 ·rename_i a hc; rw [hc] at hx
  cases hx with
  | @ptr _ a' ha =>
   rw [cond_eq_ite] at h
   split at h
   ·cases h
   rename_i UT; have UT:a.off=0:=by simpa using UT
   split at h
   ·rename_i s1 s2 s3 Bv
    cases h
    obtain ⟨_,y,hy,rfl⟩:=ha; obtain ⟨o',IK,hr⟩:=hw.obj Bv (by simp) hy rfl
    cases hr with
    | QB h0 =>
     refine .value hw ?_ (.tuple' (.cons (.bool _) (.nil _))) (v':=.tuple #[.bool false]); simp only [execOp,ho,FP]; refine BH ?_; simp [Instr.next,UT,h0,Aw IK (by simp)]
   ·rename_i r since seen last Bv; obtain ⟨y,m',hy,rfl,mN,hm,hh⟩:=hw.rz ha Bv
    split at h
    ·rename_i es E7 r9; obtain ⟨y2,C3,mO,rfl,_,wo,CR⟩:=hw.Tz hm r9; rw [cond_eq_ite] at h
     split at h
     ·cases h
     ·rename_i BZ; simp only [Option.some.injEq] at h; subst h
      have r_:(!seen.toArray.isEmpty && !C3.isEmpty && C3.all (fun e=>decide (e.born≥last)))=false:=by
       have e1:seen.toArray.isEmpty=seen.isEmpty:=by cases seen <;> rfl
       have e2:C3.isEmpty=es.isEmpty:=by
        have:=CR.length
        cases es with
        | nil=>have:C3.size=0:=(by simpa using this.symm); simp [Array.isEmpty,this]
        | cons y ys=>have:C3.size=ys.length+1:=(by simpa using this.symm); simp [Array.isEmpty,this]
       have e3:C3.all (fun e=>decide (e.born≥last))=es.all (fun e=>!decide (e.born<last)):=by
        rw [←Array.all_toList,CR.all (fun b=>!decide (b<last))]; congr 1; funext en
        by_cases hb:en.born<last
        ·simp [hb]
        ·simp [hb]; omega
       rw [e1,e2,e3]
       simpa using BZ
      generalize hC:((if ((C3.filter fun e=>!seen.toArray.contains e.born).filter fun e=>decide (e.born<since)).isEmpty then #[none] else #[])++(((C3.filter fun e=>!seen.toArray.contains e.born).filter fun e=>decide (e.born<since))++((C3.filter fun e=>!seen.toArray.contains e.born).filter fun e=>decide (e.born≥since))).map some:Array (Option MapEntry))=C
      have sA:C.toList=Tm C3.toList since seen:=by
       have e1:∀ n:Nat,seen.toArray.contains n=seen.contains n:=fun n=>by simp
       have e2:(fun e:MapEntry=>!decide (e.born<since))=(fun e:MapEntry=>decide (e.born≥since)):=by
        funext en
        by_cases hb:en.born<since
        ·simp [hb]
        ·simp [hb]; omega
       rw [←hC]; simp only [Tm,e1,e2,Array.toList_append,Array.toList_map,Array.toList_filter,cond_eq_ite]; congr 1; have e3:∀ A:Array MapEntry,A.isEmpty=A.toList.isEmpty:=fun A=>by rw [Bool.eq_iff_iff]; simp [Array.isEmpty_iff]
       rw [e3]; simp only [Array.toList_filter]; split <;> rfl
      have LL:0<C.size:=by
       rw [←Array.length_toList,sA]; unfold Tm
       cases hx:(List.filter (fun e=>decide (e.born<since)) (List.filter (fun e=>!seen.contains e.born) C3.toList)) with
       | nil=>simp only [hx,List.isEmpty_nil,cond_true,List.length_append,List.length_cons]; omega
       | cons y ys=>simp only [hx,List.length_append,List.length_map,List.length_cons]; omega
      obtain ⟨i,w2,JS,hi,GY,sB⟩:∃ i w2,(choose (.mapNext C.size)).run P w=.ok i w2∧i<C.size∧AZ P w0 ρ W w2∧w2.heap=w.heap:=by
       rw [run_choose]
       split
       ·exact ⟨0,w,rfl,LL,hw,rfl⟩
       ·exact ⟨_,_,rfl,by simp only [Question.cut]; exact Nat.mod_lt _ LL,hw.drew _,rfl⟩
      have iP:C[i]?=some C[i]:=by simp [hi]
      obtain ⟨c0,mP,BD⟩:=oC (c:=C[i]) CR since seen (by rw [←sA]; simp); rw [←sB] at hh wo
      rcases BD with ⟨rfl,hcn⟩ | ⟨en,dT,rfl,hcn,hr⟩
      ·refine ⟨.value (.tuple #[.bool false]),W,ρ,?_,.refl _,.value (v':=.tuple #[.bool false]) (w:=w2) ?_ (.tuple' (.cons (.bool _) (.nil _))) GY⟩
       ·exact List.mem_map.2 ⟨none,mP,rfl⟩
       ·simp only [execOp,ho,FP]; refine BH ?_; rw [hcn] at iP; rw [sB] at hh wo; simp only [Instr.next,UT,Sem.run_bind,Aw hh (by simp),Aw wo (by simp),Result.andThen_ok,r_,hC,JS,iP,Sem.run_pure,Bool.false_eq_true,if_false]
      ·refine ⟨.value (.tuple #[.bool true,en.key,en.val]),W.BB a.block (.iter (some r) since (seen++[en.born]) E7),ρ,?_,.refl _,
        .value (v':=.tuple #[.bool true,dT.key,dT.val]) (w:={ w2 with heap:=w2.heap.setIfInBounds y.b (.mapIter (some y2.b) since (seen++[en.born]).toArray E7) }) ?_ ?_ (GY.BB Bv rfl hy (.iter mN hm))⟩
       ·exact List.mem_map.2 ⟨some en,mP,rfl⟩
       ·simp only [execOp,ho,FP]; refine BH ?_; rw [hcn] at iP; have ADg:dT.born=en.born:=by cases hr with | mk b _ _=>rfl
        have AGq:=DW (P:=P) hh (by simp) (.mapIter (some y2.b) since (seen++[en.born]).toArray E7); rw [sB] at hh wo; have ADh:seen.toArray.push en.born=(seen++[en.born]).toArray:=by simp
        simp only [Instr.next,UT,Sem.run_bind,Aw hh (by simp),Aw wo (by simp),Result.andThen_ok,r_,hC,JS,iP,ADg,ADh,AGq,Sem.run_pure,Bool.false_eq_true,if_false]
       ·cases hr with
        | mk b h1 h2=>exact .tuple' (.cons (.bool _) (.cons h1 (.cons h2 (.nil _))))
    ·cases h
   ·cases h
 ·cases h
end
end Go.Ce
namespace Go.Ce
open Go.RowKit (Below)
section
variable {P:Program} {w0:World} {ρ:Bz} {W:CW} {w:World} {o:Oper} {e e':Operand→Value} {outs:List (Bn × CW)}
theorem AL.HE {a:Option Addr} {n c:Nat} {v:Value} (h:AL ρ (.slice a n c) v):∃ a' c',v=.slice a' n c'∧((a=none∧a'=none∧c'=c)∨∃ b b',a=some b∧a'=some b' ∧
  ((L9 ρ b b'∧SC ρ b c c')∨(n=0∧c=0∧b.spot=none∧∃ x,ρ b.block=some x∧b'.block=x.b∧b'.spot=none∧(c'=0∨(0<x.sz∧b'.off+c'*x.sz=x.n')))∨(n=0∧c=0∧c'=0∧b.spot=some 0))):=by
 cases h with
 | dp=>exact ⟨_,_,rfl,.inl ⟨rfl,rfl,rfl⟩⟩
 | slice _ ha hc=>exact ⟨_,_,rfl,.inr ⟨_,_,rfl,rfl,.inl ⟨ha,hc⟩⟩⟩
 | K1 h0 h1 h2 h3 h4=>exact ⟨_,_,rfl,.inr ⟨_,_,rfl,rfl,.inr (.inl ⟨rfl,rfl,h0,_,h1,h2,h3,h4⟩)⟩⟩
 | JE h0=>exact ⟨_,_,rfl,.inr ⟨_,_,rfl,rfl,.inr (.inr ⟨rfl,rfl,rfl,h0⟩)⟩⟩
theorem M8 (a:Addr) (w:World):(loadCells a 0).run P w=.ok #[] w:=by simp [loadCells,loadCellsFrom]
theorem MB (hw:AZ P w0 ρ W w) {b:Option Addr} {n c k size:Nat} {v:Value} {l:List Value} (hv:AL ρ (.slice b n c) v) (hk:k≤n) (h:EO b (k*size) W=some l) :
  ∃ l':Array Value,(∀ d,(Builtin.firstCells size k v).run P { w with drawn:=d }=.ok l' { w with drawn:=d })∧Aq ρ l l'.toList:=by
 obtain ⟨a',c',rfl,BD⟩:=hv.HE
 rcases BD with ⟨rfl,rfl,_⟩ | ⟨b,b',rfl,rfl,BD⟩
 ·cases h
  exact ⟨#[],fun _=>rfl,.nil _⟩
 ·simp only [EO,cond_eq_ite] at h
  split at h
  ·rename_i h0; have h0:=Nat.eq_of_beq_eq_true h0
   cases h
   refine ⟨#[],?_,.nil _⟩; intro d; simp only [Builtin.firstCells,h0]; exact M8 _ _
  rename_i h0; have h0:k*size≠0:=fun hh=>h0 (by rw [hh]; rfl); have oD:k≠0:=fun hh=>h0 (by rw [hh]; omega)
  have ha:L9 ρ b b':=by
   rcases BD with ⟨ha,_⟩ | ⟨h1,_⟩ | ⟨h1,_⟩
   ·exact ha
   ·omega
   ·omega
  split at h
  ·rename_i cc kk zz ee Bv
   split at h
   ·rename_i hle; have hle:=Nat.le_of_ble_eq_true hle
    cases h
    obtain ⟨x,c2,fr,hx,rfl,hb,_,_,hn,hs,iF,_,hc⟩:=hw.cells ha Bv; refine ⟨(Df c2 (k*size) (b.off+x.o)).toArray,?_,by simpa using dt hc (k*size) b.off hle⟩; intro d; simp only [Builtin.firstCells]; exact run_loadCells (w:={ w with drawn:=d }) hb _ _ (by omega)
   ·cases h
  ·rename_i ff kk ee Bv
   split at h
   ·rename_i hle; have hle:=Nat.le_of_ble_eq_true hle
    cases h
    obtain ⟨x,c2,_,fr,hx,rfl,hb,hn,hs,iF,_,hc⟩:=hw.fixed ha Bv; refine ⟨(Df c2 (k*size) (b.off+x.o)).toArray,?_,by simpa using Tq hc (k*size) b.off hle⟩; intro d; simp only [Builtin.firstCells]; exact run_loadCells (w:={ w with drawn:=d }) hb _ _ (by omega)
   ·cases h
  ·cases h
theorem Yr (hw:AZ P w0 ρ W w) {x x':Value} {n k size:Nat} {l:List Value} (hx:AL ρ x x') (hn:aG x=some n) (hk:k≤n) (h:HS x k size W=some l) :
  ∃ l':Array Value,(∀ d,(Builtin.firstCells size k x').run P { w with drawn:=d }=.ok l' { w with drawn:=d })∧Aq ρ l l'.toList∧∀ w:World,(Builtin.lenOf x').run P w=.ok n w:=by
 unfold aG at hn
 split at hn
 ·rename_i b m c
  cases hn
  simp only [HS] at h; obtain ⟨l',h1,h2⟩:=MB hw hx hk h; obtain ⟨b',c',rfl,_⟩:=hx.HE; exact ⟨l',h1,h2,fun _=>rfl⟩
 ·rename_i s
  cases hn
  cases hx
  simp only [HS,cond_eq_ite] at h
  split at h
  ·cases h
   refine ⟨(s.extract 0 k).data.map fun b=>.int .u8 b.toNat,fun d=>rfl,?_,fun _=>rfl⟩
   have:((s.extract 0 k).data.map fun b=>Value.int .u8 b.toNat).toList=EA ((sb s).take k):=by
    simp [EA,sb,ByteArray.data_extract]
   rw [this]; exact Aq.map (ρ:=ρ) _ (fun b:UInt8=>Value.int .u8 b.toNat) (fun b:UInt8=>Value.int .u8 b.toNat) (fun _ _=>.int _ _)
  ·cases h
 ·cases hn
theorem Aq.aU:∀ {xs ys:List Value},Aq ρ xs ys→xs.all Ba=true→ys.all Ba=true
 | [],[],_,_=>rfl
 | x::xs,y::ys,h,hx=>by
  simp only [List.all_cons,Bool.and_eq_true] at hx ⊢; exact ⟨by rw [h.head.one]; exact hx.1,Aq.aU h.tail hx.2⟩
 | [],_::_,h,_=>by have:=h.1; simp at this
 | _::_,[],h,_=>by have:=h.1; simp at this
theorem AZ.kill (h:AZ P w0 ρ W w) {i:Nat} {o:Az} (ho:W.obj i=some o):AZ P w0 ρ (W.BB i .dead) w:=by
 have get:∀ j v,(W.BB i .dead).h.get j=some v→v≠.dead→W.h.get j=some v∧j≠i:=fun j v hv Mt=>by
  simp only [CW.BB,Tr.Bw] at hv
  split at hv
  ·cases hv; exact (Mt rfl).elim
  ·rename_i e; exact ⟨hv,e⟩
 refine ⟨h.Uu,?_,?_,?_,h.below⟩
 ·intro j v hv; simp only [CW.BB,Tr.Bw] at hv
  split at hv
  ·rename_i e; subst e; exact h.top j o ho
  ·exact h.top j v hv
 ·intro j v y hv Mt hy; exact h.live j v y (get j v hv Mt).1 Mt hy
 ·intro j k u v y z hu ql hv Mt hy hz rQ; exact h.inj j k u v y z (get j u hu (Az.Jd ql)).1 ql (get k v hv (Az.Jd Mt)).1 Mt hy hz rQ
theorem AZ.rename (h:AZ P w0 ρ W w) {i:Nat} {o u:Az} {u':Obj} {x y:Info} (ho:W.obj i=some o) (hd:o.mut=true) (hx:ρ i=some x) (hb:y.b=x.b)
  (hr:Io P (fun i=>if i=W.sz then some y else ρ i) y u u') (hm:u.mut=true:=by rfl) :
  Ej W ρ ((W.BB i .dead).new u) (fun i=>if i=W.sz then some y else ρ i)∧AZ P w0 (fun i=>if i=W.sz then some y else ρ i) ((W.BB i .dead).new u) { w with heap:=w.heap.setIfInBounds x.b u' }:=by
 obtain ⟨o',IK,_,gu,_⟩:=h.live i o x ho (Az.Jd hd) hx; have gu:=gu hd; have Ae:=(Array.getElem?_eq_some_iff.1 IK).1; have hi:=h.top i o ho
 have DV:Ext ρ (fun i=>if i=W.sz then some y else ρ i):=fun j z hz=>by
  have:=h.Uu j z hz; show (if j=W.sz then some y else ρ j)=some z; rw [if_neg (by omega)]; exact hz
 have get:∀ j v,((W.BB i .dead).new u).h.get j=some v→v≠.dead→(j=W.sz∧v=u)∨(j≠W.sz∧j≠i∧W.h.get j=some v):=fun j v hv Mt=>by
  simp only [CW.new,CW.BB,Tr.Bw] at hv
  split at hv
  ·rename_i e; cases hv; exact .inl ⟨e,rfl⟩
  ·rename_i e
   split at hv
   ·cases hv; exact (Mt rfl).elim
   ·rename_i e2; exact .inr ⟨e,e2,hv⟩
 refine ⟨⟨DV,fun j hj=>by show (if j=W.sz then some y else ρ j)=ρ j; rw [if_neg (by omega)],Nat.le_succ _⟩,?_,?_,?_,?_,?_⟩
 ·intro j z hz; show j<W.sz+1
  by_cases e:j=W.sz
  ·omega
  ·have:ρ j=some z:=by simpa [e] using hz
   have:=h.Uu j z this; omega
 ·intro j v hv; show j<W.sz+1; simp only [CW.new,CW.BB,Tr.Bw] at hv
  split at hv
  ·rename_i e; have e:j=W.sz:=e; omega
  ·split at hv
   ·omega
   ·have:=h.top j v hv; omega
 ·intro j v z hv Mt hz
  rcases get j v hv Mt with ⟨rfl,rfl⟩ | ⟨e1,e2,hg⟩
  ·have hz:some y=some z:=by simpa using hz
   cases hz
   refine ⟨u',?_,hr,fun _=>by rw [hb]; exact gu,fun hf=>by rw [hm] at hf; cases hf⟩; show (w.heap.setIfInBounds x.b u')[y.b]?=_; rw [hb]; simp [Ae]
  ·have hz:ρ j=some z:=by simpa [e1] using hz
   obtain ⟨v',HD,hrv,qn⟩:=h.live j v z hg Mt hz; refine ⟨v',?_,hrv.mono DV,qn⟩
   have D0:x.b≠z.b:=fun P1=>by
    cases X_:v.mut with
    | true=>exact e2 (h.inj j i v o z x hg X_ ho hd hz hx P1.symm)
    | false=>have:=qn.2 X_; omega
   show (w.heap.setIfInBounds x.b u')[z.b]?=_; rw [Array.getElem?_setIfInBounds_ne D0]; exact HD
 ·intro j k v v' z z' hv Mt HD dr hz dU L6
  rcases get j v hv (Az.Jd Mt) with ⟨rfl,rfl⟩ | ⟨e1,e2,hg⟩ <;> rcases get k v' HD (Az.Jd dr) with ⟨rfl,rfl⟩ | ⟨f1,f2,hg'⟩
  ·rfl
  ·simp only [if_true,Option.some.injEq] at hz; simp only [if_neg f1] at dU; subst hz; exact (f2 (h.inj k i v' o z' x hg' dr ho hd dU hx (by rw [←L6,hb]))).elim
  ·simp only [if_true,Option.some.injEq] at dU; simp only [if_neg e1] at hz; subst dU; exact (e2 (h.inj j i v o z x hg Mt ho hd hz hx (by rw [L6,hb]))).elim
  ·simp only [if_neg e1] at hz; simp only [if_neg f1] at dU; exact h.inj j k v v' z z' hg Mt hg' dr hz dU L6
 ·exact ⟨h.below.os,h.below.tape,h.below.output,by show w0.heap.size≤(w.heap.setIfInBounds x.b u').size; rw [Array.size_setIfInBounds]; exact h.below.size,fun k hk=>by
   show (w.heap.setIfInBounds x.b u')[k]?=_
   rw [Array.getElem?_setIfInBounds_ne (by omega)]; exact h.below.block k hk⟩
theorem Ys (m:Nat):∀ (r c:Nat),c≤m+m / 4+200→Builtin.growBy m r c≤m+m / 4+200
 | 0,c,h=>h
 | r+1,c,h=>by
  rw [Builtin.growBy]
  split
  ·exact h
  ·exact Ys m r _ (by omega)
theorem nextslicecap_le (m c:Nat) (h:c<m):Builtin.nextslicecap m c≤2*m+200:=by
 unfold Builtin.nextslicecap
 split
 ·omega
 ·split
  ·omega
  ·have:=Ys m 4 c (by omega); omega
theorem iR (w:World) {ts:Array TypeId} {t u ty:TypeId} {elem:TypeId} {size:Nat} {z:Value} {info:TypeInfo} {base:Option Addr} {sLen sCap n:Nat} {x:Value} {news:Array Value}
  (h0:ts[0]?=some t) (h1:ts[1]?=some u) (hu:HT P u=true) (ht:P.underlying t=some (.slice elem)) (hs:D_ P elem=some size) (hz:Hz P elem=some z)
  (hi:P.info? elem=some info) (hb:info.bytes≤1024) (hn:sLen+n≤1000000)
  (HV:∀ d,(Builtin.firstCells size n x).run P { w with drawn:=d }=.ok news { w with drawn:=d }) (hlen:∀ w:World,(Builtin.lenOf x).run P w=.ok n w) :
  (sLen+n≤sCap→(Builtin.append_ ts ty #[.slice base sLen sCap,x]).run P w =
   (do
       if let some a:=base then storeCells (a.add (sLen*size)) news.toList
       pure (.slice base (sLen+n) sCap):Sem Value).run P w) ∧
  (sCap<sLen+n→∀ old:Array Value,(∀ d,(Builtin.firstCells size sLen (.slice base sLen sCap)).run P { w with drawn:=d }=.ok old { w with drawn:=d }) →
   ∃ nc d,sLen+n≤nc∧(Builtin.append_ ts ty #[.slice base sLen sCap,x]).run P w =
    .ok (.slice (some ⟨w.heap.size,0,none⟩) (sLen+n) nc) { w with drawn:=d,heap:=w.heap.push (.cells (old++news++Builtin.zeroCells z.cells (nc-(sLen+n))) elem) }):=by
 refine ⟨fun hle=>?_,fun Ae old hold=>?_⟩
 ·cases hd:P.underlying u with
  | none=>simp [HT,hd] at hu
  | some d =>
   cases d <;> first | (simp [HT,hd] at hu; done) | skip
   all_goals
    simp only [Builtin.append_,h0,h1,List.getElem?_toArray,List.getElem?_cons_zero,List.getElem?_cons_succ,Sem.run_bind,AG ht,AG hd,Result.andThen_ok,BP hs,Sem.run_pure,Bool.false_eq_true,if_false,hlen,if_pos hle,Bool.not_false,if_true,HV w.drawn]
    cases base <;> rfl
 ·have yt:Builtin.nextslicecap (sLen+n) sCap*info.bytes≤2 ^ 48:=by
   have h2:=nextslicecap_le (sLen+n) sCap Ae
   calc Builtin.nextslicecap (sLen+n) sCap*info.bytes≤2000200*1024:=Nat.mul_le_mul (by omega) hb
    _≤2 ^ 48:=by decide
  refine ⟨sLen+n+(w.tape w.drawn (.appendCap (sLen+n) sCap elem)) % (2 ^ 63-(sLen+n)),w.drawn+1,by omega,?_⟩
  have wj:¬((sLen+n:Nat):Int)>IntKind.i64.max:=by
   have:IntKind.i64.max=9223372036854775807:=by decide
   omega
  have wu:¬Builtin.nextslicecap (sLen+n) sCap*info.bytes>2 ^ 48:=by omega
  cases hd:P.underlying u with
  | none=>simp [HT,hd] at hu
  | some d =>
   cases d <;> first | (simp [HT,hd] at hu; done) | skip
   all_goals
    simp only [Builtin.append_,h0,h1,List.getElem?_toArray,List.getElem?_cons_zero,List.getElem?_cons_succ,Sem.run_bind,AG ht,AG hd,Result.andThen_ok,BP hs,Sem.run_pure,Bool.false_eq_true,if_false,hlen,if_neg (Nat.not_le.2 Ae),Bool.not_false,if_true,IL hi,wj,false_and,wu,run_choose,Question.forced,run_askRoom,Question.cut,Bp hz]; have e1:=hold (w.drawn+1); have e2:=HV (w.drawn+1); simp only [e1,e2,Result.andThen_ok,Bp hz,newRow,Sem.run_bind,run_newObj,Sem.run_pure]
theorem T3 {old news:List Value} {old' FQ rest:Array Value} (h1:Aq ρ old old'.toList) (h2:Aq ρ news FQ.toList) (k:Nat) (hk:k<old.length+news.length) :
  AL ρ (cellAt (Tr.nil.Aa 0 (old++news)) #[] k) ((old'++FQ++rest).getD (k+0) undef):=by
 rw [DE _ _ _ (by simpa using hk)]; have h:=(h1.append h2).2 k (by simpa using hk); have hl:=(h1.append h2).1; have sC:k<(old'.toList++FQ.toList).length:=by rw [←hl]; simpa using hk
 rw [List.getD_eq_getElem?_getD (l:=old'.toList++FQ.toList)] at h
 have e:(old'++FQ++rest).getD (k+0) undef=((old'.toList++FQ.toList)[k]?).getD undef:=by
  rw [Array.getD_eq_getD_getElem?,←Array.getElem?_toList]; simp only [Array.toList_append,Nat.add_zero]; rw [List.getElem?_append_left sC]
 rw [e]; exact h
theorem M9 (z:Array Value) (n:Nat):(Builtin.zeroCells z n).size=n*z.size:=by simp [Builtin.zeroCells]
theorem YO (hw:AZ P w0 ρ W w) {ts:Array TypeId} {t u ty:TypeId} {s s' x x' v:Value} {W1:CW} (h0:ts[0]?=some t) (h1:ts[1]?=some u) (hu:HT P u=true)
  (h:GG P t s x W=some (v,W1)) (hs:AL ρ s s') (hx:AL ρ x x') :
  ∃ v' w' ρ',Ej W ρ W1 ρ'∧(Builtin.append_ ts ty #[s',x']).run P w=.ok v' w'∧AL ρ' v v'∧AZ P w0 ρ' W1 w':=by
 unfold GG at h
 split at h
 ·rename_i elem base sLen sCap n ht yu; obtain ⟨size,J5,h'⟩:=Af h; clear h; obtain ⟨z,L6,h⟩:=Af h'; clear h'; obtain ⟨news,HV,h'⟩:=Af h; clear h; have h:=h'; clear h'; rw [cond_eq_ite] at h; split at h
  rotate_left
  ·cases h
  rename_i BZ; simp only [Bool.and_eq_true] at BZ; obtain ⟨⟨⟨⟨⟨c1,c2⟩,c3⟩,c4⟩,c5⟩,c6⟩:=BZ; have c2:=Nat.eq_of_beq_eq_true c2; have c3:0<size:=by have:=Nat.le_of_ble_eq_true c3; omega
  have c4:=Nat.eq_of_beq_eq_true c4; have c5:=Nat.le_of_ble_eq_true c5; have c6:=Nat.le_of_ble_eq_true c6
  obtain ⟨info,eA⟩:∃ i,P.info? elem=some i:=by
   unfold D_ at J5
   cases hi:P.info? elem with
   | none=>simp [hi] at J5
   | some i=>exact ⟨i,rfl⟩
  have hb:info.bytes≤1024:=by simpa [eA] using c6
  have UR:(P.info? elem).map (·.size)=some size:=J5; obtain ⟨FQ,yv,CR,ADi⟩:=Yr hw hx yu (Nat.le_refl n) HV; have yw:=hs; obtain ⟨OY,Iw,rfl,BD⟩:=hs.HE; obtain ⟨R1,R2⟩:=iR (P:=P) (ty:=ty) (base:=OY) (sLen:=sLen) (sCap:=Iw) w h0 h1 hu ht J5 L6 eA hb c5 yv ADi; have yx:FQ.size=n*size:=by have:=CR.1; simp at this; omega
  have wu:sCap≤Iw:=by
   rcases BD with ⟨_,_,h⟩ | ⟨b,b',_,_,⟨_,h⟩ | ⟨_,h,_⟩ | ⟨_,h,_⟩⟩
   ·omega
   ·rcases h with h | ⟨_,_,_,_,_,h⟩ <;> omega
   ·omega
   ·omega
  rw [cond_eq_ite] at h
  split at h
  ·rename_i hle; have hle:=Nat.le_of_ble_eq_true hle; have R1:=R1 (by omega); rw [cond_eq_ite] at h
   split at h
   ·rename_i V6; have V6:n=0:=Nat.eq_of_beq_eq_true V6; subst V6; simp only [Option.some.injEq,Prod.mk.injEq] at h; obtain ⟨rfl,rfl⟩:=h; refine ⟨.slice OY sLen Iw,w,ρ,.refl _,?_,yw,hw⟩; rw [R1]
    have:FQ.toList=[]:=by
     have:FQ.size=0:=by omega
     simpa using this
    rw [this]
    cases OY <;> simp [storeCells]
   ·rename_i V6; have V6:n≠0:=fun h=>V6 (by rw [h]; rfl)
    rcases BD with ⟨rfl,rfl,rfl⟩ | ⟨b,b',rfl,rfl,BD⟩
    ·simp only [Option.some.injEq,Prod.mk.injEq] at h; obtain ⟨rfl,rfl⟩:=h; exact ⟨.slice none (sLen+n) Iw,w,ρ,.refl _,by rw [R1]; simp,.dp _ _,hw⟩
    ·rcases BD with ⟨ha,hc⟩ | ⟨_,h0',_⟩ | ⟨_,h0',_⟩
     ·simp only at h
      split at h
      ·rename_i c m zz e Bv; rw [cond_eq_ite] at h
       split at h
       ·rename_i wv; have wv:=Nat.le_of_ble_eq_true wv; simp only [Option.some.injEq,Prod.mk.injEq] at h; obtain ⟨rfl,rfl⟩:=h; obtain ⟨x,eL,fr,PA,rfl,oE,gv,hr,hn,iS,iF,_,FP⟩:=hw.cells ha Bv; have GY:=hw.BB Bv rfl PA (hr.write (vs:=news) (vs':=FQ.toList) CR (k:=b.off+sLen*size) (by omega)); refine ⟨_,_,ρ,.refl _,?_,.slice _ ha hc,GY⟩; rw [R1]; simp only [Sem.run_bind,M3]; rw [F3 (P:=P) (b.off+x.o+sLen*size) FQ.toList 0 w eL oE gv (by simp; omega) (CR.aU c1)]; simp only [Result.andThen_ok,Sem.run_pure,Nat.add_zero]; have:b.off+x.o+sLen*size=b.off+sLen*size+x.o:=by omega
        rw [this]
       ·cases h
      ·cases h
     ·omega
     ·omega
  ·rename_i hle
   have hle:sCap<sLen+n:=by
    have:¬sLen+n≤sCap:=fun hh=>hle (Nat.ble_eq_true_of_le hh); omega
   have aV:sLen=0→(∀ d,(Builtin.firstCells size sLen (.slice OY sLen Iw)).run P { w with drawn:=d }=.ok #[] { w with drawn:=d })→Iw<sLen+n →
     v=.slice (some ⟨W.sz,0,none⟩) (sLen+n) (sLen+n)→W1=W.new (.cells (Tr.nil.Aa 0 news) ((sLen+n)*size) #[] elem) →
     ∃ v' w' ρ',Ej W ρ W1 ρ'∧(Builtin.append_ ts ty #[.slice OY sLen Iw,x']).run P w=.ok v' w'∧AL ρ' v v'∧AZ P w0 ρ' W1 w':=by
    intro Yt hold Ae hv hW; subst hv hW Yt; obtain ⟨nc,d,yt,Ir⟩:=R2 Ae #[] hold; have En:=hw.drew d
    have AAS:((#[]:Array Value)++FQ++Builtin.zeroCells z.cells (nc-(0+n))).size=nc*size:=by
     simp only [Array.size_append,M9,yx,c4,List.size_toArray,List.length_nil]; obtain ⟨k,rfl⟩:∃ k,nc=0+n+k:=⟨nc-(0+n),by omega⟩
     have:0+n+k-(0+n)=k:=by omega
     rw [this,Nat.add_mul,Nat.zero_add n]; omega
    have DV:Ext ρ (fun i=>if i=W.sz then some ⟨w.heap.size,0,size,(0+n)*size,nc*size⟩ else ρ i):=fun i y hy=>by
     have:=hw.Uu i y hy; show (if i=W.sz then _ else ρ i)=some y; rw [if_neg (by omega)]; exact hy
    obtain ⟨hg,GY⟩:=En.new (o:=.cells (Tr.nil.Aa 0 news) ((0+n)*size) #[] elem) (o':=.cells (#[]++FQ++Builtin.zeroCells z.cells (nc-(0+n))) elem (0,0))
     ⟨w.heap.size,0,size,(0+n)*size,nc*size⟩ rfl (by
      refine .cells UR AAS ?_ (fun k hk=>?_) ⟨NF.zero _,fun h=>(h rfl).elim⟩
      ·simp only [Nat.zero_add]; exact Nat.mul_le_mul_right _ (by omega)
      ·have:=T3 (ρ:=ρ) (old:=[]) (old':=#[]) (rest:=Builtin.zeroCells z.cells (nc-(0+n))) (.nil _) CR k (by simp [c2]; simpa using hk)
       exact this.mono DV)
    refine ⟨_,_,_,hg,Ir,?_,GY⟩; refine .slice _ ⟨rfl,⟨w.heap.size,0,size,(0+n)*size,nc*size⟩,by simp,by simp⟩ (.inr ⟨⟨w.heap.size,0,size,(0+n)*size,nc*size⟩,by simp,c3,by simp,by simp,yt⟩)
   rcases BD with ⟨rfl,rfl,rfl⟩ | ⟨b,b',rfl,rfl,BD⟩
   ·simp only [cond_eq_ite] at h
    split at h
    ·rename_i Yt; have Yt:=Nat.eq_of_beq_eq_true Yt; simp only [Option.some.injEq,Prod.mk.injEq] at h; obtain ⟨hv,hW⟩:=h; exact aV Yt (fun _=>rfl) (by omega) hv.symm hW.symm
    ·cases h
   ·simp only [cond_eq_ite] at h
    split at h
    ·rename_i Je
     split at h
     ·rename_i Yt; simp only [Bool.and_eq_true] at Yt; have Uv:=Nat.eq_of_beq_eq_true Yt.1; have V7:=Nat.eq_of_beq_eq_true Yt.2; simp only [Option.some.injEq,Prod.mk.injEq] at h; obtain ⟨hv,hW⟩:=h
      have mP:Iw=0:=by
       rcases BD with ⟨ha,_⟩ | ⟨_,_,hq,_⟩ | ⟨_,_,h1,_⟩
       ·rw [ha.1] at Je; cases Je
       ·rw [hq] at Je; cases Je
       ·exact h1
      refine aV Uv (fun d=>?_) (by omega) hv.symm hW.symm; rw [Uv]; simp only [Builtin.firstCells,Nat.zero_mul]; exact M8 _ _
     ·cases h
    rename_i Je
    have BD:(L9 ρ b b'∧SC ρ b sCap Iw)∨(sLen=0∧sCap=0∧∃ x,ρ b.block=some x∧b'.block=x.b∧b'.spot=none∧(Iw=0∨(0<x.sz∧b'.off+Iw*x.sz=x.n'))):=by
     rcases BD with h1 | ⟨h1,h2,_,h3⟩ | ⟨_,_,_,h1⟩
     ·exact .inl h1
     ·exact .inr ⟨h1,h2,h3⟩
     ·rw [h1] at Je; exact (Je rfl).elim
    clear aV; split at h
    rotate_left
    ·cases h
    rename_i c m zz e Bv; split at h
    rotate_left
    ·cases h
    rename_i BZ; simp only [Bool.and_eq_true] at BZ; have wv:=Nat.le_of_ble_eq_true BZ.1; have hee:=Nat.eq_of_beq_eq_true BZ.2; subst hee; simp only [Option.some.injEq,Prod.mk.injEq] at h; obtain ⟨rfl,rfl⟩:=h
    obtain ⟨x,eL,q,fr,PA,hq,oE,gv,hr,iS,UT,M5⟩:∃ x eL q fr,ρ b.block=some x∧b'=⟨x.b,q,none⟩∧w.heap[x.b]?=some (.cells eL e fr)∧NF fr eL.size∧Io P ρ x (.cells c m zz e) (.cells eL e fr)∧eL.size=x.n' ∧
      (Iw=sCap∨(x.sz=size∧q+Iw*size=x.n'))∧(∀ k,k<sLen*size→AL ρ (cellAt c zz (b.off+k)) (eL.getD (q+k) undef)):=by
     rcases BD with ⟨ha,hc⟩ | ⟨Yt,mP,x,PA,sD,P1,hc⟩
     ·obtain ⟨x,eL,fr,PA,rfl,oE,gv,hr,hn,iS,iF,he,FP⟩:=hw.cells ha Bv
      refine ⟨x,eL,b.off+x.o,fr,PA,rfl,oE,gv,hr,iS,?_,fun k hk=>?_⟩
      ·rcases hc with hc | ⟨y,hy,_,_,h2,_⟩
       ·exact .inl hc
       ·rw [PA] at hy; cases hy; have:=aM J5 he; rw [this] at h2; exact .inr ⟨this,h2⟩
      ·have:=FP (b.off+k) (by omega); have e1:b.off+k+x.o=b.off+x.o+k:=by omega
       rwa [e1] at this
     ·obtain ⟨o',IK,hr⟩:=hw.obj Bv (by simp) PA rfl
      cases hr with
      | cells he V7 iF FP hq =>
       refine ⟨x,_,b'.off,_,PA,?_,IK,hq.1,.cells he V7 iF FP hq,V7,?_,fun k hk=>?_⟩
       ·cases b'; simp_all
       ·rcases hc with hc | ⟨_,hc⟩
        ·left; omega
        ·have:=aM J5 he; rw [this] at hc; exact .inr ⟨this,hc⟩
       ·rw [Yt] at hk; omega
    subst hq
    by_cases OZ:sLen+n≤Iw
    ·have UT:=UT.resolve_left (by omega); have R1:=R1 OZ
     have ADj:q+(sLen+n)*size≤x.n':=by
      have:=Nat.mul_le_mul_right size OZ; omega
     have hmul:(sLen+n)*size=sLen*size+n*size:=Nat.add_mul _ _ _; have UU:news.length=FQ.toList.length:=CR.1
     have DV:Ext ρ (fun i=>if i=W.sz then some ⟨x.b,q,size,(sLen+n)*size,x.n'⟩ else ρ i):=fun i y hy=>by
      have:=hw.Uu i y hy; show (if i=W.sz then _ else ρ i)=some y; rw [if_neg (by omega)]; exact hy
     obtain ⟨hg,GY⟩:=hw.rename (u:=.cells (Tr.nil.Aa 0 (Bk c zz (sLen*size) b.off++news)) ((sLen+n)*size) #[] e) (u':=.cells (Gz eL (q+sLen*size) FQ.toList) e fr)
      (y:=⟨x.b,q,size,(sLen+n)*size,x.n'⟩) Bv rfl PA rfl (by
       refine .cells UR (by rw [HU]; exact iS) ADj (fun k hk=>?_) ⟨by rw [HU]; exact gv,fun h=>(h rfl).elim⟩; have hk:k<(sLen+n)*size:=hk; refine AL.mono (ρ:=ρ) ?_ DV; rw [DE _ _ _ (by simp [A6,c2]; omega),Tp _ _ _ _ (by rw [←UU]; omega)]; rw [←UU]; show AL ρ _ (if q+sLen*size≤k+q∧k+q<q+sLen*size+news.length then FQ.toList.getD (k+q-(q+sLen*size)) undef else eL.getD (k+q) undef)
       by_cases YP:k<sLen*size
       ·rw [if_neg (by omega)]; rw [List.getD_eq_getElem?_getD,List.getElem?_append_left (by rw [A6]; exact YP),←List.getD_eq_getElem?_getD,Gi _ _ _ _ _ YP,Nat.add_comm k q]; exact M5 k YP
       ·rw [if_pos (by omega)]; rw [List.getD_eq_getElem?_getD,List.getElem?_append_right (by rw [A6]; omega),←List.getD_eq_getElem?_getD,A6]; have e1:k+q-(q+sLen*size)=k-sLen*size:=by omega
        rw [e1]
        exact CR.2 _ (by omega))
     refine ⟨.slice (some ⟨x.b,q,none⟩) (sLen+n) Iw,_,_,hg,?_,?_,GY⟩
     ·rw [R1]; simp only [Sem.run_bind,M3]; rw [F3 (P:=P) (q+sLen*size) FQ.toList 0 w eL oE gv (by rw [←UU]; omega) (CR.aU c1)]; simp only [Result.andThen_ok,Sem.run_pure,Nat.add_zero]
     ·refine .slice _ ⟨rfl,⟨x.b,q,size,(sLen+n)*size,x.n'⟩,by simp,by simp⟩ (.inr ⟨⟨x.b,q,size,(sLen+n)*size,x.n'⟩,by simp,c3,by simp,?_,OZ⟩); show 0+q+Iw*size=x.n'; omega
    ·have hN:EO (some b) (sLen*size) W=some (Bk c zz (sLen*size) b.off):=by
      simp only [EO,Bv,cond_eq_ite]; rw [if_pos (Nat.ble_eq_true_of_le wv)]
      split
      ·rename_i h0; rw [Nat.eq_of_beq_eq_true h0]; rfl
      ·rfl
     obtain ⟨old',IK,yr⟩:=MB hw yw (Nat.le_refl sLen) hN; obtain ⟨nc,d,yt,Ir⟩:=R2 (by omega) old' IK; have En:=(hw.kill Bv).drew d; have hol:old'.size=sLen*size:=by have:=yr.1; rw [A6] at this; simpa using this.symm
     have AAS:(old'++FQ++Builtin.zeroCells z.cells (nc-(sLen+n))).size=nc*size:=by
      simp only [Array.size_append,M9,yx,c4,hol]; obtain ⟨k,rfl⟩:∃ k,nc=sLen+n+k:=⟨nc-(sLen+n),by omega⟩
      have:sLen+n+k-(sLen+n)=k:=by omega
      rw [this,Nat.add_mul,Nat.add_mul]
     have DV:Ext ρ (fun i=>if i=W.sz then some ⟨w.heap.size,0,size,(sLen+n)*size,nc*size⟩ else ρ i):=fun i y hy=>by
      have:=hw.Uu i y hy; show (if i=W.sz then _ else ρ i)=some y; rw [if_neg (by omega)]; exact hy
     obtain ⟨hg,GY⟩:=En.new (o:=.cells (Tr.nil.Aa 0 (Bk c zz (sLen*size) b.off++news)) ((sLen+n)*size) #[] e) (o':=.cells (old'++FQ++Builtin.zeroCells z.cells (nc-(sLen+n))) e (0,0))
      ⟨w.heap.size,0,size,(sLen+n)*size,nc*size⟩ rfl (by
       refine .cells UR AAS ?_ (fun k hk=>?_) ⟨NF.zero _,fun h=>(h rfl).elim⟩
       ·simp only [Nat.zero_add]; exact Nat.mul_le_mul_right _ (by omega)
       ·have hk:k<(sLen+n)*size:=hk; rw [Nat.add_mul] at hk
        exact (T3 (ρ:=ρ) yr CR k (by rw [A6]; omega)).mono DV)
     refine ⟨_,_,_,hg,Ir,?_,GY⟩
     refine .slice _ ⟨rfl,⟨w.heap.size,0,size,(sLen+n)*size,nc*size⟩,?_,by simp⟩ (.inr ⟨⟨w.heap.size,0,size,(sLen+n)*size,nc*size⟩,?_,c3,by simp,by simp,yt⟩)
     ·show (if W.sz=W.sz then _ else _)=_; rw [if_pos rfl]
     ·show (if W.sz=W.sz then _ else _)=_; rw [if_pos rfl]
 ·cases h
end
end Go.Ce
namespace Go.Ce
open Go.RowKit (Below)
section
variable {P:Program} {w0:World} {ρ:Bz} {W:CW} {w:World} {o:Oper} {e e':Operand→Value} {outs:List (Bn × CW)}
theorem YQ (hz:ZP P) {f:FuncId} {as:List Value} {as':Array Value} {v:Value} {W1:CW} (h:KG P f as W=some (v,W1)) (hw:AZ P w0 ρ W w) (ha:Aq ρ as as'.toList) :
  ∃ v' w' ρ',(callFunc f as').run P w=.ok (.value v') w'∧Ej W ρ W1 ρ'∧AL ρ' v v'∧AZ P w0 ρ' W1 w':=by
 unfold KG at h; split at h
 rotate_left
 ·cases h
 rename_i fn aS; rw [cond_eq_ite] at h; split at h
 rotate_left
 ·cases h
 rename_i hb; rw [cond_eq_ite] at h; split at h
 rotate_left
 ·cases h
 rename_i hn; split at h
 rotate_left
 ·cases h
 rename_i t r; split at h
 rotate_left
 ·cases h
 rename_i es E7 Bv
 cases h
 obtain ⟨y,hy,hv⟩:=ha.get (i:=0) (x:=.iface t (.map (some r))) rfl
 have hl:as'=#[y]:=by
  have h1:=ha.1; apply Array.ext'
  cases hq:as'.toList with
  | nil=>rw [hq] at h1; cases h1
  | cons z l =>
   rw [hq] at h1 hy; have:l=[]:=by simpa using h1.symm
   subst this
   simpa using hy
 subst hl
 cases hv with
 | iface _ hv =>
  cases hv with
  | @map _ r' wx =>
   obtain ⟨x,hx,rfl⟩:=wx; obtain ⟨o',IK,hr⟩:=hw.obj Bv (by simp) hx rfl
   cases hr with
   | @map _ C3 _ h1 h2 =>
    have DV:Ext ρ (fun i=>if i=W.sz then some ⟨w.heap.size,0,0,0,0⟩ else ρ i):=fun i y hy=>by
     have:=hw.Uu i y hy; show (if i=W.sz then _ else ρ i)=some y; rw [if_neg (by omega)]; exact hy
    obtain ⟨hg,JF⟩:=hw.new (o:=.map es E7) (o':=.map C3 E7) ⟨w.heap.size,0,0,0,0⟩ rfl (.map rfl (h2.mono DV))
    have Ir:(Extern.MapsClone.clone #[.iface t (.map (some x.b))]).run P w=.ok (.iface t (.map (some w.heap.size))) { w with heap:=w.heap.push (.map C3 E7) }:=by
     have e1:Extern.MapsClone.clone #[.iface t (.map (some x.b))]=(getObj x.b >>= fun o=>match o with
       | .map entries clock=>(newObj (.map entries clock) >>= fun n=>pure (.iface t (.map (some n))))
       | _=>stuck "maps.clone: a map expected"):=rfl
     have hgo:(getObj x.b).run P w=.ok (.map C3 E7) w:=Aw IK (by simp); rw [e1]; simp only [Sem.run_bind,hgo,Result.andThen_ok,run_newObj,Sem.run_pure]
    exact ⟨_,_,_,hz.2 f fn aS hb hn _ _ _ _ Ir,hg,.iface _ (.map ⟨⟨w.heap.size,0,0,0,0⟩,by simp,rfl⟩),JF⟩
theorem aW (hz:ZP P) {c:Call} {f:Operand} (ho:o.op=.call c) (hf:c.callee=.value f) (h:Bf P o e W=some outs) (hw:AZ P w0 ρ W w) (hx:AL ρ (e f) (e' f))
  (ha:∀ x,x ∈ c.args.toList→AL ρ (e x) (e' x)):BC P w0 ρ W ((execOp e' o).run P w) outs:=by
 simp only [Bf,ho,hf] at h; have DP:Aq ρ (c.args.toList.map e) (c.args.map e').toList:=by simpa using Aq.map (ρ:=ρ) c.args.toList e e' ha
 generalize hn:Iu (e f) (c.args.toList.map e)=n at h; unfold Iu at hn
 split at hn
 ·rename_i fn first cap hc; rw [hc] at hx; generalize P0:e' f=Tt at hx
  cases hx with
  | @func _ f' _ x' _ y' aS h1 h2 h3 h4 =>
   cases aS
   have hA:Aq ρ (first.toList++c.args.toList.map e++cap.toList) (x'++c.args.map e'++y').toList:=by
    have e1:=Aq.arr.2 ⟨h1,h2⟩; have e2:=Aq.arr.2 ⟨h3,h4⟩
    simpa using (e1.append DP).append e2
   have hE:(execOp e' o).run P w=(callFunc fn (x'++c.args.map e'++y')).run P w:=by
    simp only [execOp,ho,resolve,hf,P0,Deferred.ofValue,Sem.run_bind,Sem.run_pure,Result.andThen_ok,invoke]
   subst hn; simp only at h
   split at h
   ·rename_i v W1 DV
    cases h
    obtain ⟨v',w',ρ',Ir,hg,hv,JF⟩:=YQ hz DV hw hA; exact ⟨_,_,ρ',List.mem_singleton.2 rfl,hg,.value (w:=w') (by rw [hE,Ir]) hv JF⟩
   ·cases h
    exact ⟨_,_,ρ,List.mem_singleton.2 rfl,.refl _,.enter (args':=x'++c.args.map e'++y') (w:=w) hE hA hw⟩
 ·rename_i l first cap hc; subst hn
  cases h
  rw [hc] at hx; generalize P0:e' f=Tt at hx
  cases hx with
  | @func _ f' _ x' _ y' aS h1 h2 h3 h4 =>
   cases aS with
   | yield hb =>
    refine ⟨_,_,ρ,List.mem_singleton.2 rfl,.refl _,.round (args':=x'++c.args.map e') (w:=w) ?_ hb ?_ hw⟩
    ·simp only [execOp,ho,resolve,hf,P0,Deferred.ofValue,Sem.run_bind,Sem.run_pure,Result.andThen_ok,invoke]
    ·have e1:=Aq.arr.2 ⟨h1,h2⟩
     simpa using e1.append DP
 ·subst hn
  cases h
theorem Oa:∀ {l:List Value} {m:List UInt8},H9 l=some m→m.length=l.length∧∀ l',Aq ρ l l'→∃ ns:List Int,l'=ns.map (Value.int .u8)∧m=ns.map fun n=>UInt8.ofNat n.toNat
 | [],m,h=>by cases h; exact ⟨rfl,fun l' hl=>⟨[],List.length_eq_zero_iff.1 hl.1.symm,rfl⟩⟩
 | v::l,m,h=>by
  unfold H9 at h
  split at h
  ·cases ‹_::_=[]›
  ·rename_i n l2 heq
   cases heq
   split at h
   ·rename_i m2 hm
    cases h
    obtain ⟨h1,h2⟩:=Oa hm; refine ⟨by simp [h1],fun l' hl=>?_⟩
    cases l' with
    | nil=>have:=hl.1; simp at this
    | cons y l' =>
     obtain ⟨ns,e1,e2⟩:=h2 l' hl.tail; have hv:=hl.head
     cases hv
     exact ⟨n::ns,by rw [e1]; rfl,by rw [e2]; rfl⟩
   ·cases h
  ·cases h
theorem iT (hw:AZ P w0 ρ W w) {s d el:TypeId} {x x' v:Value} (hs:P.underlying s=some (.slice el)) (hd:P.underlying d=some .string) (h:nj P el x W=some v) (hx:AL ρ x x') :
  (convert s d x').run P w=.ok v w∧AL ρ v v:=by
 unfold nj at h; split at h
 rotate_left
 ·cases h
 rename_i b n c UR; obtain ⟨l,hl,h⟩:=Af h; obtain ⟨m,hm,h⟩:=Af h
 cases h
 refine ⟨?_,.string _⟩; obtain ⟨b',c',rfl,BD⟩:=hx.HE; rw [run_convert_bytes_string w s d el b' n c' hs UR hd]; have Tx:EO b (n*1) W=some l:=by rw [Nat.mul_one]; exact hl
 obtain ⟨l',hr,CR⟩:=MB hw hx (Nat.le_refl n) Tx; obtain ⟨_,hb⟩:=Oa (ρ:=ρ) hm; obtain ⟨ns,e1,e2⟩:=hb _ CR
 rcases BD with ⟨rfl,rfl,_⟩ | ⟨a,a',rfl,rfl,_⟩
 ·have LN:l=[]:=by cases hl; rfl
  subst LN
  cases hm
  simp [Conv.bytesToString]; rfl
 ·have hr:=hr w.drawn; simp only [Builtin.firstCells,Nat.mul_one] at hr; have e3:l'=(ns.map (Value.int .u8)).toArray:=by apply Array.ext'; rw [e1]
  rw [e3] at hr; rw [run_bytesToString w a' n c' ns hr,foldl_push_bytes,e2]; simp
theorem iU (hw:AZ P w0 ρ W w) {s d el:TypeId} {b:ByteArray} {v:Value} {W1:CW} (hs:P.underlying s=some .string) (hd:P.underlying d=some (.slice el)) (h:wY P el b W=some (v,W1)) :
  ∃ v' w' ρ',(convert s d (.string b)).run P w=.ok v' w'∧Ej W ρ W1 ρ'∧AL ρ' v v'∧AZ P w0 ρ' W1 w':=by
 unfold wY at h; split at h
 rotate_left
 ·cases h
 rename_i UR J5
 cases h
 let cap:=grownCap w b.size 0 el
 have AAT:b.size≤cap:=by
  show b.size≤grownCap w b.size 0 el; simp only [grownCap,Question.cut]; omega
 have En:=hw.drew (w.drawn+1)
 have DV:Ext ρ (fun i=>if i=W.sz then some ⟨w.heap.size,0,1,b.size,cap⟩ else ρ i):=fun i y hy=>by
  have:=hw.Uu i y hy; show (if i=W.sz then _ else ρ i)=some y; rw [if_neg (by omega)]; exact hy
 have hbs:b.data.size=b.size:=rfl
 have dV:(bytesRow b cap).size=cap:=by
  simp [bytesRow,hbs]; omega
 obtain ⟨hg,GY⟩:=En.new (o:=.cells (Tr.nil.Aa 0 (EA (sb b))) b.size #[] el) (o':=.cells (bytesRow b cap) el ((bytesRow b cap).size,(bytesRow b cap).size+1)) ⟨w.heap.size,0,1,b.size,cap⟩ rfl (by
  refine .cells J5 dV (by show 0+b.size≤cap; omega) (fun k hk=>?_) ⟨fun k hk=>by simp; omega,fun h=>(h rfl).elim⟩; have hk:k<b.size:=hk; have YP:k<b.data.size:=hk; have hlen:(EA (sb b)).length=b.size:=by simp [EA,sb,hbs]
  rw [DE _ _ _ (by omega)]
  have e1:(bytesRow b cap).getD (k+0) undef=.int .u8 b.data[k].toNat:=by
   rw [Array.getD_eq_getD_getElem?,Nat.add_zero,bytesRow,Array.getElem?_append_left (by simpa using YP)]; simp [Array.getElem?_eq_getElem YP]
  have e2:(EA (sb b)).getD k undef=.int .u8 b.data[k].toNat:=by
   simp [EA,sb,List.getD_eq_getElem?_getD,Array.getElem?_eq_getElem YP]
  rw [e1,e2]
  exact .int _ _)
 refine ⟨.slice (some ⟨w.heap.size,0,none⟩) b.size cap,_,_,?_,hg,.slice _ ⟨rfl,⟨w.heap.size,0,1,b.size,cap⟩,by simp,by simp⟩ (.inr ⟨⟨w.heap.size,0,1,b.size,cap⟩,by simp,by show 0<1; omega,by simp,by simp,AAT⟩),GY⟩; exact run_bytes_of_string w s d el b hs hd UR
theorem iV {s d:TypeId} {x:Operand} (ho:o.op=.convert s d x) (h:Bf P o e W=some outs) (hw:AZ P w0 ρ W w) (hx:AL ρ (e x) (e' x)) :
  BC P w0 ρ W ((execOp e' o).run P w) outs:=by
 simp only [Bf,ho] at h
 split at h
 ·rename_i ud k k0 n hs hd hc
  cases h
  rw [hc] at hx; generalize FP:e' x=Tt at hx
  cases hx
  refine .value hw ?_ (.int _ _); simp only [execOp,ho,FP]; refine BH ?_; simp only [convert,Sem.run_bind,AG hs,AG hd,Result.andThen_ok,Conv.intToInt,Sem.run_pure]
 ·rename_i ud s0 hs hd hc
  cases h
  rw [hc] at hx; generalize FP:e' x=Tt at hx
  cases hx
  refine .value hw ?_ (.string _); simp only [execOp,ho,FP]; refine BH ?_
  cases ud <;> simp [convert,AG hs,AG hd]
 ·rename_i el s0 hs hd hc; obtain ⟨v,W1,hv,rfl⟩:=Nv h; rw [hc] at hx; generalize FP:e' x=Tt at hx
  cases hx
  obtain ⟨v',w',ρ',hr,hg,eG,JF⟩:=iU hw hs hd hv; refine ⟨_,_,ρ',List.mem_singleton.2 rfl,hg,.value (w:=w') ?_ eG JF⟩; simp only [execOp,ho,FP]; exact BH hr
 ·rename_i el _ hs hd _; obtain ⟨v,hv,rfl⟩:=FH h; obtain ⟨hr,eG⟩:=iT hw hs hd hv hx; refine .value hw ?_ eG; simp only [execOp,ho]; exact BH hr
 ·cases h
theorem eM (hw:AZ P w0 ρ W w) {ts:Array TypeId} {t ty:TypeId} {d d' s s' v:Value} {W1:CW} (h0:ts[0]?=some t)
  (h:dk P t d s W=some (v,W1)) (hd:AL ρ d d') (hs:AL ρ s s'):∃ v' w',(Builtin.copy_ ts ty #[d',s']).run P w=.ok v' w'∧AL ρ v v'∧AZ P w0 ρ W1 w':=by
 unfold dk at h
 split at h
 ·rename_i elem base dm AI1 sLen ht yu; obtain ⟨size,J5,h2⟩:=Af h; clear h; obtain ⟨news,HV,h⟩:=Af h2; clear h2; have AGr:Nat.min sLen dm≤sLen:=Nat.min_le_left _ _; obtain ⟨FQ,yv,CR,hl⟩:=Yr hw hs yu AGr HV; obtain ⟨OY,ADk,rfl,BD⟩:=hd.HE
  have Ir:(Builtin.copy_ ts ty #[.slice OY dm ADk,s']).run P w=(do
      if let some a:=OY then storeCells a FQ.toList
      pure (goInt (Nat.min sLen dm)):Sem Value).run P w:=by
   simp only [Builtin.copy_,h0,List.getElem?_toArray,List.getElem?_cons_zero,List.getElem?_cons_succ,Sem.run_bind,AG ht,Result.andThen_ok,hl,BP J5,yv w.drawn]
   cases OY <;> rfl
  rw [cond_eq_ite] at h
  split at h
  ·rename_i V6; have V6:=Nat.eq_of_beq_eq_true V6; simp only [Option.some.injEq,Prod.mk.injEq] at h; obtain ⟨rfl,rfl⟩:=h; refine ⟨_,w,?_,.int _ _,hw⟩; rw [Ir]
   have LN:FQ.toList=[]:=by
    have hlen:=CR.1
    have:news=[]:=by
     rw [V6] at HV; unfold HS at HV
     split at HV
     ·rw [Nat.zero_mul] at HV; unfold EO at HV
      split at HV
      ·cases HV; rfl
      ·cases HV; rfl
     ·rw [cond_eq_ite] at HV
      split at HV
      ·cases HV; rfl
      ·cases HV
     ·cases HV
    rw [this] at hlen; exact List.length_eq_zero_iff.1 hlen.symm
   rw [LN]
   cases OY <;> simp [storeCells,goInt]
  ·rename_i V6
   rcases BD with ⟨rfl,_,_⟩ | ⟨b,b',rfl,rfl,BD⟩
   ·cases h
   ·simp only at h
    split at h
    ·rename_i c m zz ee Bv; rw [cond_eq_ite] at h
     split at h
     ·rename_i BZ; simp only [Bool.and_eq_true] at BZ; have hle:=Nat.le_of_ble_eq_true BZ.2; simp only [Option.some.injEq,Prod.mk.injEq] at h; obtain ⟨rfl,rfl⟩:=h
      rcases BD with ⟨ha,_⟩ | ⟨hd0,_,_⟩ | ⟨hd0,_,_⟩
      ·obtain ⟨x,eL,fr,PA,rfl,oE,gv,hr,hn,iS,iF,_,FP⟩:=hw.cells ha Bv; have GY:=hw.BB Bv rfl PA (hr.write (vs:=news) (vs':=FQ.toList) CR (k:=b.off) (by omega)); refine ⟨_,_,?_,.int _ _,GY⟩; rw [Ir]; simp only [Sem.run_bind]; rw [F3 (P:=P) (b.off+x.o) FQ.toList 0 w eL oE gv (by have:=CR.1; omega) (CR.aU BZ.1)]; simp only [Result.andThen_ok,Sem.run_pure,Nat.add_zero]; rfl
      ·exact (V6 (by rw [hd0]; simp)).elim
      ·exact (V6 (by rw [hd0]; simp)).elim
     ·cases h
    ·cases h
 ·cases h
theorem iW (hw:AZ P w0 ρ W w) {ts:Array TypeId} {t ty:TypeId} {x x' v:Value} (h0:ts[0]?=some t) (h:OI P t x W=some v) (hx:AL ρ x x') :
  ∃ v',(Builtin.len_ ts ty #[x']).run P w=.ok v' w∧AL ρ v v':=by
 unfold OI at h
 split at h
 ·rename_i s ht
  cases h; cases hx
  exact ⟨_,by simp [Builtin.len_,h0,AG ht,goInt],.int _ _⟩
 ·rename_i el a0 n c ht
  cases h
  obtain ⟨a',c',rfl,_⟩:=hx.HE; exact ⟨_,by simp [Builtin.len_,h0,AG ht,goInt],.int _ _⟩
 ·rename_i kt el ht
  cases h; cases hx
  exact ⟨_,by simp [Builtin.len_,h0,AG ht,goInt],.int _ _⟩
 ·rename_i kt el r ht
  cases hx with
  | map hb =>
   split at h
   ·rename_i es E7 Bv
    cases h
    obtain ⟨y,C3,hy,rfl,_,hh,CR⟩:=hw.Tz hb Bv; have hl:=CR.length; refine ⟨.int .i64 C3.size,by simp [Builtin.len_,h0,AG ht,goInt,Aw hh (by simp)],?_⟩; rw [hl]
    simpa using AL.int .i64 _
   ·cases h
 ·cases h
theorem iX (hw:AZ P w0 ρ W w) {ts:Array TypeId} {t ty:TypeId} {x x' v:Value} (h0:ts[0]?=some t) (h:AAG P t x W=some v) (hx:AL ρ x x') :
  ∃ v',(Builtin.cap_ ts ty #[x']).run P w=.ok v' w∧AL ρ v v':=by
 unfold AAG at h
 split at h
 ·rename_i el n c ht
  cases h
  cases hx
  refine ⟨_,?_,.int _ _⟩; simp [Builtin.cap_,h0,AG ht,goInt]
 ·rename_i el a n c ht
  split at h
  ·rename_i cc m z e Bv; rw [cond_eq_ite] at h
   split at h
   ·cases h
   ·rename_i hz; simp only [Bool.or_eq_true,Nat.beq_eq,not_or] at hz
    cases h
    cases hx with
    | @slice _ a' _ _ c' ha hc =>
     have:c'=c:=by
      rcases hc with hc | ⟨x,hx,hp,h1,h2,_⟩
      ·exact hc
      ·obtain ⟨_,y,hy,rfl⟩:=ha; rw [hx] at hy; cases hy; obtain ⟨o',IK,hr⟩:=hw.obj Bv (by simp) hx rfl
       cases hr with
       | cells _ _ _ _ hq =>
        obtain ⟨e1,e2⟩:=hq.2 hz.1; have:c*x.sz=c'*x.sz:=by omega
        exact (Nat.eq_of_mul_eq_mul_right hp this).symm
     subst this; refine ⟨_,?_,.int _ _⟩; simp [Builtin.cap_,h0,AG ht,goInt]
    | K1=>exact (hz.2 rfl).elim
    | JE=>exact (hz.2 rfl).elim
  ·cases h
 ·cases h
theorem YR (hw:AZ P w0 ρ W w) {ts:Array TypeId} {t ty:TypeId} {m m' k k':Value} {W1:CW} (h0:ts[0]?=some t) (h:P6 P t m k W=some W1) (hm:AL ρ m m') (hk:AL ρ k k') :
  ∃ w',(Builtin.delete_ ts ty #[m',k']).run P w=.ok (.tuple #[]) w'∧AZ P w0 ρ W1 w':=by
 unfold P6 at h
 split at h
 ·rename_i kt el r ht
  cases hm with
  | @map _ r' hb =>
   split at h
   ·rename_i es E7 Bv; obtain ⟨f,hf,h2⟩:=Af h; clear h; have h:=h2; obtain ⟨y,C3,hy,rfl,mN,hh,CR⟩:=hw.Tz hb Bv; obtain ⟨r',Mu,KI,BD⟩:=M7 hf hk CR
    rcases BD with ⟨rfl,rfl⟩ | ⟨j,x1,x1',en,rfl,rfl,hxx,E9,eK⟩
    ·cases h
     refine ⟨{ w with heap:=w.heap.setIfInBounds y.b (.map C3 E7) },?_,hw.BB Bv rfl hy (.map mN CR)⟩; simp [Builtin.delete_,h0,AG ht,Aw hh (by simp),Mu,KI,DW hh (by simp)]
    ·cases h
     refine ⟨{ w with heap:=w.heap.setIfInBounds y.b (.map (C3.eraseIdxIfInBounds j) E7) },?_,hw.BB Bv rfl hy (.map mN ?_)⟩
     ·simp [Builtin.delete_,h0,AG ht,Aw hh (by simp),Mu,KI,DW hh (by simp)]
     ·have:=CR.L7 j; have e1:(C3.eraseIdxIfInBounds j).toList=C3.toList.eraseIdx j:=by simp
      rw [e1]; exact this
   ·cases h
 ·cases h
theorem aX (hz:ZP P) (hw:AZ P w0 ρ W w) {ts:Array TypeId} {t ty:TypeId} {x x':Value} {W1:CW} (h0:ts[0]?=some t) (h:Vv P t x W=some W1) (hx:AL ρ x x') :
  ∃ w',(Builtin.clear_ ts ty #[x']).run P w=.ok (.tuple #[]) w'∧AZ P w0 ρ W1 w':=by
 unfold Vv at h
 split at h
 ·rename_i kt el r ht
  split at h
  ·rename_i es E7 Bv
   cases h
   cases hx with
   | @map _ r' hb =>
    obtain ⟨y,C3,hy,rfl,mN,hh,CR⟩:=hw.Tz hb Bv; refine ⟨{ w with heap:=w.heap.setIfInBounds y.b (.map #[] E7) },?_,hw.BB Bv rfl hy (.map mN trivial)⟩; simp [Builtin.clear_,h0,AG ht,Aw hh (by simp),DW hh (by simp)]
  ·cases h
 ·rename_i kt el ht
  cases h; cases hx
  exact ⟨w,by simp [Builtin.clear_,h0,AG ht],hw⟩
 ·rename_i el a n c ht; obtain ⟨size,J5,h2⟩:=Af h; clear h; obtain ⟨z0,L6,h⟩:=Af h2; clear h2; obtain ⟨a',c',rfl,BD⟩:=hx.HE; rw [cond_eq_ite] at h
  split at h
  ·rename_i V6; have V6:=Nat.eq_of_beq_eq_true V6; subst V6
   cases h
   refine ⟨w,?_,hw⟩
   cases a' <;> simp [Builtin.clear_,h0,AG ht]
  ·rename_i V6; have V6:n≠0:=fun h=>V6 (by rw [h]; rfl)
   split at h
   ·rename_i cc m zz ee Bv; rw [cond_eq_ite] at h
    split at h
    ·rename_i BZ; simp only [Bool.and_eq_true] at BZ; have hle:=Nat.le_of_ble_eq_true BZ.1
     cases h
     rcases BD with ⟨h1,_⟩ | ⟨b,b',sD,rfl,BD⟩
     ·cases h1
     ·cases sD
      rcases BD with ⟨ha,_⟩ | ⟨h1,_⟩ | ⟨h1,_⟩
      ·obtain ⟨x,eL,fr,PA,rfl,oE,gv,hr,hn,iS,iF,_,FP⟩:=hw.cells ha Bv
       have v_:Aq ρ (Bk .nil z0.cells (n*z0.cells.size) 0) (Builtin.zeroCells z0.cells n).toList:=by
        refine ⟨by simp [A6,Builtin.zeroCells],fun i hi=>?_⟩; rw [A6] at hi; rw [Gi _ _ _ _ _ hi,Nat.zero_add]
        have h1:=Nw (ρ:=ρ) hz L6 (n*z0.cells.size) (by
         rcases Nat.eq_zero_or_pos z0.cells.size with h0 | h0
         ·left; rw [h0]; rfl
         ·exact .inr h0) i hi
        simp only [Builtin.zeroCells]; rw [Array.getD_eq_getD_getElem?,←Array.getElem?_toList] at h1; rw [List.getD_eq_getElem?_getD]; exact h1
       have CJ:(Builtin.zeroCells z0.cells n).toList.all Ba=true:=by
        rw [List.all_eq_true]; intro y hy; simp only [Builtin.zeroCells,Array.toList_map,List.mem_map,Array.toList_range,List.mem_range] at hy; obtain ⟨i,hi,rfl⟩:=hy
        have LL:0<z0.cells.size:=by
         rcases Nat.eq_zero_or_pos z0.cells.size with h0 | h0
         ·rw [h0] at hi; omega
         ·exact h0
        have Ae:i % z0.cells.size<z0.cells.size:=Nat.mod_lt _ LL; have:=List.all_eq_true.1 BZ.2 (z0.cells[i % z0.cells.size]) (by simp)
        simpa [Ae] using this
       have GY:=hw.BB Bv rfl PA (hr.write (vs:=Bk .nil z0.cells (n*z0.cells.size) 0) v_ (k:=a.off) (by rw [A6]; omega)); refine ⟨_,?_,GY⟩; have EB:=F3 (P:=P) (a.off+x.o) (Builtin.zeroCells z0.cells n).toList 0 w eL oE gv (by simp [Builtin.zeroCells]; omega) CJ; obtain ⟨n,rfl⟩:∃ k,n=k+1:=⟨n-1,by omega⟩
       simp only [Builtin.clear_,h0,List.getElem?_toArray,List.getElem?_cons_zero,Sem.run_bind,AG ht,Result.andThen_ok,Bp L6,EB,Sem.run_pure,Nat.add_zero]
      ·exact (V6 h1).elim
      ·exact (V6 h1).elim
    ·cases h
   ·cases h
 ·rename_i el n c ht
  cases h
  obtain ⟨a',c',rfl,BD⟩:=hx.HE
  have:a'=none:=by
   rcases BD with ⟨_,h,_⟩ | ⟨b,b',h,_⟩
   ·exact h
   ·cases h
  subst this; refine ⟨w,?_,hw⟩
  cases n <;> simp [Builtin.clear_,h0,AG ht]
 ·cases h
theorem sE {t:TypeId} {d s v:Value} {W1:CW} (h:dk P t d s W=some (v,W1)):W.sz≤W1.sz:=by
 unfold dk at h
 split at h
 ·obtain ⟨_,_,h⟩:=Af h; obtain ⟨_,_,h⟩:=Af h
  repeat' (first | (cases h; done) | (cases h; exact Nat.le_refl _) | (rw [cond_eq_ite] at h) | split at h)
 ·cases h
theorem iY {t:TypeId} {d s:Value} {W1:CW} (h:P6 P t d s W=some W1):W.sz≤W1.sz:=by
 unfold P6 at h
 split at h
 ·split at h
  ·obtain ⟨_,_,h⟩:=Af h
   repeat' (first | (cases h; done) | (cases h; exact Nat.le_refl _) | (rw [cond_eq_ite] at h) | split at h)
  ·cases h
 ·cases h
theorem oF {t:TypeId} {d:Value} {W1:CW} (h:Vv P t d W=some W1):W.sz≤W1.sz:=by
 unfold Vv at h
 split at h
 ·repeat' (first | (cases h; done) | (cases h; exact Nat.le_refl _) | (rw [cond_eq_ite] at h) | split at h)
 ·cases h; exact Nat.le_refl _
 ·obtain ⟨_,_,h⟩:=Af h; obtain ⟨_,_,h⟩:=Af h
  repeat' (first | (cases h; done) | (cases h; exact Nat.le_refl _) | (rw [cond_eq_ite] at h) | split at h)
 ·cases h; exact Nat.le_refl _
 ·cases h
theorem aY {c:Call} {b:Builtin} (ho:o.op=.call c) (hf:c.callee=.builtin b) (w:World) :
  (execOp e' o).run P w=(builtin b c.argTypes o.type (c.args.map fun | .const _=>true | _=>false) (c.args.map e')).run P w:=by
 simp only [execOp,ho,resolve,hf,Sem.run_bind,Sem.run_pure,Result.andThen_ok,invoke]; rfl
theorem Yu {α:Type} {a:Array α} {x:α} {l:List α} (h:a.toList=x::l):a[0]?=some x:=by rw [←Array.getElem?_toList,h]; rfl
theorem ADl {α:Type} {a:Array α} {x y:α} {l:List α} (h:a.toList=x::y::l):a[1]?=some y:=by rw [←Array.getElem?_toList,h]; rfl
theorem ofList {α:Type} {a:Array α} {l:List α} (h:a.toList=l):a=l.toArray:=by rw [←h]
theorem iZ (hz:ZP P) {c:Call} {b:Builtin} (ho:o.op=.call c) (hf:c.callee=.builtin b) (h:Bf P o e W=some outs) (hw:AZ P w0 ρ W w)
  (ha:∀ x,x ∈ c.args.toList→AL ρ (e x) (e' x)):BC P w0 ρ W ((execOp e' o).run P w) outs:=by
 rw [aY ho hf]; simp only [Bf,ho,hf] at h; split at h
 rotate_left
 ·cases h
 rename_i r hr
 cases h
 generalize hB:c.args.map e'=B; have DP:Aq ρ (c.args.toList.map e) B.toList:=by rw [←hB]; simpa using Aq.map (ρ:=ρ) c.args.toList e e' ha
 clear hB; generalize c.args.toList.map e=A at hr DP; unfold Jb at hr
 have one:∀ {x:Value},Aq ρ [x] B.toList→∃ x',B=#[x']∧AL ρ x x':=by
  intro x hl
  cases hB:B.toList with
  | nil=>rw [hB] at hl; have:=hl.1; simp at this
  | cons y ys =>
   rw [hB] at hl; have:ys=[]:=by have:=hl.1; simp at this; first | exact this | exact this.symm | exact List.length_eq_zero_iff.1 this.symm
   subst this; exact ⟨y,ofList hB,hl.head⟩
 have two:∀ {x y:Value},Aq ρ [x,y] B.toList→∃ x' y',B=#[x',y']∧AL ρ x x'∧AL ρ y y':=by
  intro x y hl
  cases hB:B.toList with
  | nil=>rw [hB] at hl; have:=hl.1; simp at this
  | cons x' ys =>
   rw [hB] at hl; have h1:=hl.head; have hl:=hl.tail
   cases ys with
   | nil=>have:=hl.1; simp at this
   | cons y' ys =>
    have:ys=[]:=by have:=hl.1; simp at this; first | exact this | exact this.symm | exact List.length_eq_zero_iff.1 this.symm
    subst this; exact ⟨x',y',ofList hB,h1,hl.head⟩
 split at hr
 ·rename_i t ts x M'; obtain ⟨x',rfl,hx⟩:=one DP; rw [Option.map_eq_some_iff] at hr; obtain ⟨v,hv,rfl⟩:=hr; obtain ⟨v',Iq,HD⟩:=iW (ty:=o.type) hw (Yu M') hv hx; exact .value hw (BH Iq) HD
 ·rename_i t ts x M'; obtain ⟨x',rfl,hx⟩:=one DP; rw [Option.map_eq_some_iff] at hr; obtain ⟨v,hv,rfl⟩:=hr; obtain ⟨v',Iq,HD⟩:=iX (ty:=o.type) hw (Yu M') hv hx; exact .value hw (BH Iq) HD
 ·rename_i t u ts s x M'; obtain ⟨s',x',rfl,hs,hx⟩:=two DP; rw [cond_eq_ite] at hr
  split at hr
  ·rename_i hu; rw [Option.map_eq_some_iff] at hr; obtain ⟨⟨v,W1⟩,hv,rfl⟩:=hr; obtain ⟨v',w',ρ',DV,Iq,HD,JF⟩:=YO (ty:=o.type) hw (Yu M') (ADl M') hu hv hs hx; exact ⟨_,_,ρ',List.mem_singleton.2 rfl,DV,.value (BH Iq) HD JF⟩
  ·cases hr
 ·rename_i t ts d s M'; obtain ⟨d',s',rfl,hd,hs⟩:=two DP; rw [Option.map_eq_some_iff] at hr; obtain ⟨⟨v,W1⟩,hv,rfl⟩:=hr; obtain ⟨v',w',Iq,HD,JF⟩:=eM (ty:=o.type) hw (Yu M') hv hd hs; exact ⟨_,_,ρ,List.mem_singleton.2 rfl,.refl _ (sE hv),.value (BH Iq) HD JF⟩
 ·rename_i t ts x M'; obtain ⟨x',rfl,hx⟩:=one DP; rw [Option.map_eq_some_iff] at hr; obtain ⟨W1,hv,rfl⟩:=hr; obtain ⟨w',Iq,JF⟩:=aX (ty:=o.type) hz hw (Yu M') hv hx; exact ⟨_,_,ρ,List.mem_singleton.2 rfl,.refl _ (oF hv),.value (BH Iq) (.tuple' (.nil _)) JF⟩
 ·rename_i t ts m k M'; obtain ⟨m',k',rfl,hm,hk⟩:=two DP; rw [Option.map_eq_some_iff] at hr; obtain ⟨W1,hv,rfl⟩:=hr; obtain ⟨w',Iq,JF⟩:=YR (ty:=o.type) hw (Yu M') hv hm hk; exact ⟨_,_,ρ,List.mem_singleton.2 rfl,.refl _ (iY hv),.value (BH Iq) (.tuple' (.nil _)) JF⟩
 ·rename_i k a k2 b2; obtain ⟨x',y',rfl,hx,hy⟩:=two DP
  cases hx; cases hy; cases hr
  refine .value hw (BH (s:=Builtin.max_ c.argTypes o.type #[.int k a,.int k2 b2]) (by simp [Builtin.max_,Builtin.max2]; rfl)) ?_; simp only [cond_eq_ite,decide_eq_true_eq]; exact .int _ _
 ·rename_i k a k2 b2; obtain ⟨x',y',rfl,hx,hy⟩:=two DP
  cases hx; cases hy; cases hr
  refine .value hw (BH (s:=Builtin.min_ c.argTypes o.type #[.int k a,.int k2 b2]) (by simp [Builtin.min_,Builtin.min2]; rfl)) ?_; simp only [cond_eq_ite,decide_eq_true_eq]; exact .int _ _
 ·cases hr
  exact ⟨_,_,ρ,List.mem_singleton.2 rfl,.refl _,.recover rfl hw⟩
 ·cases hr
theorem QL (hz:ZP P) (Ai:Vw o=true) (HQ:∀ g,e (.global g)=.complex .f32 0 0) (he:∀ x,x ∈ o.op.operands→Am x=true→AL ρ (e x) (e' x)) (hw:AZ P w0 ρ W w) (h:Bf P o e W=some outs):BC P w0 ρ W ((execOp e' o).run P w) outs:=by
 have al:∀ l:List Operand,(∀ x,x ∈ l→x ∈ o.op.operands)→l.all Am=true→∀ x,x ∈ l→AL ρ (e x) (e' x):=fun l hm hl x hx=>he x (hm x hx) (List.all_eq_true.1 hl x hx); have al2:∀ l:List (Nat × Operand),(∀ x,x ∈ l→x.2 ∈ o.op.operands)→(l.all fun p=>Am p.2)=true→∀ p,p ∈ l→AL ρ (e p.2) (e' p.2):=fun l hm hl x hx=>he x.2 (hm x hx) (List.all_eq_true.1 hl x hx); have op:∀ m:Option Operand,(∀ x,m=some x→x ∈ o.op.operands)→m.all Am=true→∀ x,m=some x→AL ρ (e x) (e' x):=fun m B3 hm x hx=>he x (B3 x hx) (by subst hx; simpa using hm); unfold Vw at Ai; split at Ai <;> (try simp only [Bool.and_eq_true] at Ai)
 case h_1 ho=>exact mI (.inl ho) h hw (he _ (by rw [ho]; simp [Op.operands]) Ai)
 case h_2 ho=>exact mI (.inr ho) h hw (he _ (by rw [ho]; simp [Op.operands]) Ai)
 case h_3 ho=>exact dw ho h hw (he _ (by rw [ho]; simp [Op.operands]) Ai)
 case h_4 ho=>exact wi ho h hw (he _ (by rw [ho]; simp [Op.operands]) Ai)
 case h_5 ho=>exact iV ho h hw (he _ (by rw [ho]; simp [Op.operands]) Ai)
 case h_6 ho=>exact SD ho h hw (he _ (by rw [ho]; simp [Op.operands]) Ai)
 case h_7 ho=>exact rY ho h hw (he _ (by rw [ho]; simp [Op.operands]) Ai)
 case h_8 ho=>exact aQ ho h hw (he _ (by rw [ho]; simp [Op.operands]) Ai)
 case h_9 ho=>exact rr ho h hw (he _ (by rw [ho]; simp [Op.operands]) Ai)
 case h_10 ho=>exact wq ho h hw (he _ (by rw [ho]; simp [Op.operands]) Ai)
 case h_11 ho=>exact r6 ho h hw (he _ (by rw [ho]; simp [Op.operands]) Ai)
 case h_12 ho=>exact YN hz ho h hw (he _ (by rw [ho]; simp [Op.operands]) Ai)
 case h_13 ho=>exact iI ho h hw (he _ (by rw [ho]; simp [Op.operands]) Ai)
 case h_14 ho=>exact ri ho h hw (he _ (by rw [ho]; simp [Op.operands]) Ai)
 case h_15 ho=>exact AAO ho h hw (he _ (by rw [ho]; simp [Op.operands]) Ai)
 case h_16 t x ho =>
  rw [Bool.or_eq_true] at Ai
  rcases Ai with Ai | Ai
  ·exact wh ho h hw (he _ (by rw [ho]; simp [Op.operands]) Ai)
  ·split at Ai
   ·simp only [Bf,ho,HQ] at h
    cases h
   ·cases Ai
 case h_17 ho=>exact we ho h hw (he _ (by rw [ho]; simp [Op.operands]) Ai.1.1) (he _ (by rw [ho]; simp [Op.operands]) Ai.1.2) (he _ (by rw [ho]; simp [Op.operands]) Ai.2)
 case h_18 ho=>exact rS hz ho h hw
 case h_19 ho=>exact iO ho h hw
 case h_20 ho=>exact rX hz ho h hw (al2 _ (fun x hx=>by rw [ho]; simp [Op.operands]; exact ⟨x.1,by simpa using hx⟩) Ai)
 case h_21 ho=>exact YM hz ho h hw (al2 _ (fun x hx=>by rw [ho]; simp [Op.operands]; exact ⟨x.1,by simpa using hx⟩) Ai)
 case h_22 ho=>exact rR ho h hw (he _ (by rw [ho]; simp [Op.operands]) Ai.1) (he _ (by rw [ho]; simp [Op.operands]) Ai.2)
 case h_23 ho=>exact rV ho h hw (he _ (by rw [ho]; simp [Op.operands]) Ai.1) (he _ (by rw [ho]; simp [Op.operands]) Ai.2)
 case h_24 ho=>exact aP hz ho h hw (he _ (by rw [ho]; simp [Op.operands]) Ai.1) (he _ (by rw [ho]; simp [Op.operands]) Ai.2)
 case h_25 ho=>exact aR ho h hw (he _ (by rw [ho]; simp [Op.operands]) Ai.1) (he _ (by rw [ho]; simp [Op.operands]) Ai.2)
 case h_26 ho=>exact rZ ho h hw (he _ (by rw [ho]; simp [Op.operands]) Ai.1) (he _ (by rw [ho]; simp [Op.operands]) Ai.2)
 case h_27 ho=>exact oB hz ho h hw (he _ (by rw [ho]; simp [Op.operands]) Ai.1) (he _ (by rw [ho]; simp [Op.operands]) Ai.2)
 case h_28 ho=>exact eB ho h hw (al _ (fun x hx=>by rw [ho]; simp [Op.operands]; first | exact .inl hx | exact .inr hx | exact .inl (by simpa using hx) | exact .inr (by simpa using hx)) Ai.1) (al _ (fun x hx=>by rw [ho]; simp [Op.operands]; first | exact .inl hx | exact .inr hx | exact .inl (by simpa using hx) | exact .inr (by simpa using hx)) Ai.2)
 case h_29 ho=>exact re ho h hw (he _ (by rw [ho]; simp [Op.operands]) Ai.1.1.1) (op _ (fun x hx=>by rw [ho]; simp [Op.operands,hx]) Ai.1.1.2) (op _ (fun x hx=>by rw [ho]; simp [Op.operands,hx]) Ai.1.2) (op _ (fun x hx=>by rw [ho]; simp [Op.operands,hx]) Ai.2)
 case h_30 ho=>exact QK (.inl ho) h hw (he _ (by rw [ho]; simp [Op.operands]) Ai.1.1) (he _ (by rw [ho]; simp [Op.operands]) Ai.1.2) (he _ (by rw [ho]; simp [Op.operands]) Ai.2)
 case h_31 ho=>exact QK (.inr ho) h hw (he _ (by rw [ho]; simp [Op.operands]) Ai.1.1) (he _ (by rw [ho]; simp [Op.operands]) Ai.1.2) (he _ (by rw [ho]; simp [Op.operands]) Ai.2)
 case h_32 c ho =>
  obtain ⟨h1,h2⟩:=Ai
  split at h2
  ·rename_i f hf; exact aW hz ho hf h hw (he _ (by rw [ho]; simp [Op.operands,Call.operands,hf]) h2) (al _ (fun x hx=>by rw [ho]; simp [Op.operands,Call.operands,hf]; exact .inr (by simpa using hx)) h1)
  ·rename_i b hf; exact iZ hz ho hf h hw (al _ (fun x hx=>by rw [ho]; simp [Op.operands,Call.operands,hf]; simpa using hx) h1)
  ·cases h2
 case h_33 c ho =>
  obtain ⟨h1,h2⟩:=Ai
  split at h2
  ·rename_i f hf; exact rj ho hf h hw (he _ (by rw [ho]; simp [Op.operands,Call.operands,hf]) h2) (al _ (fun x hx=>by rw [ho]; simp [Op.operands,Call.operands,hf]; exact .inr (by simpa using hx)) h1)
  ·cases h2
 case h_34=>cases Ai
end
end Go.Ce
