/- A part of the proof: Ca, Cb, Cc, Cd, Ce, Cf, Cg, Ch, Ci, Cj, Ck, Cl, Cm, Cn. -/
import Derived.OrdersIn
import Derived.RangeFuncIn
import Derived.DefersIn
import Derived.RecoverIn
import Derived.KernelRfl
import Derived.Below
import Derived.Laws.StructEq
import Derived.Laws.Concat
import Derived.MapKept
import Derived.Laws.BytesArg
import Derived.Laws.IdiomStrings
set_option linter.unusedSectionVars false
set_option linter.unusedVariables false
set_option linter.unusedSimpArgs false
set_option linter.defProp false
set_option maxRecDepth 200000
namespace Go.Ce
def ck:=@List.getElem?_eq_getElem
def dx:=@List.getElem?_eq_some_iff
def dy:=@List.mem_singleton
def aaa:=@Go.Result.andThen_ok
def aab:=@Bool.and_eq_true
def aac:=@Nat.eq_of_beq_eq_true
def aad:=@if_neg
def aae:=@if_pos
def aaf:=@Go.Sem.run_bind
def aag:=@Nat.le_refl
def aah:=@List.getD_eq_getElem?_getD
def aai:=@Go.Sem.run_pure
def aaj:=@Nat.le_of_ble_eq_true
def aak:=@Nat.ble_eq_true_of_le
def aal:=@Array.getD_eq_getD_getElem?
def aam:=@Option.some.injEq
def aan:=@List.mem_of_getElem?
def aao:=@Array.getElem?_eq_some_iff
def aap:=@Nat.lt_succ_iff_lt_or_eq
def aaq:=@List.length_map
def aar:=@if_true
def aas:=@List.length_append
def aat:=@Option.map_eq_some_iff
def aau:=@Prod.mk.injEq
def aav:=@Bool.not_true
def aaw:=@List.length_cons
def aax:=@List.all_eq_true
def aay:=@List.getElem?_append_left
def aaz:=@List.getElem?_map
def aaA:=@List.findIdx?_eq_some_iff_getElem
def aaB:=@List.mem_append
def aaC:=@List.getElem?_append_right
def aaD:=@Bool.false_eq_true
def aaE:=@List.length_take
def aaF:=@Bool.or_eq_false_iff
def aaG:=@List.length_eq_zero_iff
def aaH:=@List.length_singleton
def aaI:=@List.map_append
def aaJ:=@List.mem_cons
def aaK:=@Bool.not_eq_true'
def aaL:=@Nat.zero_add
def aaM:=@List.mem_map
def aaN:=@List.ext_getElem?
def aaO:=@List.flatMap_cons
def aaP:=@List.take_add_one
def aaQ:=@List.any_eq_true
def aaR:=@List.findIdx?_eq_none_iff
def aaS:=@List.mem_map_of_mem
def aaT:=@List.mem_range
def aaU:=@Bool.or_eq_true
def aaV:=@Array.getElem?_setIfInBounds
def aaW:=@List.getElem?_take
def aaX:=@Option.getD_some
def aaY:=@List.getElem_mem
def aaZ:=@Nat.mul_le_mul_right
def aa0:=@List.getElem?_eq_none
def aa1:=@Nat.zero_le
def aa2:=@Nat.le_max_right
def aa3:=@List.getElem?_cons_succ
def aa4:=@Bool.true_and
def aa5:=@Nat.le_trans
def aa6:=@Bool.not_false
def aa7:=@List.mem_take_iff_getElem
def aa8:=@Array.getElem?_setIfInBounds_ne
def aa9:=@Option.toList_some
def aa_:=@List.take_length
def aba:=@Option.map_some
def abb:=@List.append_assoc
def abc:=@Nat.add_zero
def abd:=@List.flatMap_append
def abe:=@Nat.zero_mul
def abf:=@if_false
def abg:=@List.getElem?_of_mem
def abh:=@Nat.le_max_left
def abi:=@List.nil_append
def abj:=@Array.getElem?_toList
def abk:=@List.getElem?_cons_zero
def abl:=@List.append_nil
def abm:=@List.length_drop
def abn:=@Nat.sub_self
def abo:=@List.mem_iff_getElem
def abp:=@List.zip_cons_cons
def abq:=@List.getElem?_drop
def abr:=@Option.isSome_iff_exists
def abt:=@Bool.eq_iff_iff
def abu:=@Nat.beq_refl
def abv:=@List.all_cons
def abw:=@List.getElem?_set
def abx:=@Nat.add_mul
def aby:=@Nat.pow_le_pow_right
def abz:=@Nat.lt_of_lt_of_le
def abA:=@Option.isSome_none
def abB:=@Bool.not_eq_false'
def abC:=@Bool.and_true
def abD:=@Int.le_refl
def abE:=@List.replicate_succ
def abF:=@Nat.beq_eq
def abG:=@Array.size_setIfInBounds
def abH:=@Bool.false_and
def abI:=@List.length_nil
def abJ:=@Bool.false_or
def abK:=@Nat.eq_zero_or_pos
def abL:=@Option.some.inj
def abM:=@List.pairwise_singleton
def abN:=@Int.tdiv_eq_ediv_of_nonneg
def abO:=@List.take_of_length_le
def abP:=@Array.length_toList
def abQ:=@List.getElem_of_mem
def abR:=@Nat.mul_one
def abS:=@List.any_eq_false
def abT:=@Int.toNat_natCast
def abU:=@List.mem_of_find?_eq_some
def abV:=@Go.StepsIn.trans
def abW:=@List.map_cons
def abX:=@List.drop_eq_getElem_cons
def abY:=@Classical.byContradiction
def abZ:=@List.length_set
def ab0:=@Int.tmod_eq_emod_of_nonneg
def ab1:=@Nat.mod_eq_of_lt
def ab3:=@congrArg
def ab4:=@List.find?_eq_none
def ab5:=@List.length_filter_le
def ab6:=@List.take_append_drop
def ab7:=@List.length_replicate
def ab8:=@Ne.symm
def ab9:=@List.drop_zero
def ab_:=@List.cons.injEq
def acd:=@List.zip_nil_left
def ace:=@Nat.mul_comm
def acf:=@Option.bind_some
def acg:=@Array.toList_map
def ach:=@List.not_mem_nil
def aci:=@Array.getElem?_extract
def acj:=@List.pairwise_cons
def ack:=@Option.isSome_some
def acm:=@List.foldl_cons
def acn:=@List.getElem?_toArray
def aco:=@List.mem_filter
def acp:=@Array.mem_of_getElem?
def acq:=@Bool.and_self
def acr:=@List.size_toArray
def acs:=@Decidable.not_not
def acu:=@List.find?_isSome
def acv:=@Nat.eq_of_mul_eq_mul_right
def acw:=@List.getElem?_mapIdx
def acy:=@Nat.mul_le_mul
def acz:=@List.drop_drop
def acA:=@List.pairwise_iff_getElem
def acB:=@List.cons_append
def acC:=@Array.getElem?_push
def acD:=@Nat.one_mul
def acE:=@Array.ext'
def acF:=@List.eq_of_mem_replicate
def acG:=@Option.bind_eq_some_iff
def acH:=@Nat.le_mul_of_pos_right
def acI:=@Nat.one_le_two_pow
def acJ:=@List.drop_eq_nil_of_le
def acK:=@Nat.pow_add
def acL:=@List.mapM_cons
def acM:=@List.take_zero
def acN:=@List.nodup_nil
def acO:=@List.Perm.refl
def acP:=@Nat.sub_zero
def acQ:=@List.all_nil
def acR:=@Bool.or_self
def acS:=@List.flatMap_nil
def acT:=@Nat.log2_self_le
def acU:=@List.getElem_map
def acV:=@List.mem_cons_of_mem
def acW:=@List.mem_append_left
def acX:=@Bool.or_false
def acY:=@List.map_drop
def acZ:=@List.getD_cons_succ
def ac0:=@List.find?_some
def ac1:=@List.getElem?_range
def ac2:=@Array.foldl_toList
def ac3:=@Nat.add_comm
def ac4:=@List.mem_cons_self
def ac5:=@Nat.succ_mul
def ac6:=@List.findIdx?_cons
def ac7:=@List.map_map
def ac8:=@Nat.mod_lt
inductive Tr(α:Type) where
 |nil
 |node (l:Tr α) (v:Option α) (r:Tr α)
def Tr.get{α:Type}:Tr α→Nat→Option α
 | .nil,_=>none
 | .node l v r,i=>cond (Nat.beq i 0) v (cond (Nat.beq (i%2) 1) (l.get (i/2)) (r.get (i/2-1)))
def Tr.ir{α:Type}:Nat→Tr α→Nat→α→Tr α
 |0,t,_,_=>t
 |f+1,.nil,i,x=>cond (Nat.beq i 0) (.node .nil (some x) .nil) (cond (Nat.beq (i%2) 1) (.node (Tr.ir f .nil (i/2) x) none .nil) (.node .nil none (Tr.ir f .nil (i/2-1) x)))
 |f+1,.node l v r,i,x=>cond (Nat.beq i 0) (.node l (some x) r) (cond (Nat.beq (i%2) 1) (.node (Tr.ir f l (i/2) x) v r) (.node l v (Tr.ir f r (i/2-1) x)))
def Tr.set{α:Type}(t:Tr α)(i:Nat)(x:α):Tr α:=Tr.ir (i+1) t i x
def Tr.AW{α:Type}(t:Tr α)(k:Nat):List α→Tr α
 |[]=>t
 |x::xs=>(t.set k x).AW (k+1) xs
inductive BF where
 |cells (c:Tr Value) (n:Nat) (z:Array Value) (elem:TypeId)
 |map (es:List MapEntry) (clock:Nat)
 |iter (m:Option Nat) (since:Nat) (seen:List Nat) (last:Nat)
 |loop (state:LoopState) (pending:Option Code) (fn:FuncId) (tmps:Tr Value) (nt:Nat) (params:Array Tmp) (assign body:Code) (defers:Nat)
 |deferred
 |dead
 |fixed (f:Nat→Value) (n:Nat) (elem:TypeId)
def BF.mut:BF→Bool
 | .dead=>false
 | .fixed _ _ _=>false
 |_=>true
structure CW where
 h:Tr BF
 sz:Nat
structure AN where
 t:Tr Value
 nt:Nat
 defers:List Deferred
inductive B_ where
 |value (v:Value)
 |skip
 |enter (f:FuncId) (args:List Value)
 |round (l:Nat) (args:List Value)
 |defer (d:Deferred)
 |recover
 |panic (v:Value)
def AN.eval(a:AN):Operand→Value
 | .tmp t=>match a.t.get t with|some v=>v|none=>undef
 | .const v=>v
 | .global _=>.complex .f32 0 0
 | .func f=>.func (.func f) #[] #[]
def AN.put(a:AN)(d:Option Tmp)(v:Value):AN :=
 match d with
 |some d=>{a with t:=a.t.set d v}
 |none=>a
def CW.new(W:CW)(o:BF):CW:=⟨W.h.set W.sz o,W.sz+1⟩
def CW.obj(W:CW)(i:Nat):Option BF:=W.h.get i
def CW.Ba(W:CW)(i:Nat)(o:BF):CW:=⟨W.h.set i o,W.sz⟩
def cellAt(c:Tr Value)(z:Array Value)(k:Nat):Value :=
 match c.get k with
 |some v=>v
 |none=>z.getD (k%z.size) undef
def Bj(c:Tr Value)(z:Array Value):Nat→Nat→List Value
 |0,_=>[]
 |m+1,k=>cellAt c z k::Bj c z m (k+1)
def bA:List UInt8→List UInt8→Bool
 |[],[]=>true
 |a::x,b::y=>Nat.beq a.toNat b.toNat&&bA x y
 |_,_=>false
def HH:List UInt8→List UInt8→Bool
 |_,[]=>false
 |[],_::_=>true
 |a::x,b::y=>Nat.blt a.toNat b.toNat||(Nat.beq a.toNat b.toNat&&HH x y)
def sb(s:ByteArray):List UInt8:=s.data.toList
def ADN(op:BinOp)(a b:ByteArray):Option Value :=
 match op with
 | .add=>cond (Nat.ble (a.size+b.size) 9223372036854775807) (some (.string ⟨(sb a++sb b).toArray⟩)) none
 | .eql=>some (.bool (bA (sb a) (sb b)))
 | .neq=>some (.bool (!bA (sb a) (sb b)))
 | .lss=>some (.bool (HH (sb a) (sb b)))
 | .leq=>some (.bool (HH (sb a) (sb b)||bA (sb a) (sb b)))
 | .gtr=>some (.bool (!(HH (sb a) (sb b)||bA (sb a) (sb b))))
 | .geq=>some (.bool (!HH (sb a) (sb b)))
 |_=>none
def Eu(l:List UInt8):List Value:=l.map λb=>.int .u8 b.toNat
def K1:List Value→Option (List UInt8)
 |[]=>some []
 | .int .u8 n::l=>match K1 l with
  |some m=>some (UInt8.ofNat n.toNat::m)
  |none=>none
 |_::_=>none
def R6(d:TypeDesc)(k v:Value):Option Bool :=
 match d,k,v with
 | .string,.string a,.string b=>some (bA (sb a) (sb b))
 |d,k,v=>Instr.sameNow d k v
def MN(d:TypeDesc)(k:Value):List MapEntry→Nat→Option (Option (Nat×Value))
 |[],_=>some none
 |e::es,i=>match R6 d k e.key with
  |some true=>some (some (i,e.val))
  |some false=>MN d k es (i+1)
  |none=>none
def Fx(f:Nat→Value):Nat→Nat→List Value
 |0,_=>[]
 |m+1,k=>f k::Fx f m (k+1)
section
variable (P:Program)
def EM(t:TypeId):Option Nat:=(P.info? t).map (·.size)
def Is(t:TypeId):Option Value:=cond (Nat.blt t P.types.size) ((P.info? t).bind (·.zero)) none
def agg?(t:TypeId):Option Bool:=(P.underlying t).map λd=>match d with| .struct _| .array _ _=>true|_=>false
def DI{α β:Type}(o:Option α)(f:α→Option β):Option β:=match o with|some a=>f a|none=>none
def MO(t:TypeId)(a:Addr)(W:CW):Option Value :=
 match W.obj a.block with
 | some (.cells c n z _)=>
  match agg? P t with
  |some true=>match EM P t with
   |some m=>cond (Nat.ble (a.off+m) n) (some (.agg (Bj c z m a.off).toArray)) none
   |none=>none
  |some false=>cond (Nat.blt a.off n) (some (cellAt c z a.off)) none
  |none=>none
 | some (.fixed f n _)=>
  match agg? P t with
  |some true=>match EM P t with
   |some m=>cond (Nat.ble (a.off+m) n) (some (.agg (Fx f m a.off).toArray)) none
   |none=>none
  |some false=>cond (Nat.blt a.off n) (some (f a.off)) none
  |none=>none
 |_=>none
def BJ:Value→Bool
 | .agg _| .tuple _=>false
 |_=>true
def L7(t:TypeId)(a:Addr)(v:Value)(W:CW):Option CW :=
 match W.obj a.block with
 | some (.cells c n z e)=>
  match v with
  | .agg cs=>match EM P t with
   |some m=>cond (Nat.beq cs.size m&&Nat.ble (a.off+m) n&&cs.toList.all BJ) (some (W.Ba a.block (.cells (c.AW a.off cs.toList) n z e))) none
   |none=>none
  | .tuple _=>none
  |v=>match EM P t with
   |some m=>cond (Nat.beq m 1&&Nat.blt a.off n) (some (W.Ba a.block (.cells (c.set a.off v) n z e))) none
   |none=>none
 |_=>none
def W_(t:TypeId)(v:Value)(W:CW):Value×CW :=
 (.pointer (some ⟨W.sz,0,none⟩),W.new (.cells (Tr.nil.AW 0 v.cells.toList) v.cells.size #[] t))
def P'(op:BinOp)(k:IntKind)(a b:Int):Option Value :=
 match op with
 | .add=>some (.int k (k.wrap (a+b)))
 | .sub=>some (.int k (k.wrap (a-b)))
 | .mul=>some (.int k (k.wrap (a*b)))
 | .quo=>cond (b==0) none (some (.int k (k.wrap (a.tdiv b))))
 | .rem=>cond (b==0) none (some (.int k (a.tmod b)))
 | .eql=>some (.bool (a==b))
 | .neq=>some (.bool (a !=b))
 | .lss=>some (.bool (a<b))
 | .leq=>some (.bool (a≤b))
 | .gtr=>some (.bool (a>b))
 | .geq=>some (.bool (a≥b))
 | .and=>some (.int k (k.wrap ((BitVec.ofInt k.bits a&&&BitVec.ofInt k.bits b).toNat)))
 | .or=>some (.int k (k.wrap ((BitVec.ofInt k.bits a|||BitVec.ofInt k.bits b).toNat)))
 | .xor=>some (.int k (k.wrap ((BitVec.ofInt k.bits a^^^BitVec.ofInt k.bits b).toNat)))
 | .andNot=>some (.int k (k.wrap ((BitVec.ofInt k.bits a&&& ~~~(BitVec.ofInt k.bits b)).toNat)))
 |_=>none
def ceq(d:TypeDesc)(x y:Value):Option Bool :=
 match d,x,y with
 | .bool,.bool a,.bool b=>some (a==b)
 | .pointer _,.pointer none,.pointer b=>some b.isNone
 | .pointer _,.pointer (some _),.pointer none=>some false
 | .interface _,.nilIface,.iface _ _=>some false
 | .interface _,.iface _ _,.nilIface=>some false
 | .slice _,.slice none _ _,.slice b _ _=>some b.isNone
 | .slice _,.slice (some _) _ _,.slice none _ _=>some false
 | .map _ _,.map none,.map b=>some b.isNone
 | .map _ _,.map (some _),.map none=>some false
 | .func _ _ _,.nilFunc,.nilFunc=>some true
 | .func _ _ _,.nilFunc,.func _ _ _=>some false
 | .func _ _ _,.func _ _ _,.nilFunc=>some false
 |_,_,_=>none
def Vu(t:TypeId)(cs:Array Value)(off:Nat):Option Value :=
 match agg? P t,EM P t with
 |some true,some m=>some (.agg (cs.extract off (off+m)))
 |some false,_=>cs[off]?
 |_,_=>none
def iu(eq:TypeId→Value→Value→Option Bool)(xs ys:Array Value):List Field→Option Bool
 |[]=>some true
 | f::fs=>cond (f.name == "_") (iu eq xs ys fs) (match Vu P f.type xs f.offset,Vu P f.type ys f.offset with
  |some u,some v=>match eq f.type u v with
   |some true=>iu eq xs ys fs
   |some false=>some false
   |none=>none
  |_,_=>none)
def qo(eq:Value→Value→Option Bool)(elem:TypeId)(n:Nat)(xs ys:Array Value):Nat→Nat→Option Bool
 |0,_=>some true
 | m+1,i=>match Vu P elem xs (i*n),Vu P elem ys (i*n)with
  |some u,some v=>match eq u v with
   |some true=>qo eq elem n xs ys m (i+1)
   |some false=>some false
   |none=>none
  |_,_=>none
def iv:Nat→TypeId→Value→Value→Option Bool
 |0,_,_,_=>none
 | n+1,t,x,y=>match P.underlying t with
  |none=>none
  | some d=>match d,x,y with
   | .struct fs,.agg xs,.agg ys=>cond (P.stoodInHeld t) none (iu P (iv n) xs ys fs.toList)
   | .array len elem,.agg xs,.agg ys=>match EM P elem with
    |some s=>qo P (iv n elem) elem s xs ys len 0
    |none=>none
   | .int _,.int k a,.int k' b=>cond (decide (k=k')) (some (a==b)) none
   | .string,.string a,.string b=>some (bA (sb a) (sb b))
   |d,x,y=>ceq d x y
def isConst:Operand→Bool
 | .const _=>true
 |_=>false
def DL(op:BinOp)(t:TypeId)(k:Bool)(x y:Value):Option Value :=
 match op,x,y with
 | .shl,.int k a,.int _ b=>cond (decide (b<0)) none (some (.int k (k.wrap (a*2^(min b.toNat k.bits)))))
 | .shr,.int k a,.int _ b=>cond (decide (b<0)) none (some (.int k (a.fdiv (2^(min b.toNat k.bits)))))
 |op,.int k a,.int k' b=>cond (decide (k=k')) (P' op k a b) none
 |op,.string a,.string b=>ADN op a b
 | .eql,.agg xs,.agg ys=>cond (P.eqGuardType P.depth t) none ((iv P 20 t (.agg xs) (.agg ys)).map .bool)
 | .neq,.agg xs,.agg ys=>cond (P.eqGuardType P.depth t) none ((iv P 20 t (.agg xs) (.agg ys)).map λb=>.bool (!b))
 | .eql,.nilIface,.nilIface=>match P.underlying t with|some (.interface _)=>cond k (some (.bool true)) none|_=>none
 | .neq,.nilIface,.nilIface=>match P.underlying t with|some (.interface _)=>cond k (some (.bool false)) none|_=>none
 | .eql,x,y=>match P.underlying t with|some d=>(ceq d x y).map .bool|none=>none
 | .neq,x,y=>match P.underlying t with|some d=>(ceq d x y).map λb=>.bool (!b)|none=>none
 |_,_,_=>none
def bound(x:Option Value)(AKj y:Nat):Option Nat :=
 match x with
 |some (.int _ i)=>cond (decide (0≤i)&&decide (i≤y)) (some i.toNat) none
 |some _=>none
 |none=>some AKj
def M_(W:CW)(a:Option Addr)(elem:TypeId):Bool :=
 match a with
 |none=>true
 |some a=>a.spot.isSome||match W.obj a.block with
  |some (.cells _ _ _ e)=>Nat.beq e elem
  |some (.fixed _ _ e)=>Nat.beq e elem
  |_=>false
def JD(W:CW)(t:TypeId)(x:Value)(lo hi mx:Option Value):Option Value :=
 match P.underlying t,x with
 | some (.slice elem),.slice a len cap=>DI (bound mx cap cap) λm=>DI (bound hi len m) λh=>DI (bound lo 0 h) λl=>
   cond (mx.isSome&&hi.isNone|| !Nat.ble h m|| !(mx.isSome||M_ W a elem)) none (DI (EM P elem) λs=>
   some (.slice (cond (Nat.beq m l) a (a.map λa=>⟨a.block,a.off+l*s,none⟩)) (h-l) (m-l)))
 | some (.array n elem),.pointer (some a)=>DI (bound mx n n) λm=>DI (bound hi n m) λh=>DI (bound lo 0 h) λl=>
   cond (mx.isSome&&hi.isNone|| !Nat.ble h m) none (DI (EM P elem) λs=>
   some (.slice (some (cond (Nat.beq m l) a ⟨a.block,a.off+l*s,none⟩)) (h-l) (m-l)))
 |_,_=>none
def K2:TypeDesc→Bool
 | .int _| .string| .bool=>true
 |_=>false
def Lf(v k:Value):Nat→List MapEntry→List MapEntry
 |_,[]=>[]
 |0,e::es=>{e with key:=k,val:=v}::es
 |i+1,e::es=>e::Lf v k i es
def NA:Nat→List MapEntry→List MapEntry
 |_,[]=>[]
 |0,_::es=>es
 |i+1,e::es=>e::NA i es
def Q_:Value→Value→Bool
 | .int j a,.int k b=>decide (j=k)&&decide (a=b)
 | .string a,.string b=>bA (sb a) (sb b)
 | .bool a,.bool b=>a==b
 |_,_=>false
def R7:List Value→List Value→Bool
 |[],[]=>true
 |x::xs,y::ys=>Q_ x y&&R7 xs ys
 |_,_=>false
def ew:Value→Value→Bool
 | .agg xs,.agg ys=>R7 xs.toList ys.toList
 |_,_=>false
def qp(t:TypeId)(k:Value):Bool :=
 match P.underlying t,k with
 | some (.struct fs),.agg cs=>!(P.stoodInHeld t) && fs.toList.all fun f=>!(f.name == "_") && (match P.underlying f.type with | some d=>K2 d | none=>false) && (Vu P f.type cs f.offset).isSome
 |_,_=>false
def iw(t:TypeId)(k:Value):List MapEntry→Nat→Option (Option (Nat×Value))
 |[],_=>some none
 |e::es,i=>match iv P 20 t k e.key with
  |some true=>cond (ew k e.key) (some (some (i,e.val))) none
  |some false=>iw t k es (i+1)
  |none=>none
def QJ(t:TypeId)(k:Value)(es:List MapEntry):Option (Option (Nat×Value)) :=
 match P.underlying t with
 |some d=>cond (K2 d) (MN d k es 0) (cond (qp P t k) (iw P t k es 0) none)
 |none=>none
def FV(b:Option Addr)(m:Nat)(W:CW):Option (List Value) :=
 match b with
 |none=>some []
 |some b=>cond (Nat.beq m 0) (some [])<|match W.obj b.block with
  |some (.cells c k z _)=>cond (Nat.ble (b.off+m) k) (some (Bj c z m b.off)) none
  |some (.fixed f k _)=>cond (Nat.ble (b.off+m) k) (some (Fx f m b.off)) none
  |_=>none
def bL(x:Value):Option Nat :=
 match x with
 | .slice _ n _=>some n
 | .string s=>some s.size
 |_=>none
def HI(x:Value)(n size:Nat)(W:CW):Option (List Value) :=
 match x with
 | .slice xb _ _=>FV xb (n*size) W
 | .string s=>cond (Nat.beq size 1) (some (Eu ((sb s).take n))) none
 |_=>none
def Fy (t:TypeId) (s x:Value) (W:CW):Option (Value×CW) :=
 match P.underlying t,s,bL x with
 | some (.slice elem),.slice base sLen sCap,some n=>
  DI (EM P elem) λsize=>DI (Is P elem) λz=>DI (HI x n size W) λnews=>
  cond (news.all BJ&&Nat.beq news.length (n*size)&&Nat.blt 0 size&&Nat.beq z.cells.size size&&Nat.ble (sLen+n) 1000000&&Nat.ble ((P.info? elem).map (·.bytes)|>.getD 2000) 1024)
   (cond (Nat.ble (sLen+n) sCap)
    (cond (Nat.beq n 0) (some (.slice base (sLen+n) sCap,W)) (match base with
     |none=>some (.slice none (sLen+n) sCap,W)
     |some a=>match W.obj a.block with
      | some (.cells c m z e)=>cond (Nat.ble (a.off+sLen*size+n*size) m)
        (some (.slice (some a) (sLen+n) sCap,W.Ba a.block (.cells (c.AW (a.off+sLen*size) news) m z e))) none
      |_=>none))
    (match base with
     |none=>cond (Nat.beq sLen 0) (some (.slice (some ⟨W.sz,0,none⟩) (sLen+n) (sLen+n),W.new (.cells (Tr.nil.AW 0 news) ((sLen+n)*size) #[] elem))) none
     |some a=>cond a.spot.isSome (cond (Nat.beq sLen 0&&Nat.beq sCap 0) (some (.slice (some ⟨W.sz,0,none⟩) (sLen+n) (sLen+n),W.new (.cells (Tr.nil.AW 0 news) ((sLen+n)*size) #[] elem))) none) (match W.obj a.block with
      | some (.cells c m z e)=>cond (Nat.ble (a.off+sLen*size) m&&Nat.beq e elem)
        (some (.slice (some ⟨W.sz,0,none⟩) (sLen+n) (sLen+n),(W.Ba a.block .dead).new (.cells (Tr.nil.AW 0 (Bj c z (sLen*size) a.off++news)) ((sLen+n)*size) #[] elem))) none
      |_=>none)))
   none
 |_,_,_=>none
def iy(t:TypeId)(d s:Value)(W:CW):Option (Value×CW) :=
 match P.underlying t,d,bL s with
 | some (.slice elem),.slice base iz _,some sLen=>
  DI (EM P elem) λsize=>DI (HI s (Nat.min sLen iz) size W) λnews=>
  cond (Nat.beq (Nat.min sLen iz) 0) (some (.int .i64 (Nat.min sLen iz),W)) (match base with
  |none=>none
  |some a=>match W.obj a.block with
   |some (.cells c m z e)=>cond (news.all BJ&&Nat.ble (a.off+news.length) m) (some (.int .i64 (Nat.min sLen iz),W.Ba a.block (.cells (c.AW a.off news) m z e))) none
   |_=>none)
 |_,_,_=>none
def YO(t:TypeId)(x:Value)(W:CW):Option CW :=
 match P.underlying t,x with
 |some (.map _ _),.map (some r)=>match W.obj r with
  |some (.map _ Fz)=>some (W.Ba r (.map [] Fz))
  |_=>none
 |some (.map _ _),.map none=>some W
 |some (.slice elem),.slice (some a) n _=>DI (EM P elem) λsize=>DI (Is P elem) λz0=>
  cond (Nat.beq n 0) (some W) (match W.obj a.block with
  | some (.cells c m z e)=>cond (Nat.ble (a.off+n*z0.cells.size) m&&z0.cells.toList.all BJ)
    (some (W.Ba a.block (.cells (c.AW a.off (Bj .nil z0.cells (n*z0.cells.size) 0)) m z e))) none
  |_=>none)
 |some (.slice _),.slice none _ _=>some W
 |_,_=>none
def It(t:TypeId)(x:Value)(W:CW):Option Value :=
 match P.underlying t,x with
 |some .string,.string s=>some (.int .i64 s.size)
 |some (.slice _),.slice _ n _=>some (.int .i64 n)
 |some (.map _ _),.map none=>some (.int .i64 0)
 |some (.map _ _),.map (some r)=>match W.obj r with
  |some (.map es _)=>some (.int .i64 es.length)
  |_=>none
 |_,_=>none
def R8(t:TypeId)(m k:Value)(W:CW):Option CW :=
 match P.underlying t,m with
 | some (.map kt _),.map (some r)=>match W.obj r with
  |some (.map es Fz)=>DI (QJ P kt k es) λf=>match f with
   |some (i,_)=>some (W.Ba r (.map (NA i es) Fz))
   |none=>some (W.Ba r (.map es Fz))
  |_=>none
 |_,_=>none
def II(t:TypeId):Bool :=
 match P.underlying t with
 |some (.int _)=>false
 |some _=>true
 |none=>false
def ADO(t:TypeId)(x:Value)(W:CW):Option Value :=
 match P.underlying t,x with
 |some (.slice _),.slice none _ c=>some (.int .i64 c)
 |some (.slice _),.slice (some a) _ c=>match W.obj a.block with
  |some (.cells _ _ z _)=>cond (Nat.beq z.size 0||Nat.beq c 0) none (some (.int .i64 c))
  |_=>none
 |_,_=>none
def K_(b:Builtin)(ts:List TypeId)(args:List Value)(W:CW):Option (B_×CW) :=
 match b,ts,args with
 | .len,t::_,[x]=>(It P t x W).map λv=>(.value v,W)
 | .cap,t::_,[x]=>(ADO P t x W).map λv=>(.value v,W)
 | .append,t::u::_,[s,x]=>cond (II P u) ((Fy P t s x W).map λ(v,W)=>(.value v,W)) none
 | .copy,t::_,[d,s]=>(iy P t d s W).map λ(v,W)=>(.value v,W)
 | .clear,t::_,[x]=>(YO P t x W).map λW=>(.value (.tuple #[]),W)
 | .delete,t::_,[m,k]=>(R8 P t m k W).map λW=>(.value (.tuple #[]),W)
 | .max,_,[.int k a,.int _ b]=>some (.value (.int k (cond (decide (b>a)) b a)),W)
 | .min,_,[.int k a,.int _ b]=>some (.value (.int k (cond (decide (b<a)) b a)),W)
 | .recover,_,[]=>some (.recover,W)
 |_,_,_=>none
def ABC(elem:TypeId)(s:ByteArray)(W:CW):Option (Value×CW) :=
 match P.underlying elem,EM P elem with
 |some (.int .u8),some 1=>some (.slice (some ⟨W.sz,0,none⟩) s.size s.size,W.new (.cells (Tr.nil.AW 0 (Eu (sb s))) s.size #[] elem))
 |_,_=>none
def xE(elem:TypeId)(x:Value)(W:CW):Option Value :=
 match P.underlying elem,x with
 |some (.int .u8),.slice b n _=>DI (FV b n W) λl=>DI (K1 l) λm=>some (.string ⟨m.toArray⟩)
 |_,_=>none
def KA(d:Value)(args:List Value):Option B_ :=
 match d with
 | .func (.func f) first cap=>some (.enter f (first.toList++args++cap.toList))
 | .func (.yield l) first _=>some (.round l (first.toList++args))
 |_=>none
def Lg(f:FuncId)(args:List Value)(W:CW):Option (Value×CW) :=
 match P.funcs[f]? with
 | some fn=>cond fn.body.isNone (cond (fn.name == "maps.clone") (match args with
  |[.iface t (.map (some r))]=>match W.obj r with
   |some (.map es Fz)=>some (.iface t (.map (some W.sz)),W.new (.map es Fz))
   |_=>none
  |_=>none) none) none
 |none=>none
def Vv(es:List MapEntry)(since:Nat)(seen:List Nat):List (Option MapEntry) :=
 let left:=es.filter λe=>!seen.contains e.born
 let old:=left.filter λe=>e.born<since
 let new:=left.filter λe=>!(e.born<since)
 (cond old.isEmpty [none] [])++(old++new).map some
def Bm (o:Oper)(e:Operand→Value)(W:CW):Option (List (B_×CW)) :=
 let v (x:Option Value):Option (List (B_×CW)):=match x with|some v=>some [(.value v,W)]|none=>none
 let vw (x:Option (Value×CW)):Option (List (B_×CW)):=match x with|some (v,W)=>some [(.value v,W)]|none=>none
 let sw (x:Option CW):Option (List (B_×CW)):=match x with|some W=>some [(.skip,W)]|none=>none
 match o.op with
 | .move x| .assign x=>some [(.value (e x),W)]
 | .pick c a b=>match e c with| .bool b0=>some [(.value (cond b0 (e a) (e b)),W)]|_=>none
 | .alloc t=>match Is P t with
  |some z=>match EM P t with
   |some _=>some [(.value (.pointer (some ⟨W.sz,0,none⟩)),W.new (.cells .nil z.cells.size z.cells t))]
   |none=>none
  |none=>none
 | .box t x=>match EM P t with
  |some _=>some [(.value (W_ t (e x) W).1,(W_ t (e x) W).2)]
  |none=>none
 | .build t parts=>v (match Is P t,P.underlying t with
  |some z,some (.struct fields)=>match fields.toList.mapM λf=>(EM P f.type).map λs=>(f.offset,s)with
   |some RA=>(Instr.fill (RA[·]?) z.cells (parts.toList.map λ(i,x)=>(i,e x))).map .agg
   |none=>none
  |some z,some (.array _ elem)=>match EM P elem with
   |some s=>(Instr.fill (λi=>some (i*s,s)) z.cells (parts.toList.map λ(i,x)=>(i,e x))).map .agg
   |none=>none
  |_,_=>none)
 | .buildSlice t len parts=>vw (match P.underlying t with
  | some (.slice elem)=>DI (EM P elem) λs=>DI (Is P elem) λz=>
   cond (Nat.ble (len*s) 65536&&Nat.beq z.cells.size s) (match Instr.fill (λi=>some (i*s,s)) ((Bj .nil z.cells (len*s) 0).toArray) (parts.toList.map λ(i,x)=>(i,e x))with
    |some cs=>some (.slice (some ⟨W.sz,0,none⟩) len len,W.new (.cells (Tr.nil.AW 0 cs.toList) cs.size #[] elem))
    |none=>none) none
  |_=>none)
 | .load t a=>v (match e a with| .pointer (some a)=>MO P t a W|_=>none)
 | .store t a x=>sw (match e a with| .pointer (some a)=>L7 P t a (e x) W|_=>none)
 | .nilCheck x=>v (match e x with
  | .pointer (some a)=>some (.pointer (some a))
  | .iface t v=>some (.iface t v)
  | .func (.func f) a b=>some (.func (.func f) a b)
  | .func (.yield f) a b=>some (.func (.yield f) a b)
  |_=>none)
 | .binOp op t x y _=>v (DL P op t (isConst x||isConst y) (e x) (e y))
 | .unOp .not _ x=>v (match e x with| .bool b=>some (.bool (!b))|_=>none)
 | .unOp .neg _ x=>v (match e x with| .int k n=>some (.int k (k.wrap (0-n)))|_=>none)
 | .convert src dst x=>match P.underlying src,P.underlying dst,e x with
  |some _,some (.int k),.int _ n=>some [(.value (.int k (k.wrap n)),W)]
  |some _,some .string,.string s=>some [(.value (.string s),W)]
  |some .string,some (.slice el),.string s=>vw (ABC P el s W)
  |some (.slice el),some .string,x=>v (xE P el x W)
  |_,_,_=>none
 | .makeInterface t x=>v (match P.underlying t with|some (.interface _)|none=>none|_=>some (.iface t (e x)))
 | .makeFunc fn first cap=>v (some (.func fn (first.map e) (cap.map e)))
 | .makeMap _ none=>some [(.value (.map (some W.sz)),W.new (.map [] 0))]
 | .makeSlice t l c=>vw (match P.underlying t,e l,e c with
  | some (.slice elem),.int _ l,.int _ c=>DI (EM P elem) λs=>DI (Is P elem) λz=>
   cond (decide (0≤l)&&decide (l≤c)&&decide (c≤2000000)&&Nat.ble ((P.info? elem).map (·.bytes)|>.getD 0) 1024&&Nat.beq z.cells.size s&&Nat.blt 0 s)
    (some (.slice (some ⟨W.sz,0,none⟩) l.toNat c.toNat,W.new (.cells .nil (c.toNat*s) z.cells elem))) none
  |_,_,_=>none)
 | .slice t x lo hi mx=>v (match P.underlying t,e x with
  |some .string,.string s=>DI (bound (hi.map e) s.size s.size) λh=>DI (bound (lo.map e) 0 h) λl=>cond mx.isSome none (some (.string (s.extract l h)))
  |_,x=>JD P W t x (lo.map e) (hi.map e) (mx.map e))
 | .fieldAddr s x f=>v (match P.underlying s,e x with
  | some (.struct fs),.pointer (some a)=>match fs[f]? with
   |some fd=>match EM P fd.type with
    |some m=>cond (Nat.beq m 0) none (some (.pointer (some ⟨a.block,a.off+fd.offset,none⟩)))
    |none=>none
   |none=>none
  |_,_=>none)
 | .field t x f=>v (match P.underlying t,e x with
  | some (.struct fs),.agg cs=>match fs[f]? with
   |some fd=>match agg? P fd.type,EM P fd.type with
    |some true,some m=>some (.agg (cs.extract fd.offset (fd.offset+m)))
    |some false,_=>cs[fd.offset]?
    |_,_=>none
   |none=>none
  |_,_=>none)
 | .indexAddr t x ix=>v (match e ix with
  | .int _ i=>match P.underlying t,e x with
   |some (.array len elem),.pointer (some a)=>DI (EM P elem) λs=>cond (decide (0≤i)&&decide (i<len)) (some (.pointer (some ⟨a.block,a.off+i.toNat*s,none⟩))) none
   |some (.slice elem),.slice (some a) len _=>DI (EM P elem) λs=>cond (decide (0≤i)&&decide (i<len)) (some (.pointer (some ⟨a.block,a.off+i.toNat*s,none⟩))) none
   |_,_=>none
  |_=>none)
 | .index t x ix=>v (match e ix with
  | .int _ i=>match P.underlying t,e x with
   |some (.array len elem),.agg cs=>cond (decide (0≤i)&&decide (i<len)) (match agg? P elem,EM P elem with
    |some true,some m=>some (.agg (cs.extract (i.toNat*m) (i.toNat*m+m)))
    |some false,some m=>cs[i.toNat*m]?
    |_,_=>none) none
   |some .string,.string s=>cond (decide (0≤i)) ((s[i.toNat]?).map λb=>.int .u8 b.toNat) none
   |_,_=>none
  |_=>none)
 | .lookup t x k ok=>v (match P.underlying t,e x with
  | some (.map kt elem),m=>DI (Is P elem) λz=>DI (match m with
    | .map none=>some []
    | .map (some r)=>match W.obj r with|some (.map es _)=>some es|_=>none
    |_=>none) λes=>DI (QJ P kt (e k) es) λr=>match r with
     |some (_,x)=>some (cond ok (.tuple #[x,.bool true]) x)
     |none=>some (cond ok (.tuple #[z,.bool false]) z)
  |_,_=>none)
 | .mapUpdate t m k x| .insert t m k x=>sw (match P.underlying t,e m with
  | some (.map kt _),.map (some r)=>match W.obj r with
   |some (.map es Fz)=>DI (QJ P kt (e k) es) λf=>match f with
    |some (i,_)=>some (W.Ba r (.map (Lf (e x) (e k) i es) Fz))
    |none=>some (W.Ba r (.map (es++[{key:=e k,val:=e x,born:=Fz}]) (Fz+1)))
   |_=>none
  |_,_=>none)
 | .range t x=>vw (match P.underlying t,e x with
  |some (.map _ _),.map none=>some (.pointer (some ⟨W.sz,0,none⟩),W.new (.iter none 0 [] 0))
  |some (.map _ _),.map (some r)=>match W.obj r with
   |some (.map _ Fz)=>some (.pointer (some ⟨W.sz,0,none⟩),W.new (.iter (some r) Fz [] Fz))
   |_=>none
  |_,_=>none)
 | .next it false=>match e it with
  | .pointer (some a)=>cond (!Nat.beq a.off 0) none<|match W.obj a.block with
   |some (.iter none _ _ _)=>some [(.value (.tuple #[.bool false]),W)]
   | some (.iter (some r) since seen last)=>match W.obj r with
    | some (.map es Fz)=>
     cond (!seen.isEmpty&& !es.isEmpty&&es.all λe=>!(e.born<last)) none
      (some ((Vv es since seen).map λc=>match c with
       |some en=>(.value (.tuple #[.bool true,en.key,en.val]),W.Ba a.block (.iter (some r) since (seen++[en.born]) Fz))
       |none=>(.value (.tuple #[.bool false]),W)))
    |_=>none
   |_=>none
  |_=>none
 | .entry it=>v (match e it with
  | .pointer (some a)=>cond (!Nat.beq a.off 0) none<|match W.obj a.block with
   |some (.iter (some r) _ seen XA)=>match seen.getLast?,W.obj r with
    |some st,some (.map es Fz)=>cond (Nat.beq Fz XA) ((es.find? λe=>Nat.beq e.born st).map λe=>.tuple #[e.key,e.val]) none
    |_,_=>none
   |_=>none
  |_=>none)
 | .typeAssert x _ t ok=>v (match P.underlying t,e x with
  |some (.interface _),_=>none
  |some _,.iface u y=>cond (Nat.beq t u) (some (cond ok (.tuple #[y,.bool true]) y)) (cond ok ((Is P t).map λz=>.tuple #[z,.bool false]) none)
  |_,_=>none)
 | .extract x i=>v (match e x with| .tuple vs=>vs[i]? |_=>none)
 | .call c=>match c.callee with
  | .value f=>match KA (e f) (c.args.toList.map e)with
   |some (.enter g as)=>match Lg P g as W with
    |some (v,W1)=>some [(.value v,W1)]
    |none=>some [(.enter g as,W)]
   |some n=>some [(n,W)]
   |none=>none
  | .builtin b=>match K_ P b c.argTypes.toList (c.args.toList.map e) W with|some r=>some [r]|none=>none
  |_=>none
 | .defer c=>match c.callee with
  | .value f=>match e f with
   | .func (.func g) first cap=>some [(.defer {target:=.fn (.func g) cap,args:=first++c.args.map e},W)]
   |_=>none
  |_=>none
 | .panic x=>match e x with| .iface t y=>some [(.panic (.iface t y),W)]|_=>none
 |_=>none
end
abbrev RB:=Option (List (Exit×AN×CW))
abbrev Ends:=Option (List (Ending×CW))
abbrev AGz:=Option (List (Ending×FrameMode×CW))
structure Dl where
 code:Option Nat→FuncId→Code→AN→CW→RB
 call:FuncId→List Value→CW→Ends
 round:Nat→List Value→CW→Ends
 IJ:FuncId→List Value→FrameMode→CW→AGz
 eqv:Value→Value→Bool
def Dl.base(eqv:Value→Value→Bool):Dl:=⟨λ_ _ _ _ _=>Option.none,λ_ _ _=>Option.none,λ_ _ _=>Option.none,λ_ _ _ _=>Option.none,eqv⟩
def R9{α β:Type}(f:α→Option (List β)):List α→Option (List β)
 |[]=>some []
 | x::xs=>match f x with
  |Option.none=>Option.none
  |some l=>match R9 f xs with
   |Option.none=>Option.none
   |some m=>some (l++m)
def EO{α β:Type}(o:Option (List α))(f:α→Option (List β)):Option (List β) :=
 match o with
 |Option.none=>Option.none
 |some l=>R9 f l
def L8(ops:Array Oper)(a:AN)(j:Nat):Option Bool :=
 match ops[j]? with
 | some o=>match o.dst with
  |some d=>match a.t.get d with
   |some (.bool b)=>some b
   |_=>none
  |none=>none
 |none=>none
def Du(ops:Array Oper)(o:Oper)(a:AN):Bool :=
 match o.guard with
 |none=>true
 |some (j,want)=>match L8 ops a j with
  |some b=>b==want
  |none=>false
section
variable (P:Program)
def iV(ops:Array Oper)(i:Nat):List Nat :=
 match ops[i]? with
 |some o=>(o.after.toList.filter (Region.binds .any)).map (·.on)
 |none=>[]
def ey(l:List Nat):List Nat→List Nat
 |[]=>l
 |x::xs=>ey (cond (l.any (Nat.beq x)) l (l++[x])) xs
def ABD(ops:Array Oper):Nat→List Nat→List Nat
 |0,l=>l
 |f+1,l=>let m:=ey l (l.flatMap (iV ops));cond (Nat.beq m.length l.length) l (ABD ops f m)
def G'(ops:Array Oper)(i:Nat):List Nat:=ABD ops ops.size (iV ops i)
def anc(ops:Array Oper)(i j:Nat):Bool:=(G' ops i).any (Nat.beq j)
def Dv(o:Oper):Bool :=
 match o.op with
 | .move _| .assign _| .pick .. | .build .. | .nilCheck _| .binOp .. | .unOp .. | .makeInterface .. | .makeFunc .. | .field .. | .fieldAddr .. | .indexAddr .. | .index .. | .typeAssert .. | .extract ..=>true
 | .convert s d _=>(match P.underlying s with|some (.slice _)=>false|_=>true)&&(match P.underlying d with|some (.slice _)=>false|_=>true)
 |_=>false
def EP(o:Oper):Bool :=
 match o.op with
 | .load .. | .slice .. | .lookup .. | .entry _=>true
 | .call c=>match c.callee with
  | .builtin .len=>true
  |_=>false
 | .convert s d _=>(match P.underlying s with|some (.slice _)=>true|_=>false)&&(match P.underlying d with|some .string=>true|_=>false)
 |_=>false
def ez(ops:Array Oper):Nat→Operand→Bool
 |n+1,.tmp t=>match ops.toList.find? (λo=>match o.dst with|some d=>Nat.beq d t|none=>false)with
  |some o=>Dv P o&&o.guard.isNone&&o.op.operands.toList.all (ez ops n)
  |none=>true
 |0,.tmp _=>false
 |_,_=>true
def floatKind(ops:Array Oper)(o:Oper):Bool :=
 match o.op,o.guard with
 | .alloc _,none=>true
 | .makeMap _ none,none=>true
 | .makeSlice _ l c,none=>ez P ops 6 l&&ez P ops 6 c
 |_,_=>false
def UP(o:Oper):Bool:=!(Dv P o||EP P o)
def Ho(ops:Array Oper):List Nat :=
 let n:=ops.size
 let ws:=(List.range n).filter λi=>match ops[i]? with|some o=>UP P o|none=>false
 ws.filter λi=>match ops[i]? with
  |some o=>floatKind P ops o&&ws.any λj=>!Nat.beq i j&& !anc ops i j&& !anc ops j i
  |none=>false
def C_(l:List Nat)(i:Nat):Bool:=l.any (Nat.beq i)
def Ju(ops:Array Oper):Bool :=
 let n:=ops.size
 let fl:=Ho P ops
 (List.range n).all λi=>match ops[i]? with
  | some oi=>
   let an:=G' ops i
   (iV ops i).all (λp=>Nat.blt p i)&&(List.range i).all λj=>C_ an j||(match ops[j]? with
    |some oj=>oj.apart ops oi&& !(UP P oi&&UP P oj&& !C_ fl i&& !C_ fl j)
    |none=>true)
  |none=>true
def e_:Nat→Value→Value→Bool
 |0,_,_=>false
 |n+1,v,w=>match v,w with
  | .bool a,.bool b=>a==b
  | .int j a,.int k b=>decide (j=k)&&a==b
  | .pointer none,.pointer none=>true
  | .pointer (some ⟨a,i,none⟩),.pointer (some ⟨b,j,none⟩)=>Nat.beq a b&&Nat.beq i j
  | .slice none n c,.slice none m d=>Nat.beq n m&&Nat.beq c d
  | .slice (some ⟨a,i,none⟩) n c,.slice (some ⟨b,j,none⟩) m d=>Nat.beq a b&&Nat.beq i j&&Nat.beq n m&&Nat.beq c d
  | .map none,.map none=>true
  | .map (some a),.map (some b)=>Nat.beq a b
  | .nilIface,.nilIface=>true
  | .nilFunc,.nilFunc=>true
  | .string a,.string b=>bA (sb a) (sb b)
  | .iface t v,.iface u w=>Nat.beq t u&&e_ n v w
  | .agg x,.agg y=>Nat.beq x.size y.size&&(x.toList.zip y.toList).all λ(v,w)=>e_ n v w
  | .tuple x,.tuple y=>Nat.beq x.size y.size&&(x.toList.zip y.toList).all λ(v,w)=>e_ n v w
  | .func (.func f) x x',.func (.func g) y y'=>Nat.beq f g&&Nat.beq x.size y.size&&Nat.beq x'.size y'.size&&(x.toList.zip y.toList).all (λ(v,w)=>e_ n v w)&&(x'.toList.zip y'.toList).all λ(v,w)=>e_ n v w
  |_,_=>false
def DW:Option BF→Option BF→Bool
 |some (.map [] 0),some (.map [] 0)=>true
 |some (.cells .nil n z e),some (.cells .nil m y f)=>Nat.beq n m&&Nat.beq e f&&Nat.beq z.size y.size&&(z.toList.zip y.toList).all λ(v,w)=>e_ 6 v w
 |_,_=>false
def ADP(xs ys:List Value):Bool:=Nat.beq xs.length ys.length&&(xs.zip ys).all λ(v,w)=>e_ 8 v w
def ADQ:Option Value→Option Value→Bool
 |none,none=>true
 |some v,some w=>e_ 8 v w
 |_,_=>false
def teq:Nat→Tr Value→Tr Value→Bool
 |_,.nil,.nil=>true
 |n+1,.node l v r,.node l' v' r'=>ADQ v v'&&teq n l l'&&teq n r r'
 |_,_,_=>false
def meq(a b:MapEntry):Bool:=e_ 8 a.key b.key&&e_ 8 a.val b.val&&Nat.beq a.born b.born
def ADR:BF→BF→Bool
 | .cells c n z e,.cells c' n' z' e'=>Nat.beq n n'&&Nat.beq e e'&&ADP z.toList z'.toList&&teq 30 c c'
 | .map es k,.map DO k'=>Nat.beq k k'&&Nat.beq es.length DO.length&&(es.zip DO).all λ(a,b)=>meq a b
 | .deferred,.deferred=>true
 |_,_=>false
def ACt:Option BF→Option BF→Option BF
 |some o,some o'=>cond (ADR o o') (some o) none
 |_,_=>none
def Vw:Nat→Tr BF→Tr BF→Tr BF
 |n+1,.node l v r,.node l' v' r'=>.node (Vw n l l') (ACt v v') (Vw n r r')
 |_,_,_=>.nil
def meet(W W':CW):CW:=⟨Vw 30 W.h W'.h,max W.sz W'.sz⟩
def LA:List (Ending×CW)→Option (Value×CW)
 |[(.returned v,W)]=>some (v,W)
 |(.returned v,W)::rest=>match LA rest with
  |some (u,W')=>cond (e_ 8 v u) (some (v,meet W W')) none
  |none=>none
 |_=>none
def merged(o:Ends):Ends :=
 match o with
 |some (x::y::l)=>match LA (x::y::l)with
  |some (v,W)=>some [(.returned v,W)]
  |none=>some (x::y::l)
 |o=>o
def GO(R:Dl)(ops:Array Oper):List Oper→AN→CW→RB
 |[],a,W=>some [(.normal,a,W)]
 |o::rest,a,W=>
  match Du ops o a with
  | true=>EO (Bm P o a.eval W) λ(n,W)=>match n with
    | .value v=>GO R ops rest (a.put o.dst v) W
    | .skip=>GO R ops rest (a.put o.dst undef) W
    | .defer d=>GO R ops rest ({a with defers:=d::a.defers}.put o.dst undef) W
    | .enter f args=>EO (R.call f args W) λ(e,W)=>match e with
     | .returned v=>GO R ops rest (a.put o.dst v) W
     | .panicked ch=>some [(.panic ch,a,W)]
     | .outgrown=>none
    | .round l args=>EO (R.round l args W) λ(e,W)=>match e with
     | .returned v=>GO R ops rest (a.put o.dst v) W
     | .panicked ch=>some [(.panic ch,a,W)]
     | .outgrown=>none
    | .recover=>none
    | .panic v=>some [(.panic [{v,recovered:=false}],a,W)]
  |false=>GO R ops rest (a.put o.dst undef) W
def Gf:Nat→Value→Bool
 |0,_=>false
 |n+1,v=>match v with
  | .bool _| .int _ _| .float _ _| .complex _ _ _| .string _| .pointer none| .slice none _ _| .map none| .chan none| .nilFunc| .nilIface=>true
  | .agg x=>x.toList.all (Gf n)
  | .tuple x=>x.toList.all (Gf n)
  | .iface _ v=>Gf n v
  |_=>false
def Av:Operand→Bool
 | .tmp _=>true
 | .const v=>Gf 8 v
 | .global _=>false
 | .func _=>true
def YP(o:Oper):Bool :=
 match o.op with
 | .move x| .assign x| .nilCheck x| .unOp _ _ x| .convert _ _ x| .makeInterface _ x| .field _ x _| .fieldAddr _ x _| .range _ x| .next x false| .entry x| .typeAssert x _ _ _| .extract x _| .panic x| .box _ x=>Av x
 | .load _ x=>Av x||(match x with| .global _=>true|_=>false)
 | .pick c a b=>Av c&&Av a&&Av b
 | .alloc _| .makeMap _ none=>true
 | .build _ ps| .buildSlice _ _ ps=>ps.toList.all λp=>Av p.2
 | .store _ a x=>Av a&&Av x
 | .binOp _ _ x y _| .makeSlice _ x y| .indexAddr _ x y| .index _ x y| .lookup _ x y _=>Av x&&Av y
 | .makeFunc (.func _) f c=>f.toList.all Av&&c.toList.all Av
 | .slice _ x l h m=>Av x&&l.all Av&&h.all Av&&m.all Av
 | .mapUpdate _ m k x| .insert _ m k x=>Av m&&Av k&&Av x
 | .call c=>c.args.toList.all Av&&(match c.callee with| .value f=>Av f| .builtin _=>true|_=>false)
 | .defer c=>c.args.toList.all Av&&(match c.callee with| .value f=>Av f|_=>false)
 |_=>false
def i_(nt:Nat)(o:Oper):Bool:=match o.dst with|some d=>Nat.blt d nt|none=>true
def R'(o:Oper):Bool:=match o.op with| .defer _=>false|_=>true
def R_(o:Oper):Bool:=match o.guard with
 |none=>true
 | some _=>match o.op with
  | .call c=>match c.callee with
   | .value (.func g)=>(P.funcs[g]?).isSome
   | .value _=>false
   |_=>true
  |_=>true
def MP(nt:Nat)(inR:Bool)(ops:List Oper):Bool:=ops.all λo=>(YP o&&R_ P o)&&i_ nt o&&(!inR||R' o)
def AG0(nt:Nat)(ps:Array Tmp):Bool:=ps.toList.all λp=>Nat.blt p nt
def codeOk(nt:Nat)(inR:Bool):Code→Bool
 | .skip| .label _| .exit _| .ret=>true
 | .region _ ops d=>MP P nt inR ops.toList&&(!d||Ju P ops)
 | .seq x y=>codeOk nt inR x&&codeOk nt inR y
 | .cond c x y=>Av c&&(codeOk nt inR x&&codeOk nt inR y)
 | .block _ b=>codeOk nt inR b
 | .scope b=>codeOk nt inR b
 | .loop b=>codeOk nt inR b
 | .rangeFunc f ps as bd=>Av f&&AG0 nt ps&&codeOk nt true as&&codeOk nt true bd
 |_=>false
structure F1 where
 a:AN
 W:CW
 ws:List (Nat×CW)
 rd:List (Nat×Oper×AN×Value)
def early(ops:Array Oper)(a:AN)(W:CW):Nat→Operand→Value
 |n+1,.tmp t=>match ops.toList.find? (λo=>match o.dst with|some d=>Nat.beq d t|none=>false)with
  |some o=>cond (Dv P o) ((Bm P o (early ops a W n) W).elim undef λl=>l.head?.elim undef λp=>match p.1 with| .value v=>v|_=>undef) undef
  |none=>a.eval (.tmp t)
 |_,x=>a.eval x
def YQ(ops:Array Oper)(a:AN)(W:CW)(o:Oper):Operand→Value :=
 match o.op with
 | .makeSlice _ _ _=>early P ops a W 6
 |_=>a.eval
def SA(o:Oper)(a:AN)(v:Value)(ob:Option BF):Bool :=
 match o.op with
 | .makeSlice _ _ _=>match v with
  | .slice (some b) _ _=>(Bm P o a.eval ⟨.nil,b.block⟩).any λl=>l.head?.any λp=>match p.1 with
   | .value u=>e_ 8 u v&&DW (p.2.obj b.block) ob
   |_=>false
  |_=>false
 |_=>true
def Jf(ops:Array Oper)(a:AN):List Nat→CW→Option (List (Nat×Value×Option BF)×CW)
 |[],W=>some ([],W)
 | i::is,W=>match ops[i]? with
  | some o=>match Bm P o (YQ P ops a W o) W with
   |some [(.value v,W1)]=>match Jf ops a is W1 with
    |some (l,W2)=>some ((i,v,W1.obj W.sz)::l,W2)
    |none=>none
   |_=>none
  |none=>none
def Ew(ops:Array Oper)(o:Oper)(a:AN):Option Bool :=
 match o.guard with
 |none=>some true
 |some (j,want)=>match L8 ops a j with
  |some b=>some (b==want)
  |none=>some false
def Bz(R:Dl)(ops:Array Oper)(fl:List (Nat×Value×Option BF))(i:Nat)(o:Oper)(s:F1):Option F1 :=
 match fl.find? λp=>Nat.beq p.1 i with
 |some (_,v,ob)=>cond (SA P o s.a v ob) (some {s with a:=s.a.put o.dst v}) none
 | none=>match Ew ops o s.a with
  |none=>none
  |some false=>some {s with a:=s.a.put o.dst undef}
  | some true=>
   cond (Dv P o) (match Bm P o s.a.eval s.W with
    |some [(.value v,_)]=>some {s with a:=s.a.put o.dst v}
    |_=>none)
   (cond (EP P o) (match Bm P o s.a.eval s.W with
    |some [(.value v,_)]=>some {s with a:=s.a.put o.dst v,rd:=(i,o,s.a,v)::s.rd}
    |_=>none)
   (match Bm P o s.a.eval s.W with
   |some [(.value v,W1)]=>some {s with a:=s.a.put o.dst v,W:=W1,ws:=(i,s.W)::s.ws}
   |some [(.skip,W1)]=>some {s with a:=s.a.put o.dst undef,W:=W1,ws:=(i,s.W)::s.ws}
   |some [(.enter f args,W1)]=>match merged (R.call f args W1)with
    |some [(.returned v,W2)]=>some {s with a:=s.a.put o.dst v,W:=W2,ws:=(i,s.W)::s.ws}
    |_=>none
   |some [(.round l args,W1)]=>match merged (R.round l args W1)with
    |some [(.returned v,W2)]=>some {s with a:=s.a.put o.dst v,W:=W2,ws:=(i,s.W)::s.ws}
    |_=>none
   |_=>none))
def Ey(R:Dl)(ops:Array Oper)(fl:List (Nat×Value×Option BF)):Nat→List Oper→F1→Option F1
 |_,[],s=>some s
 |i,o::rest,s=>match Bz P R ops fl i o s with
  |some s=>Ey R ops fl (i+1) rest s
  |none=>none
def Dm(F:Nat→Oper→F1→Option F1):Nat→List Oper→F1→Option F1
 |_,[],s=>some s
 |i,o::rest,s=>match F i o s with
  |some s=>Dm F (i+1) rest s
  |none=>none
def FR(R:Dl)(ops:Array Oper)(fl:List (Nat×Value×Option BF))(i:Nat)(o:Oper)(s:F1):Option (List PanicEntry×CW) :=
 match fl.find? λp=>Nat.beq p.1 i with
 |some _=>none
 | none=>match Ew ops o s.a with
  | some true=>cond (Dv P o) none (cond (EP P o) none (match Bm P o s.a.eval s.W with
   |some [(.enter f args,W1)]=>match R.call f args W1 with
    |some [(.panicked ch,W2)]=>some (ch,W2)
    |_=>none
   |some [(.round l args,W1)]=>match R.round l args W1 with
    |some [(.panicked ch,W2)]=>some (ch,W2)
    |_=>none
   |_=>none))
  |_=>none
def Ez(R:Dl)(ops:Array Oper)(fl:List (Nat×Value×Option BF)):Nat→List Oper→F1→Option (Nat×List PanicEntry×CW)
 |_,[],_=>none
 | i,o::rest,s=>match FR P R ops fl i o s with
  |some (ch,W)=>some (i,ch,W)
  |none=>match Bz P R ops fl i o s with
   |some s=>Ez R ops fl (i+1) rest s
   |none=>none
def N9(ops:Array Oper)(i0 i:Nat):Bool:=Nat.beq i i0||(Nat.blt i0 i&&C_ (G' ops i) i0)
theorem qq{ops:Array Oper}{i0 i:Nat}(h:i<i0):N9 ops i0 i=false:=by
 unfold N9
 have h1:Nat.beq i i0=false:=by
  cases hq:Nat.beq i i0 with
  |false=>rfl
  |true=>have:=aac hq;omega
 have h2:Nat.blt i0 i=false:=by
  cases hq:Nat.blt i0 i with
  |false=>rfl
  |true=>have:=aaj hq;omega
 rw[h1,h2];rfl
def Ix(R:Dl)(ops:Array Oper)(fl:List (Nat×Value×Option BF))(i0:Nat)(i:Nat)(o:Oper)(s:F1):Option F1 :=
 cond (N9 ops i0 i) (some {s with a:=s.a.put o.dst undef}) (Bz P R ops fl i o s)
def AN.bad(a:AN):AN:={a with t:=Tr.nil.set 0 (.complex .f64 0 0)}
def AN.Nu(a:AN):Bool:=match a.t.get 0 with
 |some (.complex .f64 _ _)=>true
 |_=>false
def Dw(ops:Array Oper)(i:Nat)(an:List Nat)(ok:CW→Bool):List (Nat×CW)→CW→Bool
 |[],W=>ok W
 |(j,Wj)::before,W=>
  (anc ops j i||ok W)&&cond (C_ an j) true (Dw ops i an ok before Wj)
def Jv(R:Dl)(ops:Array Oper)(a:AN)(W:CW):RB :=
 match Jf P ops a (Ho P ops) W with
 |none=>none
 | some (fl,W1)=>match Ey P R ops fl 0 ops.toList ⟨a,W1,[],[]⟩with
  | none=>match Ez P R ops fl 0 ops.toList ⟨a,W1,[],[]⟩with
   |none=>none
   | some (i0,ch,W2)=>match Dm (Ix P R ops fl i0) 0 ops.toList ⟨a,W1,[],[]⟩with
    |none=>none
    | some s=>cond (fl.isEmpty&&s.ws.all λx=>C_ (G' ops i0) x.1)
     (cond (s.rd.all λ(i,o,a,v)=>Dw ops i (G' ops i) (λW=>match Bm P o a.eval W with|some [(.value u,_)]=>R.eqv u v|_=>false) s.ws s.W)
      (some [(.panic ch,a.bad,W2)]) none) none
  | some s=>
   cond (s.rd.all λ(i,o,a,v)=>Dw ops i (G' ops i) (λW=>match Bm P o a.eval W with|some [(.value u,_)]=>R.eqv u v|_=>false) s.ws s.W)
    (cond (fl.all λ(i,v,ob)=>Dw ops i (G' ops i) (λW=>match v with| .pointer (some b)=>DW (W.obj b.block) ob| .map (some b)=>DW (W.obj b) ob| .slice (some b) _ _=>DW (W.obj b.block) ob|_=>false) s.ws s.W)
     (some [(.normal,s.a,s.W)]) none) none
def SB(o:RB)(f:AN→CW→RB):RB :=
 EO o λ(e,a,W)=>match e with
  | .normal=>f a W
  |e=>some [(e,a,W)]
def JV(a:AN)(W:CW):ResultVar→Option Value
 | .tmp t=>some (match a.t.get t with|some v=>v|none=>undef)
 | .cell s ty=>match a.t.get s with
  |some (.pointer (some p))=>MO P ty p W
  |_=>none
def Gg(fn:Func)(a:AN)(W:CW):Option Value :=
 match fn.results.toList.mapM (JV P a W)with
 |some [v]=>some v
 |some vs=>some (.tuple vs.toArray)
 |none=>none
def leaves(R:Dl)(fn:Func)(a:AN):List Deferred→FrameMode→CW→Ends
 |[],.returning,W=>match Gg P fn a W with
  |some v=>some [(.returned v,W)]
  |none=>none
 |[],.panicking ch,W=>some [(.panicked ch,W)]
 |[],.run,_=>none
 | d::ds,u,W=>match d.target with
  | .collected r=>match W.obj r with
   |some .deferred=>leaves R fn a ds u (W.Ba r .dead)
   |_=>none
  | .fn (.func f) cap=>EO (R.IJ f (d.args.toList++cap.toList) u W) λ(e,u,W)=>match e with
   | .returned _=>leaves R fn a ds (settle u) W
   |_=>none
  |_=>none
def Hj:List Deferred→List PanicEntry→CW→Ends
 |[],ch,W=>some [(.panicked ch,W)]
 | d::ds,ch,W=>match d.target with
  | .collected r=>match W.obj r with
   |some .deferred=>Hj ds ch (W.Ba r .dead)
   |_=>none
  |_=>none
def YR(ro:Option Nat)(W:CW):Option (Nat×List Deferred×CW) :=
 match ro with
 |some l=>match W.obj l with
  |some (.loop _ _ _ _ _ _ _ _ d)=>some (d,[],W)
  |_=>none
 |none=>some (W.sz,[{target:=.collected W.sz,args:=#[]}],W.new .deferred)
def CS (R:Dl)(ro:Option Nat)(fn:FuncId)(c:Code)(a:AN)(W:CW):RB :=
 match c with
 | .skip=>some [(.normal,a,W)]
 | .label _=>some [(.normal,a,W)]
 | .exit id=>some [(.exit id,a,W)]
 | .ret=>some [(.ret,a,W)]
 | .region _ ops false=>GO P R ops ops.toList a W
 | .region _ ops true=>Jv P R ops a W
 | .seq x y=>SB (R.code ro fn x a W) (R.code ro fn y)
 | .cond c x y=>match a.eval c with
  | .bool b=>R.code ro fn (cond b x y) a W
  |_=>none
 | .block id b=>EO (R.code ro fn b a W) λ(e,a,W)=>match e with
  | .exit Vx=>cond (Nat.beq Vx id) (some [(.normal,a,W)]) (some [(.exit Vx,a,W)])
  |e=>some [(e,a,W)]
 | .scope b=>R.code ro fn b a W
 | .loop b=>SB (R.code ro fn b a W) (R.code ro fn (.loop b))
 | .rangeFunc f ps assign body=>
  match YR ro W with
  |none=>none
  | some (dl,mark,W1)=>
   match KA (a.eval f) [.func (.yield W1.sz) #[] #[]]with
   | some (.enter g args)=>EO (R.call g args (W1.new (.loop .ready none fn a.t a.nt ps assign body dl))) λ(e,W3)=>match e with
    | .returned _=>match W3.obj W1.sz with
     | some (.loop st ER lf lt ln lp la lb ld)=>
      match st with
      | .busy=>none
      |_=>match ER with
       |none=>some [(.normal,{a with defers:=mark++a.defers},W3.Ba W1.sz (.loop .exhausted ER lf lt ln lp la lb ld))]
       |some .ret=>some [(.ret,{a with defers:=mark++a.defers},W3.Ba W1.sz (.loop .exhausted ER lf lt ln lp la lb ld))]
       |some (.exit id)=>some [(.exit id,{a with defers:=mark++a.defers},W3.Ba W1.sz (.loop .exhausted ER lf lt ln lp la lb ld))]
       |_=>none
     |_=>none
    | .panicked ch=>some [(.panic ch,{a with defers:=mark++a.defers},W3)]
    |_=>none
   |_=>none
 |_=>none
def DX(R:Dl)(ops:Array Oper):List Oper→AN→FrameMode→CW→Option (List (Exit×AN×FrameMode×CW))
 |[],a,u,W=>some [(.normal,a,u,W)]
 |o::rest,a,u,W=>
  match Du ops o a with
  | true=>EO (Bm P o a.eval W) λ(n,W)=>match n with
    | .value v=>DX R ops rest (a.put o.dst v) u W
    | .skip=>DX R ops rest (a.put o.dst undef) u W
    | .recover=>match u with
     | .panicking ({v,recovered:=false,goexit:=false}::cB)=>DX R ops rest (a.put o.dst v) (.panicking ({v,recovered:=true}::cB)) W
     |_=>DX R ops rest (a.put o.dst .nilIface) u W
    | .panic v=>some [(.panic [{v,recovered:=false}],a,u,W)]
    |_=>none
  |false=>DX R ops rest (a.put o.dst undef) u W
def Wg(R:Dl)(fn:FuncId):Code→AN→FrameMode→CW→Option (List (Exit×AN×FrameMode×CW))
 | .region _ ops false,a,u,W=>DX P R ops ops.toList a u W
 | .seq x y,a,u,W=>EO (Wg R fn x a u W) λ(e,a,u,W)=>match e with
  | .normal=>Wg R fn y a u W
  |e=>some [(e,a,u,W)]
 | .cond c x y,a,u,W=>match a.eval c with
  | .bool true=>Wg R fn x a u W
  | .bool false=>Wg R fn y a u W
  |_=>none
 |c,a,u,W=>EO (R.code none fn c a W) λ(e,a,W)=>some [(e,a,u,W)]
def YS(l:Nat)(j:Option Code)(W:CW):Ends :=
 match W.obj l with
 |some (.loop _ _ f t nt ps assign body ld)=>some [(.returned (.bool j.isNone),W.Ba l (.loop (match j with|none=>.ready|some _=>.done) j f t nt ps assign body ld))]
 |_=>none
def JE(fn:Func)(args:List Value):AN:=⟨Tr.nil.AW 0 args,fn.ntmps,[]⟩
def DY (L:List FuncId)(R:Dl):Dl where
 eqv:=R.eqv
 code:=CS P R
 call f args W:=cond (!C_ L f) none<|(λr=>cond (C_ L (f+2000000)&&args.isEmpty) (some [(.returned (.bool true),W)]) r)<|(λr=>cond (C_ L (f+1000000)) (merged r) r)<|
  match P.funcs[f]? with
  | some fn=>match fn.body with
   |some c=>cond (Nat.ble args.length fn.ntmps) (EO (R.code none f c (JE fn args) W) λ(e,a,W)=>
    match e with
    | .normal=>leaves P R fn a a.defers .returning W
    | .ret=>leaves P R fn a a.defers .returning W
    | .panic ch=>cond a.Nu (Hj a.defers ch W) (leaves P R fn a a.defers (.panicking ch) W)
    |_=>none) none
   |_=>none
  |_=>none
 IJ f args u W:=cond (!C_ L f) none<|
  match P.funcs[f]? with
  | some fn=>match fn.body with
   | some c=>cond (Nat.ble args.length fn.ntmps) (EO (Wg P R f c (JE fn args) u W) λ(e,a,u,W)=>
    cond a.defers.isEmpty (match e with
    | .normal=>match Gg P fn a W with
     |some v=>some [(.returned v,u,W)]
     |none=>none
    | .ret=>match Gg P fn a W with
     |some v=>some [(.returned v,u,W)]
     |none=>none
    |_=>none) none) none
   |_=>none
  |_=>none
 round l args W :=
  match W.obj l with
  | some (.loop .ready _ f t nt ps assign body _)=>
   cond (Nat.beq args.length ps.size) (EO (R.code (some l) f assign ⟨(ps.toList.zip args).foldl (λt (p:Tmp×Value)=>t.set p.1 p.2) t,nt,[]⟩ W) λ(e,a,W)=>match e with
    | .normal=>match W.obj l with
     | some (.loop .ready ER f t nt ps ABE AG1 ld)=>
      EO (R.code (some l) f body a (W.Ba l (.loop .busy ER f t nt ps ABE AG1 ld))) λ(e,a,W)=>match e with
       | .normal=>YS l none W
       | .ret=>YS l (some .ret) W
       | .exit id=>YS l (some (.exit id)) W
       | .panic ch=>cond a.defers.isEmpty (some [(.panicked ch,W)]) none
       |_=>none
     |_=>none
    |_=>none) none
  |_=>none
def evB(eqv:Value→Value→Bool)(L:List FuncId):Nat→Dl:=λn=>Nat.rec (Dl.base eqv) (λ_ ih=>DY P L ih) n
def bM(L:List FuncId):Nat→Dl:=evB P (e_ 8) L
def evR(L:List FuncId):Nat→Dl
 |0=>Dl.base (e_ 8)
 |n+1=>DY P L (evR L n)
def ep(L:List FuncId):Bool:=L.all λf=>match P.funcs[f]? with
 |some fn=>match fn.body with
  |some c=>codeOk P fn.ntmps false c
  |none=>true
 |none=>true
end
def W0(g:Nat):CW:=⟨.nil,g⟩
def eu:Ends→Bool
 |some l=>l.all λ(e,_)=>match e with| .returned (.bool true)=>true|_=>false
 |none=>false
@[noinline] def cnt(P:Program)(f:Nat)(L:List Nat:=List.range 300)(g:Nat:=0):String:=match(evR P L 6000).call f [] (W0 g)with
 | some l=>s!"outcomes {l.length}: "++String.join ((l.take 3).map fun (e,W)=>s!"blocks {W.sz} {match e with | .returned (.bool b) => toString b | .panicked _ => "pan" | _ => "?"}; ")
 | none=>"none"
end Go.Ce
namespace Go.Ce
open Go.RowKit (Below)
theorem Tr.get_nil{α:Type}(i:Nat):(Tr.nil:Tr α).get i=none:=rfl
theorem Tr.HJ{α:Type}(l:Tr α)(v:Option α)(r:Tr α)(i:Nat) :
  (Tr.node l v r).get i=if i=0 then v else if i%2=1 then l.get (i/2)else r.get (i/2-1):=by
 simp only[Tr.get,cond_eq_ite,abF]
theorem Tr.xF{α:Type}(f:Nat):∀(t:Tr α) (i:Nat) (x:α) (j:Nat),i<f→(Tr.ir f t i x).get j=if j=i then some x else t.get j:=by
 induction f with
 |zero=>intro t i x j h;omega
 | succ f ih=>
  intro t i x j h;have h1:i≠0→i/2<f:=by omega
  have h2:i≠0→i/2-1<f:=by omega
  cases t with
  | nil=>
   simp only[Tr.ir,cond_eq_ite,abF]
   by_cases hi:i=0
   ·subst hi;simp only[aar,Tr.HJ,Tr.get_nil]
    by_cases hj:j=0
    ·simp[hj]
    ·simp[hj]
   ·rw [aad hi]
    by_cases hm:i%2=1
    ·rw[aae hm,Tr.HJ,ih _ _ _ _ (h1 hi)]
     by_cases hj:j=0
     ·simp[hj,Tr.get_nil];omega
     ·rw[aad hj]
      by_cases Wh:j%2=1
      ·rw[aae Wh]
       by_cases e:j=i
       ·simp[e]
       ·rw[aad (by omega),aad e];rfl
      ·rw[aad Wh,aad (by omega)];rfl
    ·rw[aad hm,Tr.HJ,ih _ _ _ _ (h2 hi)]
     by_cases hj:j=0
     ·simp[hj,Tr.get_nil];omega
     ·rw[aad hj]
      by_cases Wh:j%2=1
      ·rw[aae Wh,aad (by omega)];rfl
      ·rw[aad Wh]
       by_cases e:j=i
       ·simp[e]
       ·rw[aad (by omega),aad e];rfl
  | node l v r=>
   simp only[Tr.ir,cond_eq_ite,abF]
   by_cases hi:i=0
   ·subst hi;simp only[aar,Tr.HJ]
    by_cases hj:j=0
    ·simp[hj]
    ·simp[hj]
   ·rw [aad hi]
    by_cases hm:i%2=1
    ·rw[aae hm,Tr.HJ,ih _ _ _ _ (h1 hi),Tr.HJ]
     by_cases hj:j=0
     ·simp[hj];omega
     ·rw[aad hj,aad hj]
      by_cases Wh:j%2=1
      ·rw[aae Wh,aae Wh]
       by_cases e:j=i
       ·simp[e]
       ·rw[aad (by omega),aad e]
      ·rw[aad Wh,aad Wh,aad (by omega)]
    ·rw[aad hm,Tr.HJ,ih _ _ _ _ (h2 hi),Tr.HJ]
     by_cases hj:j=0
     ·simp[hj];omega
     ·rw[aad hj,aad hj]
      by_cases Wh:j%2=1
      ·rw[aae Wh,aae Wh,aad (by omega)]
      ·rw[aad Wh,aad Wh]
       by_cases e:j=i
       ·simp[e]
       ·rw[aad (by omega),aad e]
theorem Tr.CI{α:Type}(t:Tr α)(i:Nat)(x:α)(j:Nat):(t.set i x).get j=if j=i then some x else t.get j :=
 Tr.xF _ _ _ _ _ (by omega)
theorem Tr.Lh{α:Type}(xs:List α):∀(t:Tr α) (k j:Nat),(t.AW k xs).get j=if k≤j∧j<k+xs.length then xs[j-k]? else t.get j:=by
 induction xs with
 |nil=>intro t k j;simp only[Tr.AW,abI,abc];rw[aad (by omega)]
 | cons x xs ih=>
  intro t k j;simp only[Tr.AW,ih,Tr.CI,aaw]
  by_cases h:k+1≤j∧j<k+1+xs.length
  ·rw[aae h,aae (by omega)];obtain⟨m,rfl⟩:∃m,j=k+(m+1):=⟨j-k-1,by omega⟩
   have e1:k+(m+1)-(k+1)=m:=by omega
   have e2:k+(m+1)-k=m+1:=by omega
   rw[e1,e2];rfl
  ·rw[aad h]
   by_cases e:j=k
   ·subst e;simp
   ·rw[aad e,aad (by omega)]
structure Info where
 b:Nat
 o:Nat
 sz:Nat
 n:Nat
 n':Nat
abbrev CJ:=Nat→Option Info
def Ext(ρ ρ':CJ):Prop:=∀i x,ρ i=some x→ρ' i=some x
theorem Ext.refl(ρ:CJ):Ext ρ ρ:=λ_ _ h=>h
theorem Ext.trans{ρ ρ' ρ'':CJ}(h:Ext ρ ρ')(k:Ext ρ' ρ''):Ext ρ ρ'':=λi x e=>k i x (h i x e)
def NB(ρ:CJ)(a a':Addr):Prop:=a.spot=none∧∃x,ρ a.block=some x∧a'=⟨x.b,a.off+x.o,none⟩
def OL(ρ:CJ)(r r':Nat):Prop:=∃x,ρ r=some x∧r'=x.b
def UQ(ρ:CJ)(a:Addr)(c c':Nat):Prop:=c'=c∨∃x,ρ a.block=some x∧0<x.sz∧a.off+c*x.sz=x.n∧a.off+x.o+c'*x.sz=x.n'∧c≤c'
inductive SC(ρ:CJ):Fn→Fn→Prop
 |func (f:FuncId):SC ρ (.func f) (.func f)
 |yield {l l':Nat}:OL ρ l l'→SC ρ (.yield l) (.yield l')
 |method (s:String):SC ρ (.method s) (.method s)
 |methodOf (t:TypeId) (s:String):SC ρ (.methodOf t s) (.methodOf t s)
 |via (t:TypeId) (p:Array FieldStep) (f:FuncId) (b:Bool):SC ρ (.via t p f b) (.via t p f b)
inductive AS(ρ:CJ):Value→Value→Prop
 |bool (b:Bool):AS ρ (.bool b) (.bool b)
 |int (k:IntKind) (n:Int):AS ρ (.int k n) (.int k n)
 |float (k:FloatKind) (n:Nat):AS ρ (.float k n) (.float k n)
 |complex (k:FloatKind) (n m:Nat):AS ρ (.complex k n m) (.complex k n m)
 |string (s:ByteArray):AS ρ (.string s) (.string s)
 |ADS:AS ρ (.pointer none) (.pointer none)
 |ptr {a a':Addr}:NB ρ a a'→AS ρ (.pointer (some a)) (.pointer (some a'))
 |jA (n c:Nat):AS ρ (.slice none n c) (.slice none n c)
 |slice {a a':Addr} (n:Nat) {c c':Nat}:NB ρ a a'→UQ ρ a c c'→AS ρ (.slice (some a) n c) (.slice (some a') n c')
 |KQ {a a':Addr}:a.spot=some 0→AS ρ (.slice (some a) 0 0) (.slice (some a') 0 0)
 |L9 {a a':Addr} {c':Nat} {x:Info}:a.spot=none→ρ a.block=some x→a'.block=x.b→a'.spot=none→(c'=0∨(0<x.sz∧a'.off+c'*x.sz=x.n'))→AS ρ (.slice (some a) 0 0) (.slice (some a') 0 c')
 |ADT:AS ρ (.map none) (.map none)
 |map {r r':Nat}:OL ρ r r'→AS ρ (.map (some r)) (.map (some r'))
 |ADU:AS ρ (.chan none) (.chan none)
 | func {f f':Fn} {x x' y y':Array Value}:SC ρ f f'→x.size=x'.size→(∀i,i<x.size→AS ρ (x.getD i undef) (x'.getD i undef))→
   y.size=y'.size→(∀i,i<y.size→AS ρ (y.getD i undef) (y'.getD i undef))→AS ρ (.func f x y) (.func f' x' y')
 |nilFunc:AS ρ .nilFunc .nilFunc
 |iface (t:TypeId) {v v':Value}:AS ρ v v'→AS ρ (.iface t v) (.iface t v')
 |nilIface:AS ρ .nilIface .nilIface
 |agg {x x':Array Value}:x.size=x'.size→(∀i,i<x.size→AS ρ (x.getD i undef) (x'.getD i undef))→AS ρ (.agg x) (.agg x')
 |tuple {x x':Array Value}:x.size=x'.size→(∀i,i<x.size→AS ρ (x.getD i undef) (x'.getD i undef))→AS ρ (.tuple x) (.tuple x')
theorem NB.mono{ρ ρ':CJ}{a a':Addr}(h:NB ρ a a')(e:Ext ρ ρ'):NB ρ' a a' :=
 ⟨h.1,let ⟨x,hx,h'⟩:=h.2;⟨x,e _ _ hx,h'⟩⟩
theorem OL.mono{ρ ρ':CJ}{a a':Nat}(h:OL ρ a a')(e:Ext ρ ρ'):OL ρ' a a':=let ⟨x,hx,h'⟩:=h;⟨x,e _ _ hx,h'⟩
theorem UQ.mono{ρ ρ':CJ}{a:Addr}{c c':Nat}(h:UQ ρ a c c')(e:Ext ρ ρ'):UQ ρ' a c c' :=
 h.imp id λ⟨x,hx,h'⟩=>⟨x,e _ _ hx,h'⟩
theorem SC.mono{ρ ρ':CJ}{f f':Fn}(h:SC ρ f f')(e:Ext ρ ρ'):SC ρ' f f':=by
 cases h with
 |yield h=>exact .yield (h.mono e)
 |func f=>exact .func f
 |method s=>exact .method s
 |methodOf t s=>exact .methodOf t s
 |via t p f b=>exact .via t p f b
theorem AS.mono{ρ ρ':CJ}{v v':Value}(h:AS ρ v v')(e:Ext ρ ρ'):AS ρ' v v':=by
 induction h with
 |bool b=>exact .bool b
 |int k n=>exact .int k n
 |float k n=>exact .float k n
 |complex k n m=>exact .complex k n m
 |string s=>exact .string s
 |ADS=>exact .ADS
 |ptr h=>exact .ptr (h.mono e)
 |jA n c=>exact .jA n c
 |slice n h h'=>exact .slice n (h.mono e) (h'.mono e)
 |KQ a=>exact .KQ a
 |L9 q a b c d=>exact .L9 q (e _ _ a) b c d
 |ADT=>exact .ADT
 |map h=>exact .map (h.mono e)
 |ADU=>exact .ADU
 |func hf hx _ hy _ bN bO=>exact .func (hf.mono e) hx bN hy bO
 |nilFunc=>exact .nilFunc
 |iface t _ ih=>exact .iface t ih
 |nilIface=>exact .nilIface
 |agg hx _ ih=>exact .agg hx ih
 |tuple hx _ ih=>exact .tuple hx ih
theorem AS.undef(ρ:CJ):AS ρ undef undef:=.tuple rfl λi h=>by simp at h
theorem AS.SD(ρ:CJ):∀(n:Nat) (v:Value),Gf n v=true→AS ρ v v:=by
 intro n
 induction n with
 |zero=>intro v h;simp[Gf]at h
 | succ n ih=>
  intro v h
  have all:∀x:Array Value,x.toList.all (Gf n)=true→∀i,i<x.size→AS ρ (x.getD i Go.undef) (x.getD i Go.undef):=by
   intro x hx i hi;rw[aax]at hx;have e:x.getD i Go.undef=x[i]:=by simp[Array.getD,hi]
   rw[e];exact ih _ (hx _ (by simp))
  cases v with
  |bool b=>exact .bool b
  |int k m=>exact .int k m
  |float k m=>exact .float k m
  |complex k m l=>exact .complex k m l
  |string s=>exact .string s
  |pointer a=>cases a with
   |none=>exact .ADS
   |some a=>simp[Gf]at h
  |slice a l c=>cases a with
   |none=>exact .jA l c
   |some a=>simp[Gf]at h
  |map r=>cases r with
   |none=>exact .ADT
   |some a=>simp[Gf]at h
  |chan r=>cases r with
   |none=>exact .ADU
   |some a=>simp[Gf]at h
  |func f x y=>simp[Gf]at h
  |nilFunc=>exact .nilFunc
  |iface t v=>exact .iface t (ih v (by simpa only[Gf]using h))
  |nilIface=>exact .nilIface
  |agg x=>exact .agg rfl (all x (by simpa only[Gf]using h))
  |tuple x=>exact .tuple rfl (all x (by simpa only[Gf]using h))
theorem AS.one{ρ:CJ}{v v':Value}(h:AS ρ v v'):BJ v'=BJ v:=by cases h<;>rfl
def A4(ρ:CJ)(xs ys:List Value):Prop:=xs.length=ys.length∧∀i,i<xs.length→AS ρ (xs.getD i undef) (ys.getD i undef)
theorem A4.nil(ρ:CJ):A4 ρ [] []:=⟨rfl,λi h=>by simp at h⟩
theorem A4.cons{ρ:CJ}{x y:Value}{xs ys:List Value}(h:AS ρ x y)(k:A4 ρ xs ys):A4 ρ (x::xs) (y::ys) :=
 ⟨by simp[k.1],λi hi=>by
  cases i with
  |zero=>exact h
  |succ i=>exact k.2 i (by simpa using hi)⟩
theorem A4.head{ρ:CJ}{x y:Value}{xs ys:List Value}(h:A4 ρ (x::xs) (y::ys)):AS ρ x y:=h.2 0 (by simp)
theorem A4.tail{ρ:CJ}{x y:Value}{xs ys:List Value}(h:A4 ρ (x::xs) (y::ys)):A4 ρ xs ys :=
 ⟨by simpa using h.1,λi hi=>h.2 (i+1) (by simpa using hi)⟩
theorem A4.mono{ρ ρ':CJ}{xs ys:List Value}(h:A4 ρ xs ys)(e:Ext ρ ρ'):A4 ρ' xs ys:=⟨h.1,λi hi=>(h.2 i hi).mono e⟩
theorem A4.append{ρ:CJ}{xs ys Rx XB:List Value}(h:A4 ρ xs ys)(k:A4 ρ Rx XB):A4 ρ (xs++Rx) (ys++XB):=by
 induction xs generalizing ys with
 |nil=>cases ys with
  |nil=>exact k
  |cons y ys=>simpa using h.1
 |cons x xs ih=>cases ys with
  |nil=>simpa using h.1
  |cons y ys=>exact .cons h.head (ih h.tail)
theorem A4.map{ρ:CJ}{α:Type}(xs:List α)(f g:α→Value)(h:∀x,x∈xs→AS ρ (f x) (g x)):A4 ρ (xs.map f) (xs.map g):=by
 induction xs with
 |nil=>exact .nil ρ
 |cons x xs ih=>exact .cons (h x (by simp)) (ih λy hy=>h y (by simp[hy]))
theorem A4.get{ρ:CJ}{xs ys:List Value}(h:A4 ρ xs ys){i:Nat}{x:Value}(hx:xs[i]?=some x):∃y,ys[i]?=some y∧AS ρ x y:=by
 obtain⟨hi,e⟩:=dx.1 hx;have LB:i<ys.length:=h.1▸hi;refine⟨ys[i],by simp[LB],?_⟩;have:=h.2 i hi;simp only[aah,hx,ck LB,aaX]at this;exact this
theorem A4.arr{ρ:CJ}{x x':Array Value}:A4 ρ x.toList x'.toList↔(x.size=x'.size∧∀i,i<x.size→AS ρ (x.getD i undef) (x'.getD i undef)):=by
 unfold A4;simp only[abP,aal,aah,abj]
theorem AS.jB{ρ:CJ}{x x':Array Value}(h:A4 ρ x.toList x'.toList):AS ρ (.agg x) (.agg x'):=.agg (A4.arr.1 h).1 (A4.arr.1 h).2
theorem AS.tuple'{ρ:CJ}{x x':Array Value}(h:A4 ρ x.toList x'.toList):AS ρ (.tuple x) (.tuple x'):=.tuple (A4.arr.1 h).1 (A4.arr.1 h).2
theorem AS.Gw{ρ:CJ}{x:Array Value}{v:Value}(h:AS ρ (.agg x) v):∃x',v=.agg x'∧A4 ρ x.toList x'.toList:=by
 cases h with|agg e k=>exact⟨_,rfl,A4.arr.2 ⟨e,k⟩⟩
theorem AS.tG{ρ:CJ}{x:Array Value}{v:Value}(h:AS ρ (.tuple x) v):∃x',v=.tuple x'∧A4 ρ x.toList x'.toList:=by
 cases h with|tuple e k=>exact⟨_,rfl,A4.arr.2 ⟨e,k⟩⟩
theorem AS.cells{ρ:CJ}{v v':Value}(h:AS ρ v v'):A4 ρ v.cells.toList v'.cells.toList:=by
 cases h<;>first
  |exact .cons (by first|(constructor<;>assumption)|(apply AS.L9<;>assumption)|(apply AS.KQ<;>assumption)) (.nil ρ)
  |(rename_i e k;exact A4.arr.2 ⟨e,k⟩)
inductive fA(ρ:CJ):MapEntry→MapEntry→Prop
 |mk {k v k' v':Value} (b:Nat):AS ρ k k'→AS ρ v v'→fA ρ ⟨k,v,b⟩ ⟨k',v',b⟩
def C0(ρ:CJ):List MapEntry→List MapEntry→Prop
 |[],[]=>True
 |e::es,e'::DO=>fA ρ e e'∧C0 ρ es DO
 |_,_=>False
theorem fA.mono{ρ ρ':CJ}{e e':MapEntry}(h:fA ρ e e')(x:Ext ρ ρ'):fA ρ' e e':=by
 cases h with|mk b hk hv=>exact .mk b (hk.mono x) (hv.mono x)
theorem C0.mono{ρ ρ':CJ}(x:Ext ρ ρ'):∀{es DO:List MapEntry},C0 ρ es DO→C0 ρ' es DO
 |[],[],_=>trivial
 |_::_,_::_,h=>⟨h.1.mono x,C0.mono x h.2⟩
 |[],_::_,h=>h.elim
 |_::_,[],h=>h.elim
def NF(fr:Nat×Nat)(n:Nat):Prop:=∀k,k<n→(decide (fr.1≤k)&&decide (k<fr.2))=false
theorem NF.zero(n:Nat):NF (0,0) n:=λk _=>by simp
inductive Jw(P:Program)(ρ:CJ)(x:Info):BF→Obj→Prop
 | cells {c:Tr Value} {z:Array Value} {e:TypeId} {c':Array Value} {fr:Nat×Nat}:(P.info? e).map (·.size)=some x.sz→c'.size=x.n'→x.o+x.n≤x.n'→
   (∀k,k<x.n→AS ρ (cellAt c z k) (c'.getD (k+x.o) undef))→(NF fr c'.size∧(z.size≠0→x.o=0∧x.n=x.n'))→Jw P ρ x (.cells c x.n z e) (.cells c' e fr)
 | fixed {f:Nat→Value} {e e':TypeId} {c':Array Value} {fr:Nat×Nat}:(P.info? e).map (·.size)=some x.sz→c'.size=x.n'→x.o+x.n≤x.n'→
   (∀k,k<x.n→AS ρ (f k) (c'.getD (k+x.o) undef))→Jw P ρ x (.fixed f x.n e) (.cells c' e' fr)
 |map {es:List MapEntry} {DO:Array MapEntry} {Fz:Nat}:x.o=0→C0 ρ es DO.toList→Jw P ρ x (.map es Fz) (.map DO Fz)
 |SE {s l:Nat} {seen:List Nat} {AG2:Array Nat}:x.o=0→Jw P ρ x (.iter none s seen l) (.mapIter none s AG2 l)
 |iter {m m' s l:Nat} {seen:List Nat}:x.o=0→OL ρ m m'→Jw P ρ x (.iter (some m) s seen l) (.mapIter (some m') s seen.toArray l)
 | loop {st:LoopState} {pd:Option Code} {f f':FuncId} {t:Tr Value} {t':Array Value} {ps:Array Tmp} {as bd:Code} {d d':Nat} :
   (∀i,AS ρ ((t.get i).getD undef) (t'.getD i undef))→OL ρ d d'→(AG0 t'.size ps=true∧codeOk P t'.size true as=true∧codeOk P t'.size true bd=true)→(∃fn,P.funcs[f']?=some fn)→
   Jw P ρ x (.loop st pd f t t'.size ps as bd d) (.loop {state:=st,pending:=pd,fn:=f',tmps:=t',params:=ps,assign:=as,body:=bd,defers:=d'})
 |deferred:Jw P ρ x .deferred (.deferred (some []))
theorem Jw.mono{P:Program}{ρ ρ':CJ}{x:Info}{o:BF}{o':Obj}(h:Jw P ρ x o o')(e:Ext ρ ρ'):Jw P ρ' x o o':=by
 cases h with
 |cells a b c d q=>exact .cells a b c (λk hk=>(d k hk).mono e) q
 |fixed a b c d=>exact .fixed a b c λk hk=>(d k hk).mono e
 |map a b=>exact .map a (b.mono e)
 |SE a=>exact .SE a
 |iter a b=>exact .iter a (b.mono e)
 |loop a b c d=>exact .loop (λi=>(a i).mono e) (b.mono e) c d
 |deferred=>exact .deferred
structure Aa(P:Program)(w0:World)(ρ:CJ)(W:CW)(w:World):Prop where
 Wi:∀i x,ρ i=some x→i<W.sz
 top:∀i o,W.h.get i=some o→i<W.sz
 live:∀i o x,W.h.get i=some o→o≠.dead→ρ i=some x→∃o',w.heap[x.b]?=some o'∧Jw P ρ x o o'∧(o.mut=true→w0.heap.size≤x.b)∧(o.mut=false→x.b<w0.heap.size)
 inj:∀i j o u x y,W.h.get i=some o→o.mut=true→W.h.get j=some u→u.mut=true→ρ i=some x→ρ j=some y→x.b=y.b→i=j
 below:Below w0.heap.size w0 w
section
variable {P:Program}{w0:World}{ρ:CJ}{W:CW}{w:World}
theorem Aa.drew(h:Aa P w0 ρ W w)(n:Nat):Aa P w0 ρ W {w with drawn:=n} :=
 ⟨h.Wi,h.top,h.live,h.inj,⟨h.below.os,h.below.tape,h.below.output,h.below.size,h.below.block⟩⟩
theorem Aa.obj(h:Aa P w0 ρ W w){i:Nat}{o:BF}(ho:W.obj i=some o)(hd:o≠.dead){a':Nat}{x:Info}(hx:ρ i=some x)(hb:a'=x.b) :
  ∃o',w.heap[a']?=some o'∧Jw P ρ x o o':=by
 obtain⟨o',Jx,hr,_⟩:=h.live i o x ho hd hx;subst hb;exact⟨o',Jx,hr⟩
def FP(W:CW)(ρ:CJ)(W1:CW)(ρ':CJ):Prop:=Ext ρ ρ'∧(∀i,i<W.sz→ρ' i=ρ i)∧W.sz≤W1.sz
theorem FP.refl{W W1:CW}(ρ:CJ)(h:W.sz≤W1.sz:=by exact aag _):FP W ρ W1 ρ:=⟨Ext.refl ρ,λ_ _=>rfl,h⟩
theorem FP.ext{W W1:CW}{ρ ρ':CJ}(h:FP W ρ W1 ρ'):Ext ρ ρ':=h.1
theorem FP.trans{W W1 W2:CW}{ρ ρ' ρ'':CJ}(h:FP W ρ W1 ρ')(k:FP W1 ρ' W2 ρ''):FP W ρ W2 ρ'' :=
 ⟨h.1.trans k.1,λi hi=>by rw[k.2.1 i (abz hi h.2.2),h.2.1 i hi],aa5 h.2.2 k.2.2⟩
theorem BF.JG{o:BF}(h:o.mut=true):o≠.dead:=by rintro rfl;cases h
theorem Aa.new(h:Aa P w0 ρ W w){o:BF}{o':Obj}(x:Info)(hb:x.b=w.heap.size)
  (hr:Jw P (λi=>if i=W.sz then some x else ρ i) x o o') (hm:o.mut=true:=by rfl) :
  FP W ρ (W.new o) (λi=>if i=W.sz then some x else ρ i)∧Aa P w0 (λi=>if i=W.sz then some x else ρ i) (W.new o) {w with heap:=w.heap.push o'}:=by
 have Dy:Ext ρ (λi=>if i=W.sz then some x else ρ i):=λi y hy=>by
  have:=h.Wi i y hy;show(if i=W.sz then some x else ρ i)=some y;rw[aad (by omega)];exact hy
 have hw0:w0.heap.size≤w.heap.size:=h.below.size
 have hold:∀i u y,W.h.get i=some u→u≠.dead→ρ i=some y→y.b<w.heap.size:=λi u y hu hd hy=>by
  obtain⟨o',Jx,_,_⟩:=h.live i u y hu hd hy;exact(aao.1 Jx).1
 refine⟨⟨Dy,λi hi=>by show(if i=W.sz then some x else ρ i)=ρ i;rw[aad (by omega)],Nat.le_succ _⟩,?_,?_,?_,?_,?_⟩
 ·intro i y hy;show i<W.sz+1
  by_cases e:i=W.sz
  ·omega
  ·have:ρ i=some y:=by simpa[e]using hy
   have:=h.Wi i y this;omega
 ·intro i u hu;show i<W.sz+1;simp only[CW.new,Tr.CI]at hu
  split at hu
  ·omega
  ·have:=h.top i u hu;omega
 ·intro i u y hu hd hy;simp only[CW.new,Tr.CI]at hu
  split at hu
  ·rename_i e
   cases hu
   have hy:some x=some y:=by simpa[e]using hy
   cases hy
   refine⟨o',?_,hr,λ_=>by omega,λhf=>by rw[hm]at hf;cases hf⟩;show(w.heap.push o')[x.b]?=_;rw[hb];simp
  ·rename_i e;have hy:ρ i=some y:=by simpa[e]using hy
   obtain⟨u',YT,hru,mb⟩:=h.live i u y hu hd hy;refine⟨u',?_,hru.mono Dy,mb⟩;have Ad:=(aao.1 YT).1;show(w.heap.push o')[y.b]?=_;rw[acC,aad (by omega)];exact YT
 ·intro i j u v y z hu wY hv OD hy hz xG;simp only[CW.new,Tr.CI]at hu hv
  by_cases ei:i=W.sz
  ·by_cases ej:j=W.sz
   ·omega
   ·simp only[aad ej]at hv hz;simp only[aae ei,aam]at hy;have Ad:=hold j v z hv (BF.JG OD) hz;subst hy;omega
  ·simp only[aad ei]at hu hy
   by_cases ej:j=W.sz
   ·simp only[aae ej,aam]at hz;have Ad:=hold i u y hu (BF.JG wY) hy;subst hz;omega
   ·simp only[aad ej]at hv hz;exact h.inj i j u v y z hu wY hv OD hy hz xG
 ·exact⟨h.below.os,h.below.tape,h.below.output,by show w0.heap.size≤(w.heap.push o').size;rw[Array.size_push];omega,λk hk=>by
   show(w.heap.push o')[k]?=_
   rw[acC,aad (by omega)];exact h.below.block k hk⟩
theorem Aa.Ba(h:Aa P w0 ρ W w){i:Nat}{o u:BF}{u':Obj}{x:Info}(ho:W.obj i=some o)(hd:o.mut=true)(hx:ρ i=some x)
  (hr:Jw P ρ x u u') (hm:u.mut=true:=by rfl):Aa P w0 ρ (W.Ba i u) {w with heap:=w.heap.setIfInBounds x.b u'}:=by
 obtain⟨o',Jx,_,mb,_⟩:=h.live i o x ho (BF.JG hd) hx;have mb:=mb hd;have Ad:=(aao.1 Jx).1;have hi:=h.top i o ho
 refine⟨h.Wi,?_,?_,?_,?_⟩
 ·intro j v hv;simp only[CW.Ba,Tr.CI]at hv
  split at hv
  ·show j<W.sz;omega
  ·exact h.top j v hv
 ·intro j v y hv OD hy;simp only[CW.Ba,Tr.CI]at hv
  split at hv
  ·rename_i e
   cases hv;subst e
   rw[hx]at hy;cases hy;refine⟨u',?_,hr,λ_=>mb,λhf=>by rw[hm]at hf;cases hf⟩;show(w.heap.setIfInBounds x.b u')[x.b]?=_;simp[Ad]
  ·rename_i e;obtain⟨v',ID,hrv,wZ⟩:=h.live j v y hv OD hy;refine⟨v',?_,hrv,wZ⟩
   have D3:x.b≠y.b:=λhb=>by
    cases bB:v.mut with
    |true=>exact e (h.inj j i v o y x hv bB ho hd hy hx hb.symm)
    |false=>have:=wZ.2 bB;omega
   show(w.heap.setIfInBounds x.b u')[y.b]?=_;rw[aa8 D3];exact ID
 ·intro j k v v' y z hv OD ID jC hy hz xG
  have get:∀j v,(W.Ba i u).h.get j=some v→v.mut=true→∃v0,W.h.get j=some v0∧v0.mut=true:=λj v hv OD=>by
   simp only[CW.Ba,Tr.CI]at hv
   split at hv
   ·rename_i e;subst e;exact⟨o,ho,hd⟩
   ·exact⟨v,hv,OD⟩
  obtain⟨a,ha,had⟩:=get j v hv OD;obtain⟨b,hb,PM⟩:=get k v' ID jC;exact h.inj j k a b y z ha had hb PM hy hz xG
 ·exact⟨h.below.os,h.below.tape,h.below.output,by show w0.heap.size≤(w.heap.setIfInBounds x.b u').size;rw[abG];exact h.below.size,λk hk=>by
   show(w.heap.setIfInBounds x.b u')[k]?=_
   rw[aa8 (by omega)];exact h.below.block k hk⟩
end
section
variable {P:Program}{w:World}{b:Nat}{c:Array Value}{e:TypeId}{fr:Nat×Nat}
theorem cell_of(hb:w.heap[b]?=some (.cells c e fr))(off:Nat):w.cell? ⟨b,off,none⟩=c[off]?:=by
 simp[World.cell?,hb]
theorem tH(hb:w.heap[b]?=some (.cells c e fr))(hf:NF fr c.size)(off:Nat)(h:off<c.size):w.frozen? ⟨b,off,none⟩=false:=by
 simp only[World.frozen?,hb];exact hf off h
theorem nD(hb:w.heap[b]?=some (.cells c e fr))(off:Nat)(v:Value) :
  w.setCell ⟨b,off,none⟩ v={w with heap:=w.heap.setIfInBounds b (.cells (c.setIfInBounds off v) e fr)}:=by
 have Ad:=(aao.1 hb).1;have hv:=(aao.1 hb).2;simp only[World.setCell,World.mk.injEq,and_self,and_true];apply Array.ext_getElem?;intro i;rw[Array.getElem?_modify,aaV]
 by_cases h:b=i
 ·subst h;simp[Ad,hv]
 ·rw[aad h,aad h]
theorem OM(b off i:Nat):(⟨b,off,none⟩:Addr).add i=⟨b,off+i,none⟩:=by
 unfold Addr.add
 split
 ·rename_i h;simp[h]
 ·rfl
def D_(c:Array Value):Nat→Nat→List Value
 |0,_=>[]
 |m+1,k=>c.getD k undef::D_ c m (k+1)
theorem Jy(c:Array Value):∀m k,(D_ c m k).length=m
 |0,_=>rfl
 |m+1,k=>by simp[D_,Jy c m]
theorem run_loadCellsFrom(hb:w.heap[b]?=some (.cells c e fr))(off:Nat):∀(n i:Nat) (acc:Array Value),off+i+n≤c.size→
  (loadCellsFrom ⟨b,off,none⟩ i n acc).run P w=.ok (acc++(D_ c n (off+i)).toArray) w:=by
 intro n
 induction n with
 |zero=>intro i acc _;simp[loadCellsFrom,D_]
 | succ n ih=>
  intro i acc h
  have hc:c[off+i]?=some (c.getD (off+i) undef):=by
   have:off+i<c.size:=by omega
   simp[Array.getD,this]
  simp only[loadCellsFrom,aaf,run_load,OM,cell_of hb,hc,aaa];rw[ih (i+1) _ (by omega)];simp only[D_];congr 1;apply acE;simp[Nat.add_assoc]
theorem run_loadCells(hb:w.heap[b]?=some (.cells c e fr))(off n:Nat)(h:off+n≤c.size) :
  (loadCells ⟨b,off,none⟩ n).run P w=.ok (D_ c n off).toArray w:=by
 have:=run_loadCellsFrom (P:=P) hb off n 0 #[] (by omega)
 simpa[loadCells]using this
def Hk(c:Array Value):Nat→List Value→Array Value
 |_,[]=>c
 |k,v::vs=>Hk (c.setIfInBounds k v) (k+1) vs
theorem IK:∀(vs:List Value) (c:Array Value) (k:Nat),(Hk c k vs).size=c.size
 |[],_,_=>rfl
 |v::vs,c,k=>by simp[Hk,IK vs]
theorem Vy:∀(vs:List Value) (c:Array Value) (k j:Nat),k+vs.length≤c.size→
  (Hk c k vs).getD j undef=if k≤j∧j<k+vs.length then vs.getD (j-k) undef else c.getD j undef:=by
 intro vs
 induction vs with
 |nil=>intro c k j _;simp only[Hk,abI,abc];rw[aad (by omega)]
 | cons v vs ih=>
  intro c k j h;simp only[aaw]at h;rw[Hk,ih _ _ _ (by simp;omega)];simp only[aaw]
  by_cases h1:k+1≤j∧j<k+1+vs.length
  ·rw[aae h1,aae (by omega)];obtain⟨m,rfl⟩:∃m,j=k+(m+1):=⟨j-k-1,by omega⟩
   have e1:k+(m+1)-(k+1)=m:=by omega
   have e2:k+(m+1)-k=m+1:=by omega
   rw[e1,e2];simp
  ·rw[aad h1]
   by_cases ej:j=k
   ·subst ej;have:j<c.size:=by omega
    simp[aal,this]
   ·rw[aad (by omega)];simp only[aal];rw[aa8 (by omega)]
theorem nE{v:Value}(h:BJ v=true):v.oneCell'=true:=by cases v<;>simp_all [BJ,Value.oneCell']
theorem Gh(off:Nat):∀(vs:List Value) (i:Nat) (w:World) (c:Array Value),w.heap[b]?=some (.cells c e fr)→NF fr c.size→off+i+vs.length≤c.size→vs.all BJ=true→
  (storeCells ⟨b,off,none⟩ vs i).run P w=.ok () {w with heap:=w.heap.setIfInBounds b (.cells (Hk c (off+i) vs) e fr)}:=by
 intro vs
 induction vs with
 | nil=>
  intro i w c hb _ _ _;have Ad:=(aao.1 hb).1;have hv:=(aao.1 hb).2;simp only[storeCells,aai,Hk];congr 1
  have:w.heap.setIfInBounds b (.cells c e fr)=w.heap:=by
   apply Array.ext_getElem?;intro j;rw[aaV]
   by_cases h:b=j
   ·subst h;simp[Ad,hv]
   ·rw[aad h]
  rw[this]
 | cons v vs ih=>
  intro i w c hb me h C3;simp only[aaw]at h;simp only[abv,aab]at C3
  have hc:c[off+i]?=some (c.getD (off+i) undef):=by
   have:off+i<c.size:=by omega
   simp[Array.getD,this]
  have Ad:=(aao.1 hb).1;simp only[storeCells,aaf,OM];rw[run_store P w _ v _ (nE C3.1)];simp only[cell_of hb,hc,tH hb me (off+i) (by omega),aaD,abf,aaa,nD hb];rw[ih (i+1) _ (c.setIfInBounds (off+i) v) (by simp[Ad]) (by simpa using me) (by simp;omega) C3.2];simp[Hk,Nat.add_assoc]
theorem run_underlying (t:TypeId) (w:World):(underlying t).run P w=match P.underlying t with | some d=>.ok d w | none=>.halt (.stuck "no such type") w:=by
 simp only[underlying,aaf,run_program,aaa]
 cases P.underlying t<;>rfl
theorem AI{t:TypeId}{d:TypeDesc}(h:P.underlying t=some d)(w:World):(underlying t).run P w=.ok d w:=by rw[run_underlying,h]
theorem JW{t:TypeId}{i:TypeInfo}(h:P.info? t=some i)(w:World):(typeInfo t).run P w=.ok i w:=by
 simp only[typeInfo,aaf,run_program,aaa,h];rfl
theorem Bb{t:TypeId}{n:Nat}(h:EM P t=some n)(w:World):(sizeOf t).run P w=.ok n w:=by
 unfold EM at h
 cases hi:P.info? t with
 |none=>simp[hi]at h
 |some i=>simp only[hi,aba,aam]at h;simp[sizeOf,JW hi,h]
theorem CA{t:TypeId}{z:Value}(h:Is P t=some z)(w:World):(zeroValue t).run P w=.ok z w:=by
 unfold Is at h
 cases hi:P.info? t with
 |none=>simp[hi]at h
 |some i=>
  simp only[hi,acf,cond_eq_ite]at h
  split at h
  ·simp[zeroValue,JW hi,h]
  ·cases h
theorem Gi{t:TypeId}{x:Bool}(h:agg? P t=some x)(w:World):(isAgg t).run P w=.ok x w:=by
 unfold agg? at h
 cases hd:P.underlying t with
 |none=>simp[hd]at h
 |some d=>
  simp only[hd,aba,aam]at h;subst h;simp only[isAgg,aaf,AI hd,aaa]
  cases d<;>rfl
end
section
variable {P:Program}{w0:World}{ρ:CJ}{W:CW}{w:World}
theorem NC(c:Array Value):∀(m k i:Nat),i<m→(D_ c m k).getD i undef=c.getD (k+i) undef
 |0,_,_,h=>by omega
 |m+1,k,0,_=>by simp[D_]
 |m+1,k,i+1,h=>by
  have:=NC c m (k+1) i (by omega);simp only[D_,acZ,this];congr 1;omega
theorem HK(c:Tr Value)(z:Array Value):∀(m k i:Nat),i<m→(Bj c z m k).getD i undef=cellAt c z (k+i)
 |0,_,_,h=>by omega
 |m+1,k,0,_=>by simp[Bj]
 |m+1,k,i+1,h=>by
  have:=HK c z m (k+1) i (by omega);simp only[Bj,acZ,this];congr 1;omega
theorem BK(c:Tr Value)(z:Array Value):∀m k,(Bj c z m k).length=m
 |0,_=>rfl
 |m+1,k=>by simp[Bj,BK c z m]
theorem jD{c:Tr Value}{z:Array Value}{c':Array Value}{n o:Nat}(h:∀k,k<n→AS ρ (cellAt c z k) (c'.getD (k+o) undef))(m k:Nat)(hm:k+m≤n) :
  A4 ρ (Bj c z m k) (D_ c' m (k+o)):=by
 refine⟨by rw[BK,Jy],λi hi=>?_⟩;rw[BK]at hi;rw[HK _ _ _ _ _ hi,NC _ _ _ _ hi];have:=h (k+i) (by omega);have e:k+i+o=k+o+i:=by omega
 rwa[e]at this
theorem YU(c:Tr Value)(z:Array Value)(vs:List Value)(k j:Nat) :
  cellAt (c.AW k vs) z j=if k≤j∧j<k+vs.length then vs.getD (j-k) undef else cellAt c z j:=by
 unfold cellAt;rw[Tr.Lh]
 by_cases h:k≤j∧j<k+vs.length
 ·rw[aae h,aae h];have:j-k<vs.length:=by omega
  simp[aah,this]
 ·rw[aad h,aad h]
theorem Jw.write{fr:Nat×Nat}{x:Info}{c:Tr Value}{z:Array Value}{e:TypeId}{c':Array Value}{n:Nat}(h:Jw P ρ x (.cells c n z e) (.cells c' e fr)){vs vs':List Value}(hv:A4 ρ vs vs'){k:Nat}
  (hk:k+vs.length≤n):Jw P ρ x (.cells (c.AW k vs) n z e) (.cells (Hk c' (k+x.o) vs') e fr):=by
 cases h with
 | cells he hs ho hc hq=>
  refine .cells he (by rw[IK];exact hs) ho (λj hj=>?_) (by rw[IK];exact hq);rw[YU,Vy _ _ _ _ (by rw[←hv.1];omega),←hv.1]
  by_cases h:k≤j∧j<k+vs.length
  ·rw[aae h,aae (by omega)];have e:j+x.o-(k+x.o)=j-k:=by omega
   rw[e];exact hv.2 _ (by omega)
  ·rw[aad h,aad (by omega)];exact hc j hj
theorem Aa.cells(h:Aa P w0 ρ W w){a a':Addr}(ha:NB ρ a a'){c:Tr Value}{n:Nat}{z:Array Value}{e:TypeId}(ho:W.obj a.block=some (.cells c n z e)) :
  ∃x c' fr,ρ a.block=some x∧a'=⟨x.b,a.off+x.o,none⟩∧w.heap[x.b]?=some (.cells c' e fr)∧NF fr c'.size∧Jw P ρ x (.cells c n z e) (.cells c' e fr)∧x.n=n∧c'.size=x.n'∧x.o+n≤x.n'∧
   (P.info? e).map (·.size)=some x.sz∧(∀k,k<n→AS ρ (cellAt c z k) (c'.getD (k+x.o) undef)):=by
 obtain⟨_,x,hx,rfl⟩:=ha;obtain⟨o',Jx,hr⟩:=h.obj ho (by simp) hx rfl
 cases hr with
 |cells he hs nF hc hq=>exact⟨x,_,_,hx,rfl,Jx,hq.1,.cells he hs nF hc hq,rfl,hs,nF,he,hc⟩
theorem Aa.fixed(h:Aa P w0 ρ W w){a a':Addr}(ha:NB ρ a a'){f:Nat→Value}{n:Nat}{e:TypeId}(ho:W.obj a.block=some (.fixed f n e)) :
  ∃x c' e' fr,ρ a.block=some x∧a'=⟨x.b,a.off+x.o,none⟩∧w.heap[x.b]?=some (.cells c' e' fr)∧x.n=n∧c'.size=x.n'∧x.o+n≤x.n'∧
   (P.info? e).map (·.size)=some x.sz∧(∀k,k<n→AS ρ (f k) (c'.getD (k+x.o) undef)):=by
 obtain⟨_,x,hx,rfl⟩:=ha;obtain⟨o',Jx,hr⟩:=h.obj ho (by simp) hx rfl
 cases hr with
 |fixed he hs nF hc=>exact⟨x,_,_,_,hx,rfl,Jx,rfl,hs,nF,he,hc⟩
theorem FW(f:Nat→Value):∀m k,(Fx f m k).length=m
 |0,_=>rfl
 |m+1,k=>by simp[Fx,FW f m]
theorem ON(f:Nat→Value):∀(m k i:Nat),i<m→(Fx f m k).getD i undef=f (k+i)
 |0,_,_,h=>by omega
 |m+1,k,0,_=>rfl
 |m+1,k,i+1,h=>by
  have:=ON f m (k+1) i (by omega);simp only[Fx,acZ,this];congr 1;omega
theorem Vz{f:Nat→Value}{c':Array Value}{n o:Nat}(h:∀k,k<n→AS ρ (f k) (c'.getD (k+o) undef))(m k:Nat)(hm:k+m≤n) :
  A4 ρ (Fx f m k) (D_ c' m (k+o)) :=
 ⟨by rw[FW,Jy],λi hi=>by
  rw[FW]at hi;rw[ON _ _ _ _ hi,NC _ _ _ _ hi];have:=h (k+i) (by omega);have e:k+i+o=k+o+i:=by omega
  rwa[e]at this⟩
theorem V0(h:Aa P w0 ρ W w){t:TypeId}{a a':Addr}{v:Value}(ha:NB ρ a a')(hl:MO P t a W=some v) :
  ∃v',(loadVar t a').run P w=.ok v' w∧AS ρ v v':=by
 unfold MO at hl
 split at hl
 ·rename_i c n z e ho;obtain⟨x,c',fr,hx,rfl,hb,_,_,_,hs,nF,_,hc⟩:=h.cells ha ho
  split at hl
  ·rename_i nG
   split at hl
   ·rename_i m hm;rw[cond_eq_ite]at hl
    split at hl
    ·rename_i hle;have hle:=aaj hle
     cases hl
     refine⟨.agg (D_ c' m (a.off+x.o)).toArray,?_,.jB (by simpa using jD hc m a.off hle)⟩;simp only[loadVar,aaf,Gi nG,aaa,aar,Bb hm];rw[run_loadCells hb _ _ (by omega)];rfl
    ·cases hl
   ·cases hl
  ·rename_i nG;rw[cond_eq_ite]at hl
   split at hl
   ·rename_i Ad;have Ad:a.off<n:=by have:=aaj Ad;omega
    cases hl
    refine⟨c'.getD (a.off+x.o) undef,?_,hc _ Ad⟩
    have:c'[a.off+x.o]?=some (c'.getD (a.off+x.o) undef):=by
     have:a.off+x.o<c'.size:=by omega
     simp[Array.getD,this]
    simp only[loadVar,aaf,Gi nG,aaa,aaD,abf,run_load,cell_of hb,this]
   ·cases hl
  ·cases hl
 ·rename_i f n e ho;obtain⟨x,c',e',fr,hx,rfl,hb,_,hs,nF,_,hc⟩:=h.fixed ha ho
  split at hl
  ·rename_i nG
   split at hl
   ·rename_i m hm;rw[cond_eq_ite]at hl
    split at hl
    ·rename_i hle;have hle:=aaj hle
     cases hl
     refine⟨.agg (D_ c' m (a.off+x.o)).toArray,?_,.jB (by simpa using Vz hc m a.off hle)⟩;simp only[loadVar,aaf,Gi nG,aaa,aar,Bb hm];rw[run_loadCells hb _ _ (by omega)];rfl
    ·cases hl
   ·cases hl
  ·rename_i nG;rw[cond_eq_ite]at hl
   split at hl
   ·rename_i Ad;have Ad:a.off<n:=by have:=aaj Ad;omega
    cases hl
    refine⟨c'.getD (a.off+x.o) undef,?_,hc _ Ad⟩
    have:c'[a.off+x.o]?=some (c'.getD (a.off+x.o) undef):=by
     have:a.off+x.o<c'.size:=by omega
     simp[Array.getD,this]
    simp only[loadVar,aaf,Gi nG,aaa,aaD,abf,run_load,cell_of hb,this]
   ·cases hl
  ·cases hl
 ·cases hl
theorem tI{v v':Value}(h:AS ρ v v')(hc:v.cells.toList.all BJ=true):v'.cells.toList.all BJ=true:=by
 have hl:=h.cells;rw[aax]at hc ⊢;intro y hy;obtain⟨i,hi,rfl⟩:=abQ hy;have LB:i<v.cells.toList.length:=hl.1▸hi;have:=hl.2 i LB;simp only[aah,ck hi,ck LB,aaX]at this;rw[this.one];exact hc _ (aaY LB)
theorem SF(h:Aa P w0 ρ W w){t:TypeId}{a a':Addr}{v v':Value}(ha:NB ρ a a')(hv:AS ρ v v'){c:Tr Value}{n:Nat}{z:Array Value}{e:TypeId}{m:Nat}
  (ho:W.obj a.block=some (.cells c n z e)) (hm:EM P t=some m) (KB:v.cells.size=m) (hle:a.off+m≤n) (Jz:v.cells.toList.all BJ=true) :
  ∃w',(storeVar t a' v').run P w=.ok () w'∧Aa P w0 ρ (W.Ba a.block (.cells (c.AW a.off v.cells.toList) n z e)) w':=by
 obtain⟨x,c',fr,hx,rfl,hb,me,hr,_,hs,nF,_,hc⟩:=h.cells ha ho;have hl:=hv.cells;have UH:v'.cells.size=m:=by have:=hl.1;simp at this;omega
 refine⟨{w with heap:=w.heap.setIfInBounds x.b (.cells (Hk c' (a.off+x.o) v'.cells.toList) e fr)},?_,?_⟩
 ·simp only[storeVar,aaf,Bb hm,aaa,UH,ne_eq,not_true,abf];have:=Gh (P:=P) (a.off+x.o) v'.cells.toList 0 w c' hb me (by simp;omega) (tI hv Jz)
  simpa using this
 ·exact h.Ba ho rfl hx (hr.write hl (by simp;omega))
theorem fB(h:Aa P w0 ρ W w){t:TypeId}{a a':Addr}{v v':Value}{W1:CW}(ha:NB ρ a a')(hv:AS ρ v v')(hl:L7 P t a v W=some W1) :
  ∃w',(storeVar t a' v').run P w=.ok () w'∧Aa P w0 ρ W1 w':=by
 unfold L7 at hl
 split at hl
 ·rename_i c n z e ho
  split at hl
  ·rename_i cs
   split at hl
   ·rename_i m hm;rw[cond_eq_ite]at hl
    split at hl
    ·rename_i Bn;simp only[aab]at Bn
     cases hl
     exact SF h ha hv ho hm (aac Bn.1.1) (aaj Bn.1.2) Bn.2
    ·cases hl
   ·cases hl
  ·cases hl
  ·rename_i hna Nv
   split at hl
   ·rename_i m hm;rw[cond_eq_ite]at hl
    split at hl
    ·rename_i Bn;simp only[aab]at Bn
     cases hl
     have Jz:BJ v=true:=by cases v<;>first|rfl|exact(hna _ rfl).elim|exact(Nv _ rfl).elim
     have OO:v.cells=#[v]:=by cases v<;>first|rfl|exact(hna _ rfl).elim
     have Ry:=aac Bn.1;have Ad:a.off<n:=by have:=aaj Bn.2;omega
     have:=SF h ha hv ho hm (by rw[OO];simp[Ry]) (by omega) (by rw[OO];simp[Jz]);rw[OO]at this;exact this
    ·cases hl
   ·cases hl
 ·cases hl
end
def EX (P:Program):Prop:=∀ f fn,P.funcs[f]?=some fn→fn.body.isNone=true→(fn.name == "maps.clone")=true→∀ args w v w',(Extern.MapsClone.clone args).run P w=.ok v w'→(callFunc f args).run P w=.ok (.value v) w'
def ZP(P:Program):Prop:=(∀t z,Is P t=some z→∃n,Gf n z=true)∧EX P
theorem ZP.rel{P:Program}(h:ZP P){t:TypeId}{z:Value}(hz:Is P t=some z)(ρ:CJ):AS ρ z z:=let ⟨n,hn⟩:=h.1 t z hz;.SD ρ n z hn
inductive MQ(ρ:CJ):Deferred→Deferred→Prop
 |fn {f:FuncId} {cap cap' args args':Array Value}:A4 ρ cap.toList cap'.toList→A4 ρ args.toList args'.toList→MQ ρ ⟨.fn (.func f) cap,args⟩ ⟨.fn (.func f) cap',args'⟩
 |collected {r r':Nat}:OL ρ r r'→MQ ρ ⟨.collected r,#[]⟩ ⟨.collected r',#[]⟩
theorem MQ.mono{ρ ρ':CJ}{d d':Deferred}(h:MQ ρ d d')(e:Ext ρ ρ'):MQ ρ' d d':=by
 cases h with
 |fn a b=>exact .fn (a.mono e) (b.mono e)
 |collected a=>exact .collected (a.mono e)
inductive jE(P:Program)(w0:World)(ρ:CJ)(W:CW)(r:Result Next):B_→Prop
 |value {v v':Value} {w:World}:r=.ok (.value v') w→AS ρ v v'→Aa P w0 ρ W w→jE P w0 ρ W r (.value v)
 |skip {w:World}:r=.ok .skip w→Aa P w0 ρ W w→jE P w0 ρ W r .skip
 |enter {f:FuncId} {args:List Value} {args':Array Value} {w:World}:r=(callFunc f args').run P w→A4 ρ args args'.toList→Aa P w0 ρ W w→jE P w0 ρ W r (.enter f args)
 |round {l l':Nat} {args:List Value} {args':Array Value} {w:World}:r=(Instr.yield l' args').run P w→OL ρ l l'→A4 ρ args args'.toList→Aa P w0 ρ W w→jE P w0 ρ W r (.round l args)
 |defer {d d':Deferred} {w:World}:r=.ok (.defer d') w→MQ ρ d d'→Aa P w0 ρ W w→jE P w0 ρ W r (.defer d)
 |recover {w:World}:r=.ok .recover w→Aa P w0 ρ W w→jE P w0 ρ W r .recover
 |panic {v v':Value} {w:World}:r=.halt (.panic v') w→AS ρ v v'→Aa P w0 ρ W w→jE P w0 ρ W r (.panic v)
def BU(P:Program)(w0:World)(ρ:CJ)(W:CW)(r:Result Next)(outs:List (B_×CW)):Prop :=
 ∃n W1 ρ',(n,W1)∈outs∧FP W ρ W1 ρ'∧jE P w0 ρ' W1 r n
section
variable {P:Program}{w0:World}{ρ:CJ}{W:CW}{w:World}
theorem BU.value(hw:Aa P w0 ρ W w){r:Result Next}{v v':Value}(hr:r=.ok (.value v') w)(hv:AS ρ v v'):BU P w0 ρ W r [(.value v,W)] :=
 ⟨_,_,ρ,dy.2 rfl,.refl _,.value hr hv hw⟩
def Nw(ρ:CJ):Option Value→Option Value→Prop
 |none,none=>True
 |some v,some v'=>AS ρ v v'
 |_,_=>False
theorem Gj{x x':Option Value}{d y y' k:Nat}(h:bound x d y=some k)(hx:Nw ρ x x')(hy:y≤y') :
  (x=none∧x'=none∧k=d)∨(∃v',x'=some v'∧k≤y∧∀code (w:World),(Instr.sliceBound v' y' code).run P w=.ok k w):=by
 unfold bound at h
 split at h
 ·rename_i kk i;rw[cond_eq_ite]at h
  split at h
  ·rename_i hc;simp only[aab,decide_eq_true_eq]at hc
   cases h
   cases x' with
   |none=>exact hx.elim
   |some v'=>
    have hx:AS ρ (.int kk i) v':=hx
    cases hx
    right;refine⟨_,rfl,by omega,λcode w=>?_⟩;have:0≤i∧i≤(y':Int):=⟨hc.1,by omega⟩
    simp[Instr.sliceBound,asIntOf,this]
  ·cases h
 ·cases h
 ·cases h
  cases x' with
  |none=>exact .inl ⟨rfl,rfl,rfl⟩
  |some v'=>exact hx.elim
theorem Nw.map{f g:Operand→Value}(x:Option Operand)(h:∀y,x=some y→AS ρ (f y) (g y)):Nw ρ (x.map f) (x.map g):=by
 cases x with
 |none=>trivial
 |some y=>exact h y rfl
theorem Ao{α β:Type}{o:Option α}{f:α→Option β}{b:β}(h:DI o f=some b):∃a,o=some a∧f a=some b:=by
 cases o with
 |none=>cases h
 |some a=>exact⟨a,rfl,h⟩
theorem ND(b:Bool){lo wa hi LB mx mx':Option Value}{len cap cap' m h l:Nat}(hm:bound mx cap cap=some m)(hh:bound hi len m=some h)(hl:bound lo 0 h=some l)
  (rl:Nw ρ lo wa) (rh:Nw ρ hi LB) (rm:Nw ρ mx mx') (hc:cap≤cap') (hn:(mx.isSome&&hi.isNone)=false) :
  ∃m',(∀w:World,(Instr.sliceBounds b len cap' wa LB mx').run P w=.ok (l,h,m') w)∧((mx=none∧m'=cap'∧m=cap)∨(m'=m∧m≤cap))∧l≤h:=by
 have mf:l≤h:=by
  rcases Gj (P:=P) hl rl (aag _)with⟨_,_,rfl⟩|⟨_,_,h,_⟩
  ·exact aa1 _
  ·exact h
 rcases Gj (P:=P) hm rm hc with⟨rfl,rfl,rfl⟩|⟨v,rfl,AKk,hmr⟩
 ·refine⟨cap',λw=>?_,.inl ⟨rfl,rfl,rfl⟩,mf⟩
  rcases Gj (P:=P) hh rh hc with⟨rfl,rfl,rfl⟩|⟨v2,rfl,_,hhr⟩
  ·rcases Gj (P:=P) hl rl (aag _)with⟨rfl,rfl,rfl⟩|⟨v3,rfl,_,hlr⟩
   ·simp[Instr.sliceBounds]
   ·simp[Instr.sliceBounds,hlr]
  ·rcases Gj (P:=P) hl rl (aag _)with⟨rfl,rfl,rfl⟩|⟨v3,rfl,_,hlr⟩
   ·simp[Instr.sliceBounds,hhr]
   ·simp[Instr.sliceBounds,hhr,hlr]
 ·have hms:mx.isSome=true:=by
   cases mx with
   |none=>exact rm.elim
   |some _=>rfl
  refine⟨m,λw=>?_,.inr ⟨rfl,AKk⟩,mf⟩
  rcases Gj (P:=P) hh rh (aag _)with⟨rfl,rfl,rfl⟩|⟨v2,rfl,_,hhr⟩
  ·simp[hms]at hn
  ·rcases Gj (P:=P) hl rl (aag _)with⟨rfl,rfl,rfl⟩|⟨v3,rfl,_,hlr⟩
   ·simp[Instr.sliceBounds,hmr,hhr]
   ·simp[Instr.sliceBounds,hmr,hhr,hlr]
end
section
variable {P:Program}{w0:World}{ρ:CJ}{W:CW}{w:World}
theorem fC{t:TypeId}{n m:Nat}(h:EM P t=some n)(k:(P.info? t).map (·.size)=some m):m=n:=by
 unfold EM at h;rw[h]at k;cases k;rfl
theorem SG{a a':Addr}(h:NB ρ a a')(k:Nat):NB ρ ⟨a.block,a.off+k,none⟩ (a'.add k):=by
 obtain⟨_,x,hx,rfl⟩:=h;refine⟨rfl,x,hx,?_⟩;rw[OM];simp only[Addr.mk.injEq,and_true,true_and];omega
theorem SH(a:Addr):a.add 0=a:=by simp[Addr.add]
theorem fD(hw:Aa P w0 ρ W w){t:TypeId}{x x' v:Value}{lo wa hi LB mx mx':Option Value}(h:JD P W t x lo hi mx=some v)(hx:AS ρ x x')
  (rl:Nw ρ lo wa) (rh:Nw ρ hi LB) (rm:Nw ρ mx mx'):∃v',(Instr.sliceAt t x' wa LB mx').run P w=.ok v' w∧AS ρ v v':=by
 unfold JD at h
 split at h
 ·rename_i elem a len cap ht;obtain⟨m,hm,h⟩:=Ao h;obtain⟨hh,L_,h⟩:=Ao h;obtain⟨l,hl,h⟩:=Ao h;rw[cond_eq_ite]at h
  split at h
  ·cases h
  rename_i Bn;simp only[aaU,aaK,not_or,Bool.not_eq_true,Bool.not_eq_false]at Bn;obtain⟨⟨ADV,hle⟩,NG⟩:=Bn;have hle:=aaj hle;obtain⟨s,hs,h⟩:=Ao h
  cases h
  have run:∀(a':Option Addr) (cap':Nat),cap≤cap'→∃m',(Instr.sliceAt t (.slice a' len cap') wa LB mx').run P w=.ok (.slice (if m'=l then a' else a'.map (·.add (l*s))) (hh-l) (m'-l)) w∧((mx=none∧m'=cap'∧m=cap)∨(m'=m∧m≤cap))∧l≤hh:=by
   intro a' cap' hc;obtain⟨m',hr,BV,mf⟩:=ND (P:=P) true hm L_ hl rl rh rm hc ADV;refine⟨m',?_,BV,mf⟩;simp only[Instr.sliceAt,aaf,AI ht,aaa,Instr.slice,hr,Bb hs,aai]
  cases hx with
  |jA=>
   obtain⟨m',hr,BV,mf⟩:=run none cap (aag _);refine⟨_,hr,?_⟩;have:m'=m:=by rcases BV with⟨_,h1,h2⟩|⟨h1,_⟩<;>omega
   subst this;simp only[Option.map_none,ite_self,cond_eq_ite];exact .jA _ _
  | @slice a a' n c c' ha hc=>
   have Fh:cap≤c':=by
    rcases hc with rfl|⟨_,_,_,_,_,h⟩
    ·exact aag _
    ·exact h
   obtain⟨m',hr,BV,mf⟩:=run (some a') c' Fh;refine⟨_,hr,?_⟩
   have AG3:mx=none→c'=cap∨∃y,ρ a.block=some y∧0<s∧y.sz=s∧a.off+cap*s=y.n∧a.off+y.o+c'*s=y.n':=by
    intro nH
    rcases hc with rfl|⟨y,hy,UR,h1,h2,_⟩
    ·exact .inl rfl
    ·right;subst nH;simp only[abA,M_,ha.1,abJ]at NG
     split at NG
     ·rename_i cc nn zz ee ho;have:=aac (NG.resolve_left (by simp));subst this;obtain⟨y',c2,_,hy',_,_,_,_,_,_,_,he,_⟩:=hw.cells ha ho;rw[hy]at hy';cases hy';have:=fC hs he;rw[this]at h1 h2 UR;exact⟨y,hy,UR,this,h1,h2⟩
     ·rename_i ff nn ee ho;have:=aac (NG.resolve_left (by simp));subst this;obtain⟨y',_,_,_,hy',_,_,_,_,_,he,_⟩:=hw.fixed ha ho;rw[hy]at hy';cases hy';have:=fC hs he;rw[this]at h1 h2 UR;exact⟨y,hy,UR,this,h1,h2⟩
     ·simp at NG
   by_cases e:m=l
   ·have ehl:hh=l:=by omega
    subst ehl;simp only[cond_eq_ite,abF,e,aar,abn];obtain⟨y,hy,rfl⟩:=ha.2
    by_cases em:m'=hh
    ·subst em;simp only[aar,abn];exact .L9 ha.1 hy rfl rfl (.inl rfl)
    ·rw[aad em]
     rcases BV with⟨nH,e1,e2⟩|⟨h1,_⟩
     ·rcases AG3 nH with h1|⟨y',hy',UR,KB,h1,h2⟩
      ·omega
      ·rw[hy]at hy';cases hy';simp only[aba,OM];refine .L9 ha.1 hy rfl rfl (.inr ⟨by omega,?_⟩);rw[KB];obtain⟨d,hd⟩:∃d,m'=hh+d:=⟨m'-hh,by omega⟩
       have e3:m'-hh=d:=by omega
       rw[e3];rw[←e1,hd,abx]at h2;show a.off+y.o+hh*s+d*s=y.n';omega
     ·omega
   ·have wc:l<m:=by omega
    have em:m'≠l:=by rcases BV with⟨_,h1,h2⟩|⟨h1,_⟩<;>omega
    simp only[cond_eq_ite,abF,e,abf,em,aba];refine .slice _ (SG ha _) ?_
    rcases BV with⟨nH,rfl,rfl⟩|⟨rfl,_⟩
    ·rcases AG3 nH with rfl|⟨y,hy,UR,KB,h1,h2⟩
     ·exact .inl rfl
     ·right
      refine⟨y,hy,by omega,?_,?_,by omega⟩
      ·rw[KB];obtain⟨d,rfl⟩:∃d,m=l+d:=⟨m-l,by omega⟩
       have:l+d-l=d:=by omega
       rw[this];rw[abx]at h1;show a.off+l*s+d*s=y.n;omega
      ·rw[KB];obtain⟨d,rfl⟩:∃d,m'=l+d:=⟨m'-l,by omega⟩
       have:l+d-l=d:=by omega
       rw[this];rw[abx]at h2;show a.off+l*s+y.o+d*s=y.n';omega
    ·exact .inl rfl
  | @L9 a a' c' y hq hy hb Js hc=>
   obtain⟨m',hr,BV,mf⟩:=run (some a') c' (aa1 _);refine⟨_,hr,?_⟩;have tJ:m=0:=by rcases BV with⟨_,h1,h2⟩|⟨h1,h2⟩<;>omega
   subst tJ;have hh0:hh=0:=by omega
   subst hh0;have hl0:l=0:=by omega
   subst hl0;simp only[cond_eq_ite,abF,aar,acP,abe,aba,SH,ite_self];refine .L9 hq hy hb Js ?_
   rcases BV with⟨_,rfl,_⟩|⟨rfl,_⟩
   ·exact hc
   ·exact .inl rfl
  | @KQ a a' hq=>
   obtain⟨m',hr,BV,mf⟩:=run (some a') 0 (aag _);refine⟨_,hr,?_⟩;have tJ:m=0:=by rcases BV with⟨_,h1,h2⟩|⟨h1,h2⟩<;>omega
   subst tJ;have hh0:hh=0:=by omega
   subst hh0;have hl0:l=0:=by omega
   subst hl0;simp only[cond_eq_ite,abF,aar,acP,abe,aba,SH,ite_self];have AKl:m'=0:=by rcases BV with⟨_,h1,_⟩|⟨h1,_⟩<;>omega
   subst AKl;exact .KQ hq
 ·rename_i n elem a ht;obtain⟨m,hm,h⟩:=Ao h;obtain⟨hh,L_,h⟩:=Ao h;obtain⟨l,hl,h⟩:=Ao h;rw[cond_eq_ite]at h
  split at h
  ·cases h
  rename_i Bn;simp only[aaU,aaK,not_or,Bool.not_eq_true,Bool.not_eq_false]at Bn;obtain⟨s,hs,h⟩:=Ao h
  cases h
  cases hx with
  | @ptr a a' ha=>
   obtain⟨m',hr,BV,mf⟩:=ND (P:=P) false hm L_ hl rl rh rm (aag _) Bn.1;have:m'=m:=by rcases BV with⟨_,h1,h2⟩|⟨h1,_⟩<;>omega
   subst this
   refine⟨.slice (some (if m'=l then a' else a'.add (l*s))) (hh-l) (m'-l),?_,?_⟩
   ·simp only[Instr.sliceAt,aaf,AI ht,aaa,Instr.sureAddr,aai,hr,Bb hs]
   ·simp only[cond_eq_ite,abF]
    by_cases e:m'=l
    ·rw[aae e,aae e];exact .slice _ ha (.inl rfl)
    ·rw[aad e,aad e];exact .slice _ (SG ha _) (.inl rfl)
 ·cases h
end
section
variable {P:Program}{w0:World}{ρ:CJ}{W:CW}{w:World}{o:Oper}{e e':Operand→Value}{outs:List (B_×CW)}
theorem F2{x:Option Value}(h:(match x with|some v=>some [(B_.value v,W)]|none=>none)=some outs):∃v,x=some v∧outs=[(.value v,W)]:=by
 cases x with
 |none=>cases h
 |some v=>cases h;exact⟨v,rfl,rfl⟩
theorem PN{x:Option (Value×CW)}(h:(match x with|some (v,W)=>some [(B_.value v,W)]|none=>none)=some outs):∃v W1,x=some (v,W1)∧outs=[(.value v,W1)]:=by
 cases x with
 |none=>cases h
 |some v=>obtain⟨v,W1⟩:=v;cases h;exact⟨v,W1,rfl,rfl⟩
theorem qu{x:Option CW}(h:(match x with|some W=>some [(B_.skip,W)]|none=>none)=some outs):∃W1,x=some W1∧outs=[(.skip,W1)]:=by
 cases x with
 |none=>cases h
 |some W1=>cases h;exact⟨W1,rfl,rfl⟩
theorem BZ{s:Sem Value}{v:Value}{w w':World}(hs:s.run P w=.ok v w'):(do let x←s;pure (Next.value x):Sem Next).run P w=.ok (.value v) w':=by simp[hs]
theorem nI{s:Sem Unit}{w w':World}(hs:s.run P w=.ok () w'):(do s;pure Next.skip:Sem Next).run P w=.ok .skip w':=by simp[hs]
theorem qw{x:Operand}(ho:o.op=.move x∨o.op=.assign x)(h:Bm P o e W=some outs)(hw:Aa P w0 ρ W w)(he:AS ρ (e x) (e' x)) :
  BU P w0 ρ W ((execOp e' o).run P w) outs:=by
 rcases ho with ho|ho<;>
 ·simp only[Bm,ho]at h
  cases h
  exact .value hw (by simp only[execOp,ho,aai]) he
theorem ABF{c a b:Operand}(ho:o.op=.pick c a b)(h:Bm P o e W=some outs)(hw:Aa P w0 ρ W w)(hc:AS ρ (e c) (e' c))(ha:AS ρ (e a) (e' a))(hb:AS ρ (e b) (e' b)) :
  BU P w0 ρ W ((execOp e' o).run P w) outs:=by
 simp only[Bm,ho]at h
 split at h
 ·rename_i b0 cC
  cases h
  rw[cC]at hc;generalize Fh:e' c=vc at hc
  cases hc
  have hr:(execOp e' o).run P w=.ok (.value (if b0=true then e' a else e' b)) w:=by
   simp[execOp,ho,Fh,asBool]
  refine .value hw hr ?_
  cases b0
  ·simpa using hb
  ·simpa using ha
 ·cases h
theorem ABG{t:TypeId}{a:Operand}(ho:o.op=.load t a)(h:Bm P o e W=some outs)(hw:Aa P w0 ρ W w)(ha:AS ρ (e a) (e' a)) :
  BU P w0 ρ W ((execOp e' o).run P w) outs:=by
 simp only[Bm,ho]at h;obtain⟨v,hv,rfl⟩:=F2 h
 split at hv
 ·rename_i p hp;rw[hp]at ha;generalize Fh:e' a=va at ha
  cases ha with
  |ptr ha=>
   obtain⟨v',hr,ID⟩:=V0 hw ha hv;refine .value hw ?_ ID;simp only[execOp,ho,Fh];exact BZ (by simpa[Instr.loadAt,Instr.sureAddr]using hr)
 ·cases hv
theorem tK{t:TypeId}{a:Addr}{v:Value}{W1:CW}(h:L7 P t a v W=some W1):W.sz≤W1.sz:=by
 unfold L7 at h
 repeat' (first|(cases h;done)|(cases h;exact aag _)|(rw[cond_eq_ite]at h)|split at h)
theorem xH{t:TypeId}{a x:Operand}(ho:o.op=.store t a x)(h:Bm P o e W=some outs)(hw:Aa P w0 ρ W w)(ha:AS ρ (e a) (e' a))(hx:AS ρ (e x) (e' x)) :
  BU P w0 ρ W ((execOp e' o).run P w) outs:=by
 simp only[Bm,ho]at h;obtain⟨W1,hv,rfl⟩:=qu h
 split at hv
 ·rename_i p hp;rw[hp]at ha;generalize Fh:e' a=va at ha
  cases ha with
  |ptr ha=>
   obtain⟨w',hr,KR⟩:=fB hw ha hx hv;refine⟨_,_,ρ,dy.2 rfl,.refl _ (tK hv),.skip (w:=w') ?_ KR⟩;simp only[execOp,ho,Fh];exact nI (by simpa[Instr.storeAt,Instr.sureAddr]using hr)
 ·cases hv
theorem jF{x:Operand}(ho:o.op=.nilCheck x)(h:Bm P o e W=some outs)(hw:Aa P w0 ρ W w)(hx:AS ρ (e x) (e' x)) :
  BU P w0 ρ W ((execOp e' o).run P w) outs:=by
 simp only[Bm,ho]at h;obtain⟨v,hv,rfl⟩:=F2 h;generalize hc:e x=vx at*;generalize Fh:e' x=V2 at*
 split at hv<;>cases hv<;>cases hx
 ·rename_i h1;exact .value hw (by simp only[execOp,ho,Fh,aai]) (.ptr h1)
 ·rename_i h1;exact .value hw (by simp only[execOp,ho,Fh,aai]) (.iface _ h1)
 ·rename_i h1 h2 h3 h4 h5
  cases h1
  exact .value hw (by simp only[execOp,ho,Fh,aai]) (.func (.func _) h2 h3 h4 h5)
 ·rename_i h1 h2 h3 h4 h5
  cases h1 with
  |yield hb=>exact .value hw (by simp only[execOp,ho,Fh,aai]) (.func (.yield hb) h2 h3 h4 h5)
theorem SJ(hw:Aa P w0 ρ W w){c:Tr Value}{z:Array Value}{n:Nat}{t:TypeId}{sz:Nat}{c':Array Value}(hs:EM P t=some sz)(hn:c'.size=n)
  (hc:∀k,k<n→AS ρ (cellAt c z k) (c'.getD k undef)) :
  ∃ρ',FP W ρ (W.new (.cells c n z t)) ρ'∧ρ' W.sz=some ⟨w.heap.size,0,sz,n,n⟩∧Aa P w0 ρ' (W.new (.cells c n z t)) {w with heap:=w.heap.push (.cells c' t)}∧NB ρ' ⟨W.sz,0,none⟩ ⟨w.heap.size,0,none⟩:=by
 have Dy:Ext ρ (λi=>if i=W.sz then some ⟨w.heap.size,0,sz,n,n⟩else ρ i):=λi y hy=>by
  have:=hw.Wi i y hy;show(if i=W.sz then _ else ρ i)=some y;rw[aad (by omega)];exact hy
 have:=hw.new (o:=.cells c n z t) (o':=.cells c' t) ⟨w.heap.size,0,sz,n,n⟩ rfl (by
  exact .cells hs hn (by simp) (λk hk=>(hc k hk).mono Dy) ⟨NF.zero _,λ_=>⟨rfl,rfl⟩⟩)
 exact⟨_,this.1,by simp,this.2,⟨rfl,⟨w.heap.size,0,sz,n,n⟩,by simp,by simp⟩⟩
theorem C6(vs:List Value)(z:Array Value)(k:Nat)(h:k<vs.length):cellAt (Tr.nil.AW 0 vs) z k=vs.getD k undef:=by
 rw[YU];simp[h]
theorem ADW{t:TypeId}{x:Operand}(ho:o.op=.box t x)(h:Bm P o e W=some outs)(hw:Aa P w0 ρ W w)(hx:AS ρ (e x) (e' x)) :
  BU P w0 ρ W ((execOp e' o).run P w) outs:=by
 simp only[Bm,ho,W_]at h
 split at h
 ·rename_i sz hs
  cases h
  have hl:=hx.cells
  obtain⟨ρ',Dy,_,KR,ha⟩:=SJ hw (c:=Tr.nil.AW 0 (e x).cells.toList) (z:=#[]) (n:=(e x).cells.size) (c':=(e' x).cells) hs (by simpa using hl.1.symm) (λk hk=>by
   rw[C6 _ _ _ (by simpa using hk)];have:=hl.2 k (by simpa using hk)
   simpa[aal,aah]using this)
  refine⟨_,_,ρ',dy.2 rfl,Dy,.value (w:={w with heap:=w.heap.push (.cells (e' x).cells t)}) ?_ (.ptr ha) KR⟩;simp only[execOp,ho];exact BZ (by simp[Instr.box,newVar,newRow])
 ·cases h
theorem xI(hz:ZP P){t:TypeId}(ho:o.op=.alloc t)(h:Bm P o e W=some outs)(hw:Aa P w0 ρ W w) :
  BU P w0 ρ W ((execOp e' o).run P w) outs:=by
 simp only[Bm,ho]at h
 split at h
 ·rename_i z M4
  split at h
  ·rename_i sz hs
   cases h
   obtain⟨ρ',Dy,_,KR,ha⟩:=SJ hw (c:=.nil) (z:=z.cells) (n:=z.cells.size) (c':=z.cells) hs rfl (λk hk=>by
    have hc:=(hz.rel M4 ρ).cells.2 k (by simpa using hk);have:cellAt .nil z.cells k=z.cells.getD k undef:=by simp[cellAt,Tr.get_nil,ab1 hk]
    rw[this]
    simpa[aal,aah]using hc)
   refine⟨_,_,ρ',dy.2 rfl,Dy,.value (w:={w with heap:=w.heap.push (.cells z.cells t)}) ?_ (.ptr ha) KR⟩;simp only[execOp,ho];exact BZ (by simp[Instr.alloc,CA M4,newVar,newRow])
  ·cases h
 ·cases h
theorem ABH{u:UnOp}{t:TypeId}{x:Operand}(ho:o.op=.unOp u t x)(h:Bm P o e W=some outs)(hw:Aa P w0 ρ W w)(hx:AS ρ (e x) (e' x)) :
  BU P w0 ρ W ((execOp e' o).run P w) outs:=by
 cases u<;>simp only[Bm,ho]at h<;>first|(cases h;done)|skip
 all_goals
  obtain⟨v,hv,rfl⟩:=F2 h
  split at hv
  ·rename_i hc
   cases hv
   rw[hc]at hx;generalize Fh:e' x=V2 at hx
   cases hx
   refine .value hw ?_ (by constructor);simp only[execOp,ho,Fh];exact BZ (by simp[Op.unary,Op.intArith])
  ·cases hv
theorem US{t:TypeId}{x:Operand}(ho:o.op=.makeInterface t x)(h:Bm P o e W=some outs)(hw:Aa P w0 ρ W w)(hx:AS ρ (e x) (e' x)) :
  BU P w0 ρ W ((execOp e' o).run P w) outs:=by
 simp only[Bm,ho]at h;obtain⟨v,hv,rfl⟩:=F2 h
 split at hv
 ·cases hv
 ·cases hv
 ·rename_i Nx QK
  cases hv
  refine .value hw ?_ (.iface _ hx);simp only[execOp,ho];refine BZ ?_
  cases hu:P.underlying t with
  |none=>exact(QK hu).elim
  |some d=>
   simp only[Instr.makeInterface,aaf,AI hu,aaa]
   cases d<;>first|rfl|exact(Nx _ hu).elim
theorem nJ{x:Operand}{i:Nat}(ho:o.op=.extract x i)(h:Bm P o e W=some outs)(hw:Aa P w0 ρ W w)(hx:AS ρ (e x) (e' x)) :
  BU P w0 ρ W ((execOp e' o).run P w) outs:=by
 simp only[Bm,ho]at h;obtain⟨v,hv,rfl⟩:=F2 h
 split at hv
 ·rename_i vs hc;rw[hc]at hx;generalize Fh:e' x=V2 at hx;obtain⟨vs',rfl,hl⟩:=hx.tG;obtain⟨y,hy,hr⟩:=hl.get (x:=v) (i:=i) (by simpa using hv);have hy:vs'[i]?=some y:=by simpa using hy
  refine .value hw ?_ hr;simp only[execOp,ho,Fh];exact BZ (by simp[Instr.extract,hy])
 ·cases hv
end
section
variable {P:Program}{w0:World}{ρ:CJ}{W:CW}{w:World}{o:Oper}{e e':Operand→Value}{outs:List (B_×CW)}
theorem nK{op:BinOp}{k:IntKind}{a b:Int}{v:Value}{t:TypeId}(h:P' op k a b=some v)(w:World):(binOp op t (.int k a) (.int k b)).run P w=.ok v w∧AS ρ v v:=by
 cases op<;>simp only[P']at h
 case quo=>
  rw[cond_eq_ite]at h
  split at h
  ·cases h
  ·rename_i hb
   cases h
   have:¬b=0:=by simpa using hb
   exact⟨by simp[binOp,Op.intDiv,this],.int _ _⟩
 case rem=>
  rw[cond_eq_ite]at h
  split at h
  ·cases h
  ·rename_i hb
   cases h
   have:¬b=0:=by simpa using hb
   exact⟨by simp[binOp,Op.intDiv,this],.int _ _⟩
 case and=>cases h;exact⟨by simp only[binOp,ne_eq,not_true_eq_false,abf,Op.intBits,aai],.int _ _⟩
 case or=>cases h;exact⟨by simp only[binOp,ne_eq,not_true_eq_false,abf,Op.intBits,aai],.int _ _⟩
 case xor=>cases h;exact⟨by simp only[binOp,ne_eq,not_true_eq_false,abf,Op.intBits,aai],.int _ _⟩
 case andNot=>cases h;exact⟨by simp only[binOp,ne_eq,not_true_eq_false,abf,Op.intBits,aai],.int _ _⟩
 all_goals first
  |(cases h;done)
  |(cases h;exact⟨by simp[binOp,Op.intArith],.int _ _⟩)
  |(cases h;exact⟨by simp[binOp,Op.intCmp],.bool _⟩)
theorem nL:∀(x y:List UInt8),bA x y=(x==y)
 |[],[]=>rfl
 |[],_::_=>rfl
 |_::_,[]=>rfl
 | a::x,b::y=>by
  have h1:Nat.beq a.toNat b.toNat=(a==b):=by
   rw[abt];simp only[abF,beq_iff_eq];exact⟨λh=>UInt8.toNat_inj.1 h,λh=>by rw[h]⟩
  simp only[bA,nL x y,h1,List.cons_beq_cons]
theorem xJ:∀(x y:List UInt8),HH x y=Op.bytesLess x y
 |[],[]=>rfl
 |[],_::_=>rfl
 |_::_,[]=>rfl
 | a::x,b::y=>by
  have h1:Nat.beq a.toNat b.toNat=(a==b):=by
   rw[abt];simp only[abF,beq_iff_eq];exact⟨λh=>UInt8.toNat_inj.1 h,λh=>by rw[h]⟩
  have h2:Nat.blt a.toNat b.toNat=decide (a<b):=by
   rw[abt];simp only[Nat.blt_eq,decide_eq_true_eq];exact UInt8.lt_iff_toNat_lt.symm
  simp only[HH,xJ x y,h1,h2,Op.bytesLess]
theorem qx(a:ByteArray):sb a=a.toList:=(ByteArray.toList_eq a).symm
theorem UT{a b:ByteArray}:bA (sb a) (sb b)=(a.toList==b.toList):=by rw[nL,qx,qx]
theorem tM{a b:ByteArray}:HH (sb a) (sb b)=Op.bytesLess a.toList b.toList:=by rw[xJ,qx,qx]
theorem MR{a b:ByteArray}(h:bA (sb a) (sb b)=true):a=b:=by
 rw[nL]at h;have h:a.data.toList=b.data.toList:=by simpa[sb]using h
 cases a;cases b
 exact ab3 ByteArray.mk (acE h)
theorem nM{op:BinOp}{a b:ByteArray}{v:Value}{t:TypeId}(h:ADN op a b=some v)(w:World):(binOp op t (.string a) (.string b)).run P w=.ok v w∧AS ρ v v:=by
 cases op<;>simp only[ADN]at h<;>first
  |(cases h;done)
  |(cases h;exact⟨by simp only[binOp,Op.stringOp,aai,UT,tM],.bool _⟩)
  |skip
 rw[cond_eq_ite]at h
 split at h
 ·rename_i hle;have hle:=aaj hle
  cases h
  refine⟨?_,.string _⟩;show(Op.stringOp .add a b).run P w=_;rw[run_string_add_sum (P:=P) w a b hle];congr 2
 ·cases h
theorem UU{d:TypeDesc}{t:TypeId}{x y x' y':Value}{b:Bool}(ht:P.underlying t=some d)(h:ceq d x y=some b)(hx:AS ρ x x')(hy:AS ρ y y')(w:World)(n:Nat) :
  (Op.equalIn (n+1) t x' y').run P w=.ok b w:=by
 rw[Op.equalIn];simp only[aaf,AI ht,aaa];unfold ceq at h;split at h<;>first|(cases h;done)|skip
 all_goals
  cases h
  cases hx<;>cases hy<;>rfl
theorem JH(t:TypeId)(x y:Value):Op.equal t x y=Op.equalIn (9999+1) t x y:=rfl
theorem MS{t:TypeId}{xs Rx:Array Value}{off:Nat}{v:Value}(h:Vu P t xs off=some v)(hx:A4 ρ xs.toList Rx.toList)(w:World):∃v',(part t Rx off).run P w=.ok v' w∧AS ρ v v':=by
 unfold Vu at h
 split at h
 ·rename_i m ha hm
  cases h
  refine⟨.agg (Rx.extract off (off+m)),by simp only[part,aaf,Gi ha,aaa,aar,Bb hm,aai],.jB ?_⟩;refine⟨by simp;have:=hx.1;simp at this;rw[this],λi hi=>?_⟩;have hs:xs.size=Rx.size:=by simpa using hx.1
  simp at hi;have:=hx.2 (off+i) (by simp;omega);simp only[aah,abj]at this ⊢;rw[aci,aci,aae (by omega),aae (by omega)];exact this
 ·rename_i ha;obtain⟨y,hy,hv⟩:=hx.get (i:=off) (x:=v) (by simpa using h);have hy:Rx[off]?=some y:=by simpa using hy
  exact⟨y,by simp only[part,aaf,Gi ha,aaa,aaD,abf,hy,aai],hv⟩
 ·cases h
theorem jG{eq:TypeId→Value→Value→Option Bool}{n:Nat}(hq:∀t x y b x' y',eq t x y=some b→AS ρ x x'→AS ρ y y'→∀w:World,(Op.equalIn n t x' y').run P w=.ok b w)
  {xs ys Rx XB:Array Value} (hx:A4 ρ xs.toList Rx.toList) (hy:A4 ρ ys.toList XB.toList) (w:World):∀(fs:List Field) (b:Bool),iu P eq xs ys fs=some b→(Op.eqFields n Rx XB fs).run P w=.ok b w:=by
 intro fs
 induction fs with
 |nil=>intro b h;cases h;simp[Op.eqFields]
 | cons f fs ih=>
  intro b h;simp only[iu,cond_eq_ite]at h
  split at h
  ·rename_i hn; have hn:f.name="_":=by simpa using hn
   simp only[Op.eqFields,hn,ne_eq,not_true_eq_false,abf];exact ih b h
  ·rename_i hn; have hn:f.name≠"_":=by simpa using hn
   split at h
   ·rename_i u v hu hv;obtain⟨u',YT,ru⟩:=MS hu hx w;obtain⟨v',ID,rv⟩:=MS hv hy w;simp only[Op.eqFields,aae hn,aaf,YT,ID,aaa]
    split at h
    ·rename_i he;rw[hq _ _ _ _ _ _ he ru rv w];simp only[aaa,aav,aaD,abf];exact ih b h
    ·rename_i he
     cases h
     rw[hq _ _ _ _ _ _ he ru rv w];simp
    ·cases h
   ·cases h
theorem V3(t:TypeId)(x y:Operand)(a b:Value):∀op,(op=BinOp.eql∨op=.neq)→(eqGuard op t x y a b)=(match a,b with
  | .nilIface,.nilIface=>
   if((match x with| .const _=>true|_=>false)||(match y with| .const _=>true|_=>false))=true then pure ()else do
   if ←Op.eqGuardIn Op.maxDepth t a b then unsupported (.noEntry "binop/eql: two nil values of an interface type with methods, neither of them the literal nil")
  | .agg _,.agg _=>do
   if !(←program).eqGuardType (←program).depth t then return
   if ←Op.eqGuardIn Op.maxDepth t a b then unsupported (.noEntry "binop/eql: two nil values of an interface type with methods, in a part of a struct or an array")
  |_,_=>pure ()):=by
 rintro op (rfl|rfl)<;>rfl
theorem xK(x y:Operand):(isConst x||isConst y)=true→((match x with| .const _=>true|_=>false)||(match y with| .const _=>true|_=>false))=true:=by
 cases x<;>cases y<;>intro h<;>first|rfl|cases h
theorem Fm{op:BinOp}{t:TypeId}{x y:Operand}{a b:Value}(UW:op=.eql∨op=.neq)(h1:∀u v,¬(a=.agg u∧b=.agg v))(h2:¬(a=.nilIface∧b=.nilIface)∨(isConst x||isConst y)=true)(w:World) :
  (eqGuard op t x y a b).run P w=.ok () w:=by
 rw[V3 t x y a b op UW]
 split
 ·rcases h2 with h2|h2
  ·exact(h2 ⟨rfl,rfl⟩).elim
  ·rw[aae (xK x y h2)];rfl
 ·exact(h1 _ _ ⟨rfl,rfl⟩).elim
 ·rfl
theorem JX{op:BinOp}{t:TypeId}{x y:Operand}{a b:Value}(h:op≠.eql)(k:op≠.neq)(w:World):(eqGuard op t x y a b).run P w=.ok () w:=by
 cases op<;>first|rfl|exact(h rfl).elim|exact(k rfl).elim
theorem cD{d:TypeDesc}{x y x' y':Value}{b:Bool}(h:ceq d x y=some b)(hx:AS ρ x x')(hy:AS ρ y y') :
  (∀u v,¬(x'=.agg u∧y'=.agg v))∧¬(x'=.nilIface∧y'=.nilIface):=by
 unfold ceq at h;split at h<;>first|(cases h;done)|skip
 all_goals
  cases hx<;>cases hy<;>exact⟨λu v h=>by simp at h,λh=>by simp at h⟩
theorem cE{d:TypeDesc}{t:TypeId}{x y x' y':Value}{b:Bool}(h:ceq d x y=some b)(hx:AS ρ x x')(hy:AS ρ y y') :
  binOp .eql t x' y'=(do pure (.bool (←Op.equal t x' y')))∧binOp .neq t x' y'=(do pure (.bool (!(←Op.equal t x' y')))):=by
 unfold ceq at h;split at h<;>first|(cases h;done)|skip
 all_goals
  cases hx<;>cases hy<;>exact⟨rfl,rfl⟩
theorem tN{eq:Value→Value→Option Bool}{elem:TypeId}{n m:Nat}(hq:∀x y b x' y',eq x y=some b→AS ρ x x'→AS ρ y y'→∀w:World,(Op.equalIn n elem x' y').run P w=.ok b w)
  {xs ys Rx XB:Array Value} (hx:A4 ρ xs.toList Rx.toList) (hy:A4 ρ ys.toList XB.toList) (w:World):∀(k i:Nat) (b:Bool),qo P eq elem m xs ys k i=some b→
   (forIn (List.range' i k) ((none,()):Option Bool×Unit) (λj _=>do
    if(!(←Op.equalIn n elem (←part elem Rx (j*m)) (←part elem XB (j*m))))=true then pure (ForInStep.done (some false,()))else pure (ForInStep.yield (none,()))):Sem (Option Bool×Unit)).run P w=.ok (if b then(none,())else(some false,())) w:=by
 intro k
 induction k with
 |zero=>intro i b h;cases h;simp
 | succ k ih=>
  intro i b h;simp only[qo]at h
  split at h
  ·rename_i u v hu hv;obtain⟨u',YT,ru⟩:=MS hu hx w;obtain⟨v',ID,rv⟩:=MS hv hy w;simp only[List.range'_succ,List.forIn_cons,aaf,YT,ID,aaa]
   split at h
   ·rename_i he;rw[hq _ _ _ _ _ he ru rv w];simp only[aaa,aav,aaD,abf,aai];exact ih (i+1) b h
   ·rename_i he
    cases h
    rw[hq _ _ _ _ _ he ru rv w];simp
   ·cases h
  ·cases h
theorem RC:∀(n:Nat) (t:TypeId) (x y:Value) (b:Bool) (x' y':Value),iv P n t x y=some b→AS ρ x x'→AS ρ y y'→∀(m:Nat),n≤m→∀w:World,(Op.equalIn m t x' y').run P w=.ok b w:=by
 intro n
 induction n with
 |zero=>intro t x y b x' y' h;cases h
 | succ n ih=>
  intro t x y b x' y' h hx hy m hm w;obtain⟨m,rfl⟩:∃k,m=k+1:=⟨m-1,by omega⟩
  have hm:n≤m:=by omega
  simp only[iv]at h
  split at h
  ·cases h
  rename_i d hd
  split at h
  ·rename_i fs xs ys;rw[cond_eq_ite]at h
   split at h
   ·cases h
   ·rename_i hs;have hs:P.stoodInHeld t=false:=by simpa using hs
    obtain⟨Rx,rfl,rx⟩:=hx.Gw;obtain⟨XB,rfl,ry⟩:=hy.Gw;have hf:P.fieldsOf t=fs:=by simp[Program.fieldsOf,hd]
    rw[run_equalIn_struct (P:=P) w m t Rx XB (by rw[hf];exact hd) hs,hf];exact jG (λt x y b x' y' h1 h2 h3 w=>ih t x y b x' y' h1 h2 h3 m hm w) rx ry w _ _ h
  ·rename_i len elem xs ys;obtain⟨Rx,rfl,rx⟩:=hx.Gw;obtain⟨XB,rfl,ry⟩:=hy.Gw
   split at h
   ·rename_i s hs;have:=tN (m:=s) (λx y b x' y' h1 h2 h3 w=>ih elem x y b x' y' h1 h2 h3 m hm w) rx ry w len 0 b h;rw[Op.equalIn];simp only[aaf,AI hd,aaa,Bb hs,Std.Legacy.Range.forIn_eq_forIn_range',Std.Legacy.Range.size,acP,Nat.add_sub_cancel,Nat.div_one];rw[this]
    cases b<;>simp
   ·cases h
  ·rename_i k1 a k2 b2;rw[cond_eq_ite]at h
   split at h
   ·rename_i hk;have hk:k1=k2:=by simpa using hk
    subst hk
    cases h;cases hx;cases hy
    rw[Op.equalIn];simp only[aaf,AI hd,aaa,aar,aai]
   ·cases h
  ·rename_i a b2
   cases h;cases hx;cases hy
   rw[Op.equalIn];simp only[aaf,AI hd,aaa,aai,UT,beq_toListBytes]
  ·exact UU hd h hx hy w m
theorem V4{op:BinOp}{t:TypeId}{x y:Operand}{xs ys:Array Value}(UW:op=.eql∨op=.neq)(hg:P.eqGuardType P.depth t=false)(w:World) :
  (eqGuard op t x y (.agg xs) (.agg ys)).run P w=.ok () w:=by
 rw[V3 t x y _ _ op UW];simp only[aaf,run_program,aaa,hg,aa6,aar,aai]
theorem cF(t:TypeId)(xs ys:Array Value):binOp .eql t (.agg xs) (.agg ys)=(do pure (.bool (←Op.equal t (.agg xs) (.agg ys))))∧binOp .neq t (.agg xs) (.agg ys)=(do pure (.bool (!(←Op.equal t (.agg xs) (.agg ys))))):=⟨rfl,rfl⟩
theorem V5{t:TypeId}{m:Array (String×TypeId)}(ht:P.underlying t=some (.interface m))(n:Nat)(w:World):(Op.equalIn (n+1) t .nilIface .nilIface).run P w=.ok true w:=by
 rw[Op.equalIn];simp only[aaf,AI ht,aaa,aai]
theorem cG(t:TypeId):binOp .eql t .nilIface .nilIface=(do pure (.bool (←Op.equal t .nilIface .nilIface)))∧binOp .neq t .nilIface .nilIface=(do pure (.bool (!(←Op.equal t .nilIface .nilIface)))):=⟨rfl,rfl⟩
theorem nN{op:BinOp}{t:TypeId}{x y:Operand}{vx vy V2 vy' v:Value}(h:DL P op t (isConst x||isConst y) vx vy=some v)(hx:AS ρ vx V2)(hy:AS ρ vy vy')(w:World) :
  ∃v',(do eqGuard op t x y V2 vy';binOp op t V2 vy':Sem Value).run P w=.ok v' w∧AS ρ v v':=by
 unfold DL at h
 split at h
 ·rw[cond_eq_ite]at h
  split at h
  ·cases h
  ·rename_i hb
   cases h
   cases hx;cases hy
   simp only[decide_eq_true_eq]at hb;exact⟨_,by simp only[aaf,JX (op:=.shl) (by simp) (by simp),aaa,binOp,Op.shift,hb,abf,aai],.int _ _⟩
 ·rw[cond_eq_ite]at h
  split at h
  ·cases h
  ·rename_i hb
   cases h
   cases hx;cases hy
   simp only[decide_eq_true_eq]at hb;exact⟨_,by simp only[aaf,JX (op:=.shr) (by simp) (by simp),aaa,binOp,Op.shift,hb,abf,aai],.int _ _⟩
 ·rename_i k a k' b h1 h2;rw[cond_eq_ite]at h
  split at h
  ·rename_i hk;have hk:k=k':=by simpa using hk
   subst hk
   cases hx;cases hy
   obtain⟨hr,hv⟩:=nK (P:=P) (ρ:=ρ) (t:=t) h w;refine⟨v,?_,hv⟩
   have hg:(eqGuard op t x y (.int k a) (.int k b)).run P w=.ok () w:=by
    by_cases e1:op=.eql
    ·exact Fm (.inl e1) (λu v h=>by simp at h) (.inl λh=>by simp at h) w
    ·by_cases e2:op=.neq
     ·exact Fm (.inr e2) (λu v h=>by simp at h) (.inl λh=>by simp at h) w
     ·exact JX e1 e2 w
   simp only[aaf,hg,aaa,hr]
  ·cases h
 ·rename_i a b
  cases hx;cases hy
  obtain⟨hr,hv⟩:=nM (P:=P) (ρ:=ρ) (t:=t) h w;refine⟨v,?_,hv⟩
  have hg:(eqGuard op t x y (.string a) (.string b)).run P w=.ok () w:=by
   by_cases e1:op=.eql
   ·exact Fm (.inl e1) (λu v h=>by simp at h) (.inl λh=>by simp at h) w
   ·by_cases e2:op=.neq
    ·exact Fm (.inr e2) (λu v h=>by simp at h) (.inl λh=>by simp at h) w
    ·exact JX e1 e2 w
  simp only[aaf,hg,aaa,hr]
 ·rw[cond_eq_ite]at h
  split at h
  ·cases h
  ·rename_i hg;have hg:P.eqGuardType P.depth t=false:=by simpa using hg
   rw[aat]at h;obtain⟨b,hb,rfl⟩:=h;obtain⟨Rx,rfl,_⟩:=hx.Gw;obtain⟨XB,rfl,_⟩:=hy.Gw;refine⟨.bool b,?_,.bool _⟩;simp only[aaf,V4 (.inl rfl) hg,aaa,(cF t Rx XB).1,JH,RC 20 _ _ _ _ _ _ hb hx hy 10000 (by omega),aai]
 ·rw[cond_eq_ite]at h
  split at h
  ·cases h
  ·rename_i hg;have hg:P.eqGuardType P.depth t=false:=by simpa using hg
   rw[aat]at h;obtain⟨b,hb,rfl⟩:=h;obtain⟨Rx,rfl,_⟩:=hx.Gw;obtain⟨XB,rfl,_⟩:=hy.Gw;refine⟨.bool (!b),?_,.bool _⟩;simp only[aaf,V4 (.inr rfl) hg,aaa,(cF t Rx XB).2,JH,RC 20 _ _ _ _ _ _ hb hx hy 10000 (by omega),aai]
 ·split at h
  ·rename_i m hm;rw[cond_eq_ite]at h
   split at h
   ·rename_i hc
    cases h
    cases hx;cases hy
    refine⟨.bool true,?_,.bool _⟩;simp only[aaf,Fm (a:=.nilIface) (b:=.nilIface) (.inl rfl) (λu v h=>by simp at h) (.inr hc),aaa,(cG t).1,JH,V5 hm,aai]
   ·cases h
  ·cases h
 ·split at h
  ·rename_i m hm;rw[cond_eq_ite]at h
   split at h
   ·rename_i hc
    cases h
    cases hx;cases hy
    refine⟨.bool false,?_,.bool _⟩;simp only[aaf,Fm (a:=.nilIface) (b:=.nilIface) (.inr rfl) (λu v h=>by simp at h) (.inr hc),aaa,(cG t).2,JH,V5 hm,aai];rfl
   ·cases h
  ·cases h
 ·split at h
  ·rename_i d hd;rw[aat]at h;obtain⟨b,hb,rfl⟩:=h;obtain⟨s1,s2⟩:=cD hb hx hy;refine⟨.bool b,?_,.bool _⟩;simp only[aaf,Fm (.inl rfl) s1 (.inl s2),aaa,(cE (t:=t) hb hx hy).1,JH,UU hd hb hx hy,aai]
  ·cases h
 ·split at h
  ·rename_i d hd;rw[aat]at h;obtain⟨b,hb,rfl⟩:=h;obtain⟨s1,s2⟩:=cD hb hx hy;refine⟨.bool (!b),?_,.bool _⟩;simp only[aaf,Fm (.inr rfl) s1 (.inl s2),aaa,(cE (t:=t) hb hx hy).2,JH,UU hd hb hx hy,aai]
  ·cases h
 ·cases h
theorem xL{op:BinOp}{t t2:TypeId}{x y:Operand}(ho:o.op=.binOp op t x y t2)(h:Bm P o e W=some outs)(hw:Aa P w0 ρ W w)(hx:AS ρ (e x) (e' x))(hy:AS ρ (e y) (e' y)) :
  BU P w0 ρ W ((execOp e' o).run P w) outs:=by
 simp only[Bm,ho]at h;obtain⟨v,hv,rfl⟩:=F2 h;obtain⟨v',hr,ID⟩:=nN hv hx hy w;refine .value hw ?_ ID;simp only[execOp,ho];exact BZ hr
end
section
variable {P:Program}{w0:World}{ρ:CJ}{W:CW}{w:World}{o:Oper}{e e':Operand→Value}{outs:List (B_×CW)}
theorem A4.set{c c':Array Value}(h:A4 ρ c.toList c'.toList){v v':Value}(hv:AS ρ v v')(i:Nat):A4 ρ (c.setIfInBounds i v).toList (c'.setIfInBounds i v').toList:=by
 rw[A4.arr]at h ⊢;refine⟨by simp[h.1],λj hj=>?_⟩;rw[abG]at hj;have hj':j<c'.size:=h.1▸hj;have h2:=h.2 j hj;simp only[aal]at h2 ⊢;rw[aaV,aaV]
 by_cases e:i=j
 ·rw[aae e,aae e,aae (by omega),aae (by omega)];exact hv
 ·rw[aad e,aad e];exact h2
theorem bP(off:Nat):∀(vs vs':List Value) (k:Nat) (c c':Array Value),A4 ρ vs vs'→A4 ρ c.toList c'.toList→
  A4 ρ ((vs.zipIdx k).foldl (λcs (p:Value×Nat)=>cs.setIfInBounds (off+p.2) p.1) c).toList ((vs'.zipIdx k).foldl (λcs (p:Value×Nat)=>cs.setIfInBounds (off+p.2) p.1) c').toList:=by
 intro vs
 induction vs with
 |nil=>
  intro vs' k c c' h hc
  cases vs' with
  |nil=>exact hc
  |cons y ys=>have:=h.1;simp at this
 | cons x xs ih=>
  intro vs' k c c' h hc
  cases vs' with
  |nil=>have:=h.1;simp at this
  |cons y ys=>
   simp only[List.zipIdx_cons,acm];exact ih ys (k+1) _ _ h.tail (hc.set h.head _)
inductive fE(ρ:CJ):List (Nat×Value)→List (Nat×Value)→Prop
 |nil:fE ρ [] []
 |cons (i:Nat) {v v':Value} {xs ys:List (Nat×Value)}:AS ρ v v'→fE ρ xs ys→fE ρ ((i,v)::xs) ((i,v')::ys)
theorem fE.map(xs:List (Nat×Operand))(h:∀p,p∈xs→AS ρ (e p.2) (e' p.2)):fE ρ (xs.map λ(i,x)=>(i,e x)) (xs.map λ(i,x)=>(i,e' x)):=by
 induction xs with
 |nil=>exact .nil
 |cons p xs ih=>exact .cons _ (h p (by simp)) (ih λq hq=>h q (by simp[hq]))
theorem YV(place:Nat→Option (Nat×Nat)):∀{xs ys:List (Nat×Value)},fE ρ xs ys→∀{c c' r:Array Value},A4 ρ c.toList c'.toList→Instr.fill place c xs=some r→
  ∃r',Instr.fill place c' ys=some r'∧A4 ρ r.toList r'.toList:=by
 intro xs ys h
 induction h with
 |nil=>
  intro c c' r hc hr;simp only[Instr.fill,aam]at hr;subst hr;exact⟨c',rfl,hc⟩
 | @cons i v v' xs ys hv hp ih=>
  intro c c' r hc hr;rw[Instr.fill]at hr ⊢
  cases Wk:place i with
  |none=>rw[Wk]at hr;cases hr
  |some q=>
   obtain⟨off,size⟩:=q;rw[Wk]at hr;simp only at hr ⊢;have OO:=hv.cells;have e1:v'.cells.size=v.cells.size:=by have:=OO.1;simpa using this.symm
   have e2:c'.size=c.size:=by have:=hc.1;simpa using this.symm
   rw[e1,e2]
   split at hr
   ·cases hr
   ·rename_i Bn;rw[aad Bn];refine ih ?_ hr;rw[←ac2,←ac2,Array.toList_zipIdx,Array.toList_zipIdx];exact bP off _ _ 0 _ _ OO hc
theorem jH{fs:List Field}{pl:List (Nat×Nat)}(h:(fs.mapM λf=>(EM P f.type).map λs=>(f.offset,s))=some pl)(w:World) :
  (fs.mapM λf=>(do pure (f.offset,←sizeOf f.type):Sem (Nat×Nat))).run P w=.ok pl w:=by
 induction fs generalizing pl with
 |nil=>simp only[List.mapM_nil,Option.pure_def,aam]at h;subst h;simp
 | cons f fs ih=>
  rw[acL]at h
  cases hs:EM P f.type with
  |none=>simp[hs]at h
  | some s=>
   simp only[hs,aba,Option.bind_eq_bind,acf]at h
   cases hr:(fs.mapM λf=>(EM P f.type).map λs=>(f.offset,s))with
   |none=>simp[hr]at h
   |some pl2=>
    simp only[hr,acf,Option.pure_def,aam]at h;subst h;rw[acL];simp only[aaf,Bb hs,aaa,aai,ih hr]
theorem xM(hz:ZP P){t:TypeId}{parts:Array (Nat×Operand)}(ho:o.op=.build t parts)(h:Bm P o e W=some outs)(hw:Aa P w0 ρ W w)(hp:∀p,p∈parts.toList→AS ρ (e p.2) (e' p.2)) :
  BU P w0 ρ W ((execOp e' o).run P w) outs:=by
 simp only[Bm,ho]at h;obtain⟨v,hv,rfl⟩:=F2 h
 split at hv
 ·rename_i z fields M4 ht
  split at hv
  ·rename_i RA Wk;rw[aat]at hv;obtain⟨r,hr,rfl⟩:=hv;obtain⟨r',JY,DZ⟩:=YV _ (fE.map (e:=e) (e':=e') parts.toList hp) (hz.rel M4 ρ).cells hr;refine .value hw (v':=.agg r') ?_ (.jB DZ);simp only[execOp,ho];refine BZ ?_
   have hm:(fields.mapM λf=>(do pure (f.offset,←sizeOf f.type):Sem (Nat×Nat))).run P w=.ok RA.toArray w:=by
    have:=jH Wk w;rw[←Array.toArray_toList (xs:=fields),List.mapM_toArray];simp only[Sem.run_map,this,aaa]
   simp only[Instr.build,aaf,CA M4,aaa,AI ht,hm];have:(λi:Nat=>RA.toArray[i]?)=(λi:Nat=>RA[i]?):=by funext i;simp
   rw[this,acg,JY];rfl
  ·cases hv
 ·rename_i z n elem M4 ht
  split at hv
  ·rename_i s hs;rw[aat]at hv;obtain⟨r,hr,rfl⟩:=hv;obtain⟨r',JY,DZ⟩:=YV _ (fE.map (e:=e) (e':=e') parts.toList hp) (hz.rel M4 ρ).cells hr;refine .value hw (v':=.agg r') ?_ (.jB DZ);simp only[execOp,ho];refine BZ ?_;simp only[Instr.build,aaf,CA M4,aaa,AI ht,Bb hs];rw[acg,JY];rfl
  ·cases hv
 ·cases hv
theorem PO(hz:ZP P){t:TypeId}{z:Value}(M4:Is P t=some z)(n:Nat)(hn:n=0∨0<z.cells.size)(k:Nat)(hk:k<n) :
  AS ρ (cellAt .nil z.cells k) (((Array.range n).map (z.cells[· %z.cells.size]!)).getD k undef):=by
 have UR:0<z.cells.size:=by omega
 have Ad:k%z.cells.size<z.cells.size:=ac8 _ UR;have h1:cellAt .nil z.cells k=z.cells.getD (k%z.cells.size) undef:=rfl
 have h2:((Array.range n).map (z.cells[· %z.cells.size]!)).getD k undef=z.cells.getD (k%z.cells.size) undef:=by
  simp[aal,hk,Ad]
 rw[h1,h2];have hc:=(hz.rel M4 ρ).cells.2 (k%z.cells.size) (by simpa using Ad)
 simpa[aal,aah]using hc
theorem bQ(hz:ZP P){t:TypeId}{len:Nat}{parts:Array (Nat×Operand)}(ho:o.op=.buildSlice t len parts)(h:Bm P o e W=some outs)(hw:Aa P w0 ρ W w)(hp:∀p,p∈parts.toList→AS ρ (e p.2) (e' p.2)) :
  BU P w0 ρ W ((execOp e' o).run P w) outs:=by
 simp only[Bm,ho]at h;obtain⟨v,W1,hv,rfl⟩:=PN h
 split at hv
 ·rename_i elem ht;obtain⟨s,hs,hv⟩:=Ao hv;obtain⟨z,M4,hv⟩:=Ao hv;rw[cond_eq_ite]at hv
  split at hv
  ·rename_i Bn;simp only[aab]at Bn;have hle:=aaj Bn.1;have KB:=aac Bn.2
   split at hv
   ·rename_i cs AG4;simp only[aam,aau]at hv;obtain⟨rfl,rfl⟩:=hv
    have hzero:len*s=0∨0<z.cells.size:=by
     rw[KB]
     rcases abK s with h0|h0
     ·left;rw[h0];rfl
     ·exact .inr h0
    have AG5:A4 ρ ((Bj .nil z.cells (len*s) 0).toArray).toList ((Array.range (len*s)).map (z.cells[· %z.cells.size]!)).toList:=by
     refine⟨by simp[BK],λi hi=>?_⟩;have hi:i<len*s:=by simpa[BK]using hi
     have:=PO (ρ:=ρ) hz M4 (len*s) hzero i hi;have e1:=HK .nil z.cells (len*s) 0 i hi;rw[aaL]at e1;simp only[e1];rw[aal,←abj]at this;rw[aah];exact this
    obtain⟨r',JY,DZ⟩:=YV _ (fE.map (e:=e) (e':=e') parts.toList hp) AG5 AG4
    obtain⟨ρ',Dy,_,KR,ha⟩:=SJ hw (c:=Tr.nil.AW 0 cs.toList) (z:=#[]) (n:=cs.size) (c':=r') hs (by simpa using DZ.1.symm) (λk hk=>by
     rw[C6 _ _ _ (by simpa using hk)];have:=DZ.2 k (by simpa using hk)
     simpa[aal,aah]using this)
    refine⟨_,_,ρ',dy.2 rfl,Dy,.value (w:={w with heap:=w.heap.push (.cells r' elem)}) ?_ (.slice _ ha (.inl rfl)) KR⟩;simp only[execOp,ho];refine BZ ?_;have LX:¬len*s>2^24:=by omega
    have nO:∀f g:Nat→Value,len*s=0→(Array.range (len*s)).map f=(Array.range (len*s)).map g:=λf g h0=>by simp[h0]
    simp only[Instr.buildSlice,aaf,AI ht,aaa,Bb hs];rw[aad LX]
    by_cases h0:len*s=0
    ·rw[aae h0];simp only[aaf,aai,aaa];rw[nO _ (z.cells[· %z.cells.size]!) h0,acg,JY];simp[newRow]
    ·rw[aad h0];simp only[aaf,CA M4,aai,aaa];rw[acg,JY];simp[newRow]
   ·cases hv
  ·cases hv
 ·cases hv
theorem QL{t elem:TypeId}{k1 k2:IntKind}{ln cp:Int}{s:Nat}{z:Value}(ht:P.underlying t=some (.slice elem))(hs:EM P elem=some s)(M4:Is P elem=some z)(c1:0≤ln)(c2:ln≤cp)(c3:cp≤2000000)
  (c4:(P.info? elem).map (·.bytes)|>.getD 0|>(·≤1024)) (w:World) :
  (Instr.makeSlice t (.int k1 ln) (.int k2 cp)).run P w=.ok (.slice (some ⟨w.heap.size,0,none⟩) ln.toNat cp.toNat) {w with heap:=w.heap.push (.cells ((Array.range (cp.toNat*s)).map (z.cells[· %z.cells.size]!)) elem)}:=by
 obtain⟨info,jI⟩:∃i,P.info? elem=some i:=by
  unfold EM at hs
  cases hi:P.info? elem with
  |none=>simp[hi]at hs
  |some i=>exact⟨i,rfl⟩
 have hb:info.bytes≤1024:=by simpa[jI]using c4
 have w1:IntKind.i64.wrap ln=ln:=by unfold IntKind.wrap;simp[IntKind.bits,IntKind.signed];omega
 have w2:IntKind.i64.wrap cp=cp:=by unfold IntKind.wrap;simp[IntKind.bits,IntKind.signed];omega
 have LX:(info.bytes:Int)*cp≤2^48:=by
  have h1:(info.bytes:Int)*cp≤1024*cp:=Int.mul_le_mul_of_nonneg_right (by omega) (by omega);omega
 have t1:(decide (cp<0)||decide ((info.bytes:Int)*cp>2^48))=false:=by simp;omega
 simp only[Instr.makeSlice,aaf,AI ht,aaa,asInt,asIntOf,aai,JW jI,w1,w2,aaU,decide_eq_true_eq];rw[aad (by omega)];simp only[aaf,run_askRoom,aaa,Bb hs];have nO:∀f g:Nat→Value,cp.toNat*s=0→(Array.range (cp.toNat*s)).map f=(Array.range (cp.toNat*s)).map g:=λf g h0=>by simp[h0]
 by_cases h0:cp.toNat*s=0
 ·rw[aae h0];simp only[aaf,aai,aaa];rw[nO _ (z.cells[· %z.cells.size]!) h0];simp[newRow]
 ·rw[aad h0];simp only[aaf,CA M4,aai,aaa,newRow,run_newObj]
theorem fF(hz:ZP P){t:TypeId}{l c:Operand}(ho:o.op=.makeSlice t l c)(h:Bm P o e W=some outs)(hw:Aa P w0 ρ W w)(hl:AS ρ (e l) (e' l))(hc:AS ρ (e c) (e' c)) :
  BU P w0 ρ W ((execOp e' o).run P w) outs:=by
 simp only[Bm,ho]at h;obtain⟨v,W1,hv,rfl⟩:=PN h
 split at hv
 ·rename_i elem k1 ln k2 cp ht h1 h2;rw[h1]at hl;rw[h2]at hc;generalize e1:e' l=vl at hl;generalize e2:e' c=vc at hc
  cases hl
  cases hc
  obtain⟨s,hs,hv⟩:=Ao hv;obtain⟨z,M4,hv⟩:=Ao hv;rw[cond_eq_ite]at hv
  split at hv
  ·rename_i Bn;simp only[aab,decide_eq_true_eq]at Bn;obtain⟨⟨⟨⟨⟨c1,c2⟩,c3⟩,c4⟩,c5⟩,c6⟩:=Bn;have c4:=aaj c4;have c5:=aac c5;have c6:0<s:=by have:=aaj c6;omega
   simp only[aam,aau]at hv;obtain⟨rfl,rfl⟩:=hv;obtain⟨ρ',Dy,_,KR,ha⟩:=SJ hw (c:=.nil) (z:=z.cells) (n:=cp.toNat*s) (c':=(Array.range (cp.toNat*s)).map (z.cells[· %z.cells.size]!)) hs (by simp) (λk hk=>PO hz M4 _ (.inr (by omega)) k hk);refine⟨_,_,ρ',dy.2 rfl,Dy,.value (w:={w with heap:=w.heap.push (.cells ((Array.range (cp.toNat*s)).map (z.cells[· %z.cells.size]!)) elem)}) ?_ (.slice _ ha (.inl rfl)) KR⟩;simp only[execOp,ho,e1,e2];exact BZ (QL ht hs M4 c1 c2 c3 c4 w)
  ·cases hv
 ·cases hv
end
section
variable {P:Program}{w0:World}{ρ:CJ}{W:CW}{w:World}{o:Oper}{e e':Operand→Value}{outs:List (B_×CW)}
theorem jJ{f:FuncId}{first cap:Array Operand}(ho:o.op=.makeFunc (.func f) first cap)(h:Bm P o e W=some outs)(hw:Aa P w0 ρ W w)
  (hf:∀x,x∈first.toList→AS ρ (e x) (e' x)) (hc:∀x,x∈cap.toList→AS ρ (e x) (e' x)):BU P w0 ρ W ((execOp e' o).run P w) outs:=by
 simp only[Bm,ho]at h
 cases h
 have h1:=A4.arr.1 (by simpa using A4.map (ρ:=ρ) first.toList e e' hf:A4 ρ (first.map e).toList (first.map e').toList);have h2:=A4.arr.1 (by simpa using A4.map (ρ:=ρ) cap.toList e e' hc:A4 ρ (cap.map e).toList (cap.map e').toList);refine .value hw ?_ (.func (.func f) h1.1 h1.2 h2.1 h2.2);simp only[execOp,ho];exact BZ (by simp[Instr.makeFunc])
theorem nP{t:TypeId}(ho:o.op=.makeMap t none)(h:Bm P o e W=some outs)(hw:Aa P w0 ρ W w):BU P w0 ρ W ((execOp e' o).run P w) outs:=by
 simp only[Bm,ho]at h
 cases h
 obtain⟨Dy,KR⟩:=hw.new (o:=.map [] 0) (o':=.map #[] 0) ⟨w.heap.size,0,0,0,0⟩ rfl (.map rfl trivial);refine⟨_,_,_,dy.2 rfl,Dy,.value (v':=.map (some w.heap.size)) (w:={w with heap:=w.heap.push (.map #[] 0)}) ?_ (.map ⟨⟨w.heap.size,0,0,0,0⟩,by simp,rfl⟩) KR⟩;simp only[execOp,ho];exact BZ (by simp[Instr.makeMap])
theorem fG{t:TypeId}{x:Operand}{i:Nat}(ho:o.op=.fieldAddr t x i)(h:Bm P o e W=some outs)(hw:Aa P w0 ρ W w)(hx:AS ρ (e x) (e' x)) :
  BU P w0 ρ W ((execOp e' o).run P w) outs:=by
 simp only[Bm,ho]at h;obtain⟨v,hv,rfl⟩:=F2 h
 split at hv
 ·rename_i fs a ht hc;rw[hc]at hx;generalize Fh:e' x=V2 at hx
  cases hx with
  | @ptr _ a' ha=>
   split at hv
   ·rename_i fd tO
    split at hv
    ·rename_i m hm;rw[cond_eq_ite]at hv
     split at hv
     ·cases hv
     ·rename_i tJ;have tJ:m≠0:=by simpa using tJ
      cases hv
      refine .value hw (v':=.pointer (some (a'.add fd.offset))) ?_ (.ptr (SG ha _));simp only[execOp,ho,Fh];refine BZ ?_;simp only[Instr.fieldAt,aaf,AI ht,aaa,tO,Instr.sureAddr,aai,fieldPlace,Bb hm,aad tJ]
    ·cases hv
   ·cases hv
 ·cases hv
theorem A4.extract{c c':Array Value}(h:A4 ρ c.toList c'.toList)(i j:Nat):A4 ρ (c.extract i j).toList (c'.extract i j).toList:=by
 rw[A4.arr]at h ⊢;refine⟨by simp[h.1],λk hk=>?_⟩;have hk:k<min j c.size-i:=by simpa using hk
 have h2:=h.2 (i+k) (by omega);have l1:i+k<c.size:=by omega
 have l2:i+k<c'.size:=by omega
 simp only[aal]at h2 ⊢;have g1:(c.extract i j)[k]?=c[i+k]?:=by rw[aci,aae (by omega)]
 have g2:(c'.extract i j)[k]?=c'[i+k]?:=by rw[aci,aae (by omega)]
 rw[g1,g2];exact h2
theorem jK{t:TypeId}{cs iW:Array Value}{off:Nat}{v:Value}(hl:A4 ρ cs.toList iW.toList)
  (h:(agg? P t=some true∧∃m,EM P t=some m∧v=.agg (cs.extract off (off+m)))∨(agg? P t=some false∧cs[off]?=some v)) :
  ∃v',(part t iW off).run P w=.ok v' w∧AS ρ v v':=by
 rcases h with⟨ha,m,hm,rfl⟩|⟨ha,hv⟩
 ·refine⟨.agg (iW.extract off (off+m)),?_,.jB (hl.extract _ _)⟩;simp only[part,aaf,Gi ha,aaa,aar,Bb hm,aai]
 ·obtain⟨y,hy,hr⟩:=hl.get (x:=v) (i:=off) (by simpa using hv);have hy:iW[off]?=some y:=by simpa using hy
  refine⟨y,?_,hr⟩;simp only[part,aaf,Gi ha,aaa,aaD,abf,hy,aai]
theorem xN{t:TypeId}{x:Operand}{i:Nat}(ho:o.op=.field t x i)(h:Bm P o e W=some outs)(hw:Aa P w0 ρ W w)(hx:AS ρ (e x) (e' x)) :
  BU P w0 ρ W ((execOp e' o).run P w) outs:=by
 simp only[Bm,ho]at h;obtain⟨v,hv,rfl⟩:=F2 h
 split at hv
 ·rename_i fs cs ht hc;rw[hc]at hx;generalize Fh:e' x=V2 at hx;obtain⟨iW,rfl,hl⟩:=hx.Gw
  split at hv
  ·rename_i fd tO
   obtain⟨v',hr,ID⟩:=jK (P:=P) (w:=w) (t:=fd.type) (off:=fd.offset) (v:=v) hl (by
    split at hv
    ·rename_i m ha hm
     cases hv
     exact .inl ⟨ha,m,hm,rfl⟩
    ·rename_i ha;exact .inr ⟨ha,hv⟩
    ·cases hv)
   refine .value hw ?_ ID;simp only[execOp,ho,Fh];refine BZ ?_;simp only[Instr.field,aaf,AI ht,aaa,tO,asAgg,aai,hr]
  ·cases hv
 ·cases hv
theorem fH{t:TypeId}{x ix:Operand}(ho:o.op=.indexAddr t x ix)(h:Bm P o e W=some outs)(hw:Aa P w0 ρ W w)(hx:AS ρ (e x) (e' x))(hi:AS ρ (e ix) (e' ix)) :
  BU P w0 ρ W ((execOp e' o).run P w) outs:=by
 simp only[Bm,ho]at h;obtain⟨v,hv,rfl⟩:=F2 h
 split at hv
 ·rename_i k i hci;rw[hci]at hi;generalize Fh:e' ix=vi' at hi
  cases hi
  split at hv
  ·rename_i len elem a ht hc;rw[hc]at hx;generalize UI:e' x=V2 at hx
   cases hx with
   | @ptr _ a' ha=>
    obtain⟨s,hs,hv⟩:=Ao hv;rw[cond_eq_ite]at hv
    split at hv
    ·rename_i Bn;simp only[aab,decide_eq_true_eq]at Bn
     cases hv
     refine .value hw (v':=.pointer (some (a'.add (i.toNat*s)))) ?_ (.ptr (SG ha _));simp only[execOp,ho,Fh,UI];refine BZ ?_;simp only[Instr.indexAt,aaf,asIntOf,aai,aaa,AI ht,Instr.sureAddr,aae Bn,Bb hs]
    ·cases hv
  ·rename_i elem a len cp ht hc;rw[hc]at hx;generalize UI:e' x=V2 at hx
   have:∃a' c',V2=.slice (some a') len c'∧(len=0∨NB ρ a a'):=by
    cases hx with
    |slice _ ha _=>exact⟨_,_,rfl,.inr ha⟩
    |L9 _ _ _ _ _=>exact⟨_,_,rfl,.inl rfl⟩
    |KQ _=>exact⟨_,_,rfl,.inl rfl⟩
   obtain⟨a',c',rfl,UX⟩:=this;obtain⟨s,hs,hv⟩:=Ao hv;rw[cond_eq_ite]at hv
   split at hv
   ·rename_i Bn;simp only[aab,decide_eq_true_eq]at Bn
    cases hv
    have ha:NB ρ a a':=UX.resolve_left (by omega);refine .value hw (v':=.pointer (some (a'.add (i.toNat*s)))) ?_ (.ptr (SG ha _));simp only[execOp,ho,Fh,UI];refine BZ ?_;simp only[Instr.indexAt,aaf,asIntOf,aai,aaa,AI ht,aae Bn,Bb hs]
   ·cases hv
  ·cases hv
 ·cases hv
theorem xO{t:TypeId}{x ix:Operand}(ho:o.op=.index t x ix)(h:Bm P o e W=some outs)(hw:Aa P w0 ρ W w)(hx:AS ρ (e x) (e' x))(hi:AS ρ (e ix) (e' ix)) :
  BU P w0 ρ W ((execOp e' o).run P w) outs:=by
 simp only[Bm,ho]at h;obtain⟨v,hv,rfl⟩:=F2 h
 split at hv
 ·rename_i k i hci;rw[hci]at hi;generalize Fh:e' ix=vi' at hi
  cases hi
  split at hv
  ·rename_i len elem cs ht hc;rw[hc]at hx;generalize UI:e' x=V2 at hx;obtain⟨iW,rfl,hl⟩:=hx.Gw;rw[cond_eq_ite]at hv
   split at hv
   ·rename_i Bn;simp only[aab,decide_eq_true_eq]at Bn
    have:∃m,EM P elem=some m∧((agg? P elem=some true∧∃n,EM P elem=some n∧v=.agg (cs.extract (i.toNat*m) (i.toNat*m+n)))∨(agg? P elem=some false∧cs[i.toNat*m]?=some v)):=by
     split at hv
     ·rename_i m ha hm
      cases hv
      exact⟨m,hm,.inl ⟨ha,m,hm,rfl⟩⟩
     ·rename_i m ha hm;exact⟨m,hm,.inr ⟨ha,hv⟩⟩
     ·cases hv
    obtain⟨m,hm,hp⟩:=this;obtain⟨v',hr,ID⟩:=jK (P:=P) (w:=w) hl hp;refine .value hw ?_ ID;simp only[execOp,ho,Fh,UI];refine BZ ?_;simp only[Instr.index,aaf,asIntOf,aai,aaa,AI ht,aae Bn,Bb hm,hr]
   ·cases hv
  ·rename_i s ht hc;rw[hc]at hx;generalize UI:e' x=V2 at hx
   cases hx
   rw[cond_eq_ite]at hv
   split at hv
   ·rename_i Bn;have Bn:0≤i:=by simpa using Bn
    cases hs:s[i.toNat]? with
    |none=>rw[hs]at hv;cases hv
    |some b=>
     rw[hs]at hv
     cases hv
     refine .value hw ?_ (.int _ _);simp only[execOp,ho,Fh,UI];refine BZ ?_;simp only[Instr.index,aaf,asIntOf,aai,aaa,AI ht,aae Bn,hs]
   ·cases hv
  ·cases hv
 ·cases hv
theorem xP{t:TypeId}{x:Operand}{lo hi mx:Option Operand}(ho:o.op=.slice t x lo hi mx)(h:Bm P o e W=some outs)(hw:Aa P w0 ρ W w)(hx:AS ρ (e x) (e' x))
  (hl:∀y,lo=some y→AS ρ (e y) (e' y)) (hh:∀y,hi=some y→AS ρ (e y) (e' y)) (hm:∀y,mx=some y→AS ρ (e y) (e' y)):BU P w0 ρ W ((execOp e' o).run P w) outs:=by
 simp only[Bm,ho]at h;obtain⟨v,hv,rfl⟩:=F2 h;have rl:=Nw.map (ρ:=ρ) (f:=e) (g:=e') lo hl;have rh:=Nw.map (ρ:=ρ) (f:=e) (g:=e') hi hh;have rm:=Nw.map (ρ:=ρ) (f:=e) (g:=e') mx hm
 split at hv
 ·rename_i s ht hc;rw[hc]at hx;generalize UI:e' x=V2 at hx
  cases hx
  obtain⟨h',hh',hv⟩:=Ao hv;obtain⟨l',V6,hv⟩:=Ao hv;rw[cond_eq_ite]at hv
  split at hv
  ·cases hv
  ·rename_i nH
   cases hv
   have nH:mx=none:=by cases mx<;>simp_all
   subst nH;have hb:=ND (P:=P) (ρ:=ρ) (mx:=none) (mx':=none) (cap:=s.size) (cap':=s.size) (m:=s.size) false rfl hh' V6 rl rh trivial (aag _) (by simp);obtain⟨m',hr,_,_⟩:=hb;refine .value hw ?_ (.string _);simp only[execOp,ho,UI];refine BZ ?_;simp only[Instr.sliceAt,aaf,AI ht,aaa,Instr.slice,Option.map_none,abA,aaD,abf,aai,hr]
 ·obtain⟨v',hr,ID⟩:=fD hw hv hx rl rh rm;refine .value hw ?_ ID;simp only[execOp,ho];exact BZ hr
theorem bR(hz:ZP P){x:Operand}{xt t:TypeId}{ok:Bool}(ho:o.op=.typeAssert x xt t ok)(h:Bm P o e W=some outs)(hw:Aa P w0 ρ W w)(hx:AS ρ (e x) (e' x)) :
  BU P w0 ρ W ((execOp e' o).run P w) outs:=by
 simp only[Bm,ho]at h;obtain⟨v,hv,rfl⟩:=F2 h
 split at hv
 ·cases hv
 ·rename_i d u y h1 h2 hce;have hc:P.underlying t=some d:=by first|exact h1|exact h2
  have ht:∀m,d=.interface m→False:=by first|exact h1|exact h2
  rw[hce]at hx;generalize UI:e' x=V2 at hx
  cases hx with
  | @iface _ _ y' hy=>
   rw[cond_eq_ite]at hv;have D3:∀m,d≠.interface m:=λm hm=>ht m hm
   have run:∀{v':Value},((t=u∧v'=(if ok=true then .tuple #[y',.bool true]else y'))∨(t≠u∧ok=true∧∃z,Is P t=some z∧v'=.tuple #[z,.bool false]))→
     (Instr.typeAssert (.iface u y') xt t ok).run P w=.ok v' w:=by
    intro v' hr;simp only[Instr.typeAssert,aaf,AI hc,aaa]
    rcases hr with⟨mg,rfl⟩|⟨mg,rfl,z,M4,rfl⟩
    ·cases d<;>first|(exact(D3 _ rfl).elim)|(simp[mg])
    ·cases d<;>first|(exact(D3 _ rfl).elim)|(simp[ab8 mg,CA M4])
   split at hv
   ·rename_i mg;have mg:t=u:=by simpa using mg
    cases hv
    refine .value hw (v':=if ok=true then .tuple #[y',.bool true]else y') ?_ ?_
    ·simp only[execOp,ho,UI];exact BZ (run (.inl ⟨mg,rfl⟩))
    ·cases ok
     ·simpa using hy
     ·simp only[cond_true,aar];exact .tuple' (.cons hy (.cons (.bool _) (.nil _)))
   ·rename_i mg;have mg:¬t=u:=by simpa using mg
    cases ok
    ·cases hv
    ·simp only[cond_true]at hv;rw[aat]at hv;obtain⟨z,M4,rfl⟩:=hv;refine .value hw (v':=.tuple #[z,.bool false]) ?_ (.tuple' (.cons (hz.rel M4 ρ) (.cons (.bool _) (.nil _))));simp only[execOp,ho,UI];exact BZ (run (.inr ⟨mg,rfl,z,M4,rfl⟩))
 ·cases hv
theorem xQ{x:Operand}(ho:o.op=.panic x)(h:Bm P o e W=some outs)(hw:Aa P w0 ρ W w)(hx:AS ρ (e x) (e' x)):BU P w0 ρ W ((execOp e' o).run P w) outs:=by
 simp only[Bm,ho]at h
 split at h
 ·rename_i t y hc
  cases h
  rw[hc]at hx;generalize UI:e' x=V2 at hx
  cases hx with
  | @iface _ _ y' hy=>
   refine⟨_,_,ρ,dy.2 rfl,.refl _,.panic (v':=.iface t y') (w:=w) ?_ (.iface _ hy) hw⟩;simp[execOp,ho,UI,Instr.panic]
 ·cases h
theorem xR{c:Call}{f:Operand}(ho:o.op=.defer c)(hf:c.callee=.value f)(h:Bm P o e W=some outs)(hw:Aa P w0 ρ W w)(hx:AS ρ (e f) (e' f))
  (ha:∀x,x∈c.args.toList→AS ρ (e x) (e' x)):BU P w0 ρ W ((execOp e' o).run P w) outs:=by
 simp only[Bm,ho,hf]at h;have Dr:A4 ρ (c.args.map e).toList (c.args.map e').toList:=by simpa using A4.map (ρ:=ρ) c.args.toList e e' ha
 split at h
 ·rename_i fn first cap hc
  cases h
  rw[hc]at hx;generalize UI:e' f=V2 at hx
  cases hx with
  | @func _ f' _ x' _ y' fI h1 h2 h3 h4=>
   cases fI
   refine⟨_,_,ρ,dy.2 rfl,.refl _,.defer (w:=w) (d':={target:=.fn (.func fn) y',args:=x'++c.args.map e'}) ?_ (.fn ?_ ?_) hw⟩
   ·simp only[execOp,ho,resolve,hf,UI,Deferred.ofValue,aaf,aai,aaa]
   ·exact A4.arr.2 ⟨h3,h4⟩
   ·have e1:=A4.arr.2 ⟨h1,h2⟩
    simpa using e1.append Dr
 ·cases h
end
section
variable {P:Program}{w0:World}{ρ:CJ}{W:CW}{w:World}{o:Oper}{e e':Operand→Value}{outs:List (B_×CW)}
theorem A6{r:Nat}{u:Obj}(h:w.heap[r]?=some u)(hc:∀c e z,u≠.cells c e z):(getObj r).run P w=.ok u w:=by
 cases u<;>first|exact(hc _ _ _ rfl).elim|simp[getObj,Sem.run,h]
theorem Dz{r:Nat}{u:Obj}(h:w.heap[r]?=some u)(hc:∀c e z,u≠.cells c e z)(v:Obj):(setObj r v).run P w=.ok () {w with heap:=w.heap.setIfInBounds r v}:=by
 cases u<;>first|exact(hc _ _ _ rfl).elim|simp[setObj,Sem.run,h]
theorem jL{d:TypeDesc}{k k' v v':Value}{b:Bool}(h:Instr.sameNow d k v=some b)(hk:AS ρ k k')(hv:AS ρ v v'):Instr.sameNow d k' v'=some b:=by
 unfold Instr.sameNow at h ⊢;split at h<;>first|(cases h;done)|skip
 all_goals
  cases hk
  cases hv
  exact h
theorem jM{d:TypeDesc}{k k':Value}(hk:AS ρ k k'):∀{es DO:List MapEntry},C0 ρ es DO→∀{i:Nat} {r:Option (Nat×Value)},Instr.findNow d k es i=some r→
  ∃r',Instr.findNow d k' DO i=some r'∧((r=none∧r'=none)∨∃j v v' en,r=some (j,v)∧r'=some (j,v')∧AS ρ v v'∧i≤j∧DO[j-i]?=some en∧Instr.sameNow d k' en.key=some true):=by
 intro es
 induction es with
 |nil=>
  intro DO xS i r h
  cases DO with
  |nil=>simp only[Instr.findNow,aam]at h;subst h;exact⟨none,rfl,.inl ⟨rfl,rfl⟩⟩
  |cons _ _=>exact xS.elim
 | cons en es ih=>
  intro DO xS i r h
  cases DO with
  |nil=>exact xS.elim
  | cons iX DO=>
   obtain⟨h1,h2⟩:=xS
   cases h1 with
   | @mk k1 v1 k1' V7 born nQ xT=>
    rw[Instr.findNow]at h ⊢;simp only at h ⊢
    cases hs:Instr.sameNow d k k1 with
    |none=>rw[hs]at h;cases h
    | some b=>
     have UH:=jL hs hk nQ;rw[hs]at h;rw[UH]
     cases b with
     |true=>
      cases h
      exact⟨_,rfl,.inr ⟨i,v1,V7,⟨k1',V7,born⟩,rfl,rfl,xT,aag _,by simp,UH⟩⟩
     |false=>
      obtain⟨r',JY,BV⟩:=ih h2 h;refine⟨r',JY,BV.imp id ?_⟩;rintro⟨j,v,v',en2,e1,e2,e3,e4,e5,e6⟩;refine⟨j,v,v',en2,e1,e2,e3,by omega,?_,e6⟩;have:j-i=(j-(i+1))+1:=by omega
      rw[this];simpa using e5
theorem jN{d:TypeDesc}{k v:Value}(h:Instr.sameNow d k v=some true):Instr.sameBits 10000 v k=true:=by
 unfold Instr.sameNow at h
 split at h<;>first|(cases h;done)|skip
 ·rename_i k1 a k2 b
  split at h
  ·rename_i hk;subst hk;have:a=b:=by simpa using h
   subst this;simp[Instr.sameBits]
  ·cases h
 ·rename_i a b;have h:(a==b)=true:=by simpa using h
  have:a=b:=by
   cases a;cases b
   have h:(_==_)=true:=h;exact ab3 ByteArray.mk (Array.eq_of_isEqv _ _ (show Array.isEqv _ _ (λa b=>a==b)=true from h))
  subst this;exact h
 ·rename_i a b;have:a=b:=by simpa using h
  subst this;simp[Instr.sameBits]
theorem fJ{b:Bool}{t:TypeId}{d:TypeDesc}{k:Value}(hu:P.underlying t=some d)(hs:K2 d=true)(w:World):(Instr.checkKey b 10000 t k).run P w=.ok () w:=by
 rw[Instr.checkKey];simp only[aaf,AI hu,aaa]
 cases d<;>first|(cases hs;done)|rfl
theorem xU(d:TypeDesc)(k v:Value):R6 d k v=Instr.sameNow d k v:=by
 unfold R6
 split
 ·rename_i a b;simp only[Instr.sameNow,UT,beq_toListBytes]
 ·rfl
theorem V8(d:TypeDesc)(k:Value):∀(es:List MapEntry) (i:Nat),MN d k es i=Instr.findNow d k es i
 |[],_=>rfl
 |e::es,i=>by simp only[MN,Instr.findNow,xU,V8 d k es];rfl
theorem YW{x y x' y':Value}(h:Q_ x y=true)(hx:AS ρ x x')(hy:AS ρ y y'):x'=y'∧∀n,Instr.sameBits n y' x'=true:=by
 unfold Q_ at h
 split at h
 ·simp only[aab,decide_eq_true_eq]at h;obtain⟨rfl,rfl⟩:=h
  cases hx;cases hy
  exact⟨rfl,λn=>by cases n<;>simp[Instr.sameBits]⟩
 ·have:=MR h;subst this
  cases hx;cases hy
  exact⟨rfl,λn=>by cases n<;>simp[Instr.sameBits,beq_toListBytes]⟩
 ·have:=eq_of_beq h;subst this
  cases hx;cases hy
  exact⟨rfl,λn=>by cases n<;>simp[Instr.sameBits]⟩
 ·cases h
theorem SK:∀{xs ys Rx XB:List Value},R7 xs ys=true→A4 ρ xs Rx→A4 ρ ys XB→Rx=XB∧∀n,((XB.zip Rx).all λ(x,y)=>Instr.sameBits n x y)=true
 |[],[],Rx,XB,_,hx,hy=>by
  have h1:Rx=[]:=aaG.1 hx.1.symm;have h2:XB=[]:=aaG.1 hy.1.symm;subst h1 h2;exact⟨rfl,λ_=>rfl⟩
 |x::xs,y::ys,[],_,_,hx,_=>by have:=hx.1;simp at this
 |x::xs,y::ys,_::_,[],_,_,hy=>by have:=hy.1;simp at this
 |x::xs,y::ys,x'::Rx,y'::XB,h,hx,hy=>by
  simp only[R7,aab]at h;obtain⟨e1,e2⟩:=YW h.1 hx.head hy.head;obtain⟨e3,e4⟩:=SK h.2 hx.tail hy.tail;exact⟨by rw[e1,e3],λn=>by simp only[abp,abv,e2 n,e4 n,acq]⟩
 |[],_::_,_,_,h,_,_=>by cases h
 |_::_,[],_,_,h,_,_=>by cases h
theorem jO{k v k' v':Value}(h:ew k v=true)(hk:AS ρ k k')(hv:AS ρ v v'):Instr.sameBits 10000 v' k'=true:=by
 unfold ew at h
 split at h
 ·obtain⟨Rx,rfl,hx⟩:=hk.Gw;obtain⟨XB,rfl,hy⟩:=hv.Gw;obtain⟨e1,e2⟩:=SK h hx hy;have e:Rx=XB:=acE e1;rw[show(10000:Nat)=9999+1 from rfl,Instr.sameBits];rw[e2 9999,e];simp
 ·cases h
theorem Wl{b:Bool}{n:Nat}{cs iW:Array Value}(hc:A4 ρ cs.toList iW.toList)(w:World):∀(fs:List Field),
  (fs.all fun f=>!(f.name == "_") && (match P.underlying f.type with | some d=>K2 d | none=>false) && (Vu P f.type cs f.offset).isSome)=true →
  (forIn fs PUnit.unit (λf _=>do
   if f.name≠"_" then do Instr.checkKey b (n+1) f.type (←part f.type iW f.offset); pure (ForInStep.yield PUnit.unit) else pure (ForInStep.yield PUnit.unit)):Sem PUnit).run P w=.ok PUnit.unit w:=by
 intro fs
 induction fs with
 |nil=>intro _;simp
 | cons f fs ih=>
  intro h; simp only [List.all_cons,Bool.and_eq_true] at h; obtain ⟨⟨⟨h1,h2⟩,h3⟩,h4⟩:=h; have hn:f.name≠"_":=by simpa using h1
  obtain⟨v,hv⟩:=abr.1 h3;obtain⟨v',ID,_⟩:=MS hv hc w
  have OE:(Instr.checkKey b (n+1) f.type v').run P w=.ok () w:=by
   split at h2
   ·rename_i d hd;rw[Instr.checkKey];simp only[aaf,AI hd,aaa]
    cases d<;>first|(cases h2;done)|rfl
   ·cases h2
  simp only[List.forIn_cons,aae hn,aaf,ID,aaa,OE,aai];exact ih h4
theorem tP{t:TypeId}{k k':Value}(hk:AS ρ k k'):∀{es DO:List MapEntry},C0 ρ es DO→∀{i:Nat} {r:Option (Nat×Value)},iw P t k es i=some r→
  ∃r',(∀w:World,(Instr.findAsking t k' DO i).run P w=.ok r' w)∧((r=none∧r'=none)∨∃j v v' en,r=some (j,v)∧r'=some (j,v')∧AS ρ v v'∧i≤j∧DO[j-i]?=some en∧Instr.sameBits 10000 en.key k'=true):=by
 intro es
 induction es with
 | nil=>
  intro DO he i r h
  cases DO with
  |cons=>exact he.elim
  |nil=>
   simp only[iw,aam]at h;subst h;exact⟨none,λw=>by simp[Instr.findAsking],.inl ⟨rfl,rfl⟩⟩
 | cons en es ih=>
  intro DO he i r h
  cases DO with
  |nil=>exact he.elim
  | cons iX DO=>
   obtain⟨h1,h2⟩:=he
   cases h1 with
   | @mk k1 v1 k1' V7 b nQ xT=>
    simp only[iw]at h
    have run:∀(b:Bool),iv P 20 t k k1=some b→∀w:World,(Op.equal t k' k1').run P w=.ok b w:=λb hb w=>by
     rw[JH];exact RC 20 _ _ _ _ _ _ hb hk nQ 10000 (by omega) w
    split at h
    ·rename_i RD;rw[cond_eq_ite]at h
     split at h
     ·rename_i AG6
      cases h
      refine⟨some (i,V7),λw=>by simp only[Instr.findAsking,aaf,run true RD,aaa,aar,aai],.inr ⟨i,v1,V7,_,rfl,rfl,xT,aag _,by simp;rfl,?_⟩⟩;exact jO AG6 hk nQ
     ·cases h
    ·rename_i RD;obtain⟨r',JY,BV⟩:=ih h2 h;refine⟨r',λw=>by simp only[Instr.findAsking,aaf,run false RD,aaa,aaD,abf,JY],BV.imp id ?_⟩;rintro⟨j,v,v',en,e1,e2,e3,e4,e5,e6⟩;refine⟨j,v,v',en,e1,e2,e3,by omega,?_,e6⟩;have:j-i=(j-(i+1))+1:=by omega
     rw[this];simpa using e5
    ·cases h
theorem OP{t:TypeId}{k k':Value}{es DO:List MapEntry}{r:Option (Nat×Value)}(h:QJ P t k es=some r)(hk:AS ρ k k')(he:C0 ρ es DO) :
  ∃r',(∀(b:Bool) (w:World),(Instr.checkKey b 10000 t k').run P w=.ok () w)∧(∀w:World,(Instr.findKey t k' DO).run P w=.ok r' w)∧
   ((r=none∧r'=none)∨∃j v v' en,r=some (j,v)∧r'=some (j,v')∧AS ρ v v'∧DO[j]?=some en∧Instr.sameBits 10000 en.key k'=true):=by
 unfold QJ at h
 cases hd:P.underlying t with
 |none=>rw[hd]at h;cases h
 | some d=>
  rw[hd]at h;simp only[cond_eq_ite]at h
  split at h
  ·rename_i hs;rw[V8]at h;obtain⟨r',JY,BV⟩:=jM hk he h
   refine⟨r',λb w=>fJ hd hs w,λw=>?_,BV.imp id ?_⟩
   ·simp only[Instr.findKey,aaf,AI hd,aaa,JY,aai]
   ·rintro⟨j,v,v',en,e1,e2,e3,_,e5,e6⟩;exact⟨j,v,v',en,e1,e2,e3,by simpa using e5,jN e6⟩
  ·split at h
   ·rename_i hf;unfold qp at hf;rw[hd]at hf
    split at hf
    ·rename_i fs cs iY
     cases iY
     simp only[aab]at hf;obtain⟨hf1,xV⟩:=hf;obtain⟨iW,rfl,hc⟩:=hk.Gw;obtain⟨r',JY,BV⟩:=tP hk he h
     refine⟨r',λb w=>?_,λw=>?_,BV.imp id ?_⟩
     ·have:=Wl (P:=P) (b:=b) (n:=9998) hc w fs.toList xV;rw[show(10000:Nat)=9999+1 from rfl,Instr.checkKey];simp only[aaf,AI hd,aaa];rw[←Array.forIn_toList,this];rfl
     ·have AKm:Instr.findNow (.struct fs) (.agg iW) DO 0=(match DO with|[]=>some none|_::_=>none):=by
       cases DO with
       |nil=>rfl
       |cons e DO=>simp[Instr.findNow,Instr.sameNow]
      simp only[Instr.findKey,aaf,AI hd,aaa,AKm]
      cases DO with
      |nil=>have:=JY w;simpa[Instr.findAsking]using this
      |cons e DO=>exact JY w
     ·rintro⟨j,v,v',en,e1,e2,e3,_,e5,e6⟩;exact⟨j,v,v',en,e1,e2,e3,by simpa using e5,e6⟩
    ·cases hf
   ·cases h
theorem Aa.V9(h:Aa P w0 ρ W w){r r':Nat}(hr:OL ρ r r'){es:List MapEntry}{Fz:Nat}(ho:W.obj r=some (.map es Fz)) :
  ∃x DO,ρ r=some x∧r'=x.b∧x.o=0∧w.heap[r']?=some (.map DO Fz)∧C0 ρ es DO.toList:=by
 obtain⟨x,hx,rfl⟩:=hr;obtain⟨o',Jx,hr⟩:=h.obj ho (by simp) hx rfl
 cases hr with
 |map h1 h2=>exact⟨x,_,hx,rfl,h1,Jx,h2⟩
theorem tQ(hz:ZP P){t:TypeId}{x k:Operand}{ok:Bool}(ho:o.op=.lookup t x k ok)(h:Bm P o e W=some outs)(hw:Aa P w0 ρ W w)(hx:AS ρ (e x) (e' x))(hk:AS ρ (e k) (e' k)) :
  BU P w0 ρ W ((execOp e' o).run P w) outs:=by
 simp only[Bm,ho]at h;obtain⟨v,hv,rfl⟩:=F2 h
 split at hv
 ·rename_i kt elem ht;obtain⟨z,M4,hv⟩:=Ao hv;obtain⟨es,xS,hv⟩:=Ao hv;obtain⟨r,hr,hv⟩:=Ao hv
  have:∃DO:Array MapEntry,C0 ρ es DO.toList∧((e' x=.map none∧DO=#[])∨∃r Fz,e' x=.map (some r)∧w.heap[r]?=some (.map DO Fz)):=by
   generalize e' x=V2 at*
   split at xS
   ·rename_i hc;rw[hc]at hx
    cases hx
    cases xS
    exact⟨#[],trivial,.inl ⟨rfl,rfl⟩⟩
   ·rename_i r0 hc;rw[hc]at hx
    cases hx with
    | map hb=>
     split at xS
     ·rename_i es0 Fz CH
      cases xS
      obtain⟨x,DO,_,_,_,hh,DZ⟩:=hw.V9 hb CH;exact⟨DO,DZ,.inr ⟨_,_,rfl,hh⟩⟩
     ·cases xS
   ·cases xS
  obtain⟨DO,DZ,ADX⟩:=this;obtain⟨r',OE,Li,BV⟩:=OP hr hk DZ
  have J4:∀y:Value×Bool,((r'=none∧y=(z,false))∨∃j,r'=some (j,y.1)∧y.2=true)→
    (Instr.lookup t (e' x) (e' k) ok).run P w=.ok (if ok then .tuple #[y.1,.bool y.2]else y.1) w:=by
   intro y hy
   rcases ADX with⟨hc,rfl⟩|⟨r,Fz,hc,hh⟩<;>rcases hy with⟨rfl,rfl⟩|⟨j,rfl,h2⟩
   ·simp only[Instr.lookup,aaf,AI ht,aaa,hc,aai,OE,Li,CA M4]
   ·simp only[Instr.lookup,aaf,AI ht,aaa,hc,aai,OE,Li,h2]
   ·simp only[Instr.lookup,aaf,AI ht,aaa,hc,A6 hh (by simp),aai,OE,Li,CA M4]
   ·simp only[Instr.lookup,aaf,AI ht,aaa,hc,A6 hh (by simp),aai,OE,Li,h2]
  rcases BV with⟨rfl,rfl⟩|⟨j,x1,x1',en,rfl,rfl,hxx,_,_⟩
  ·cases hv
   refine .value hw ?_ ?_ (v':=if ok then .tuple #[z,.bool false]else z)
   ·simp only[execOp,ho];exact BZ (J4 (z,false) (.inl ⟨rfl,rfl⟩))
   ·cases ok
    ·exact hz.rel M4 ρ
    ·exact .tuple' (.cons (hz.rel M4 ρ) (.cons (.bool _) (.nil _)))
  ·cases hv
   refine .value hw ?_ ?_ (v':=if ok then .tuple #[x1',.bool true]else x1')
   ·simp only[execOp,ho];exact BZ (J4 (x1',true) (.inr ⟨j,rfl,rfl⟩))
   ·cases ok
    ·exact hxx
    ·exact .tuple' (.cons hxx (.cons (.bool _) (.nil _)))
 ·cases hv
theorem C0.push:∀{es DO:List MapEntry},C0 ρ es DO→∀{a b:MapEntry},fA ρ a b→C0 ρ (es++[a]) (DO++[b])
 |[],[],_,_,_,h=>⟨h,trivial⟩
 |_::_,_::_,h,_,_,k=>⟨h.1,h.2.push k⟩
 |[],_::_,h,_,_,_=>h.elim
 |_::_,[],h,_,_,_=>h.elim
theorem C0.Lf:∀{es DO:List MapEntry},C0 ρ es DO→∀{v v' k k':Value},AS ρ v v'→AS ρ k k'→∀i,C0 ρ (Lf v k i es) (DO.modify i λen=>{en with key:=k',val:=v'})
 |[],[],_,_,_,_,_,_,_,i=>by cases i<;>simp[Ce.Lf,C0]
 |en::es,iX::DO,h,_,_,_,_,hv,hk,0=>by
  cases h.1 with
  |mk b _ _=>simp only[Ce.Lf,List.modify_zero_cons];exact⟨.mk b hk hv,h.2⟩
 |en::es,iX::DO,h,_,_,_,_,hv,hk,i+1=>by
  simp only[Ce.Lf,List.modify_succ_cons];exact⟨h.1,C0.Lf h.2 hv hk i⟩
 |[],_::_,h,_,_,_,_,_,_,_=>h.elim
 |_::_,[],h,_,_,_,_,_,_,_=>h.elim
theorem C0.NA:∀{es DO:List MapEntry},C0 ρ es DO→∀i,C0 ρ (NA i es) (DO.eraseIdx i)
 |[],[],_,i=>by cases i<;>simp[Ce.NA,C0]
 |en::es,iX::DO,h,0=>by simp only[Ce.NA,List.eraseIdx_cons_zero];exact h.2
 |en::es,iX::DO,h,i+1=>by simp only[Ce.NA,List.eraseIdx_cons_succ];exact⟨h.1,C0.NA h.2 i⟩
 |[],_::_,h,_=>h.elim
 |_::_,[],h,_=>h.elim
theorem C0.length:∀{es DO:List MapEntry},C0 ρ es DO→es.length=DO.length
 |[],[],_=>rfl
 |_::_,_::_,h=>by simp[C0.length h.2]
 |[],_::_,h=>h.elim
 |_::_,[],h=>h.elim
theorem SL{t:TypeId}{m k x:Operand}(ho:o.op=.mapUpdate t m k x∨o.op=.insert t m k x)(h:Bm P o e W=some outs)(hw:Aa P w0 ρ W w)(hm:AS ρ (e m) (e' m))(hk:AS ρ (e k) (e' k))(hx:AS ρ (e x) (e' x)) :
  BU P w0 ρ W ((execOp e' o).run P w) outs:=by
 rcases ho with ho|ho
 all_goals
  simp only[Bm,ho]at h;obtain⟨W1,hv,rfl⟩:=qu h
  split at hv
  ·rename_i kt elem r ht hc;rw[hc]at hm;generalize Fh:e' m=vm' at hm
   cases hm with
   | @map _ r' hb=>
    split at hv
    ·rename_i es Fz CH;obtain⟨y,DO,hy,rfl,qy,hh,DZ⟩:=hw.V9 hb CH;obtain⟨f,hf,hv⟩:=Ao hv;obtain⟨r',OE,Li,BV⟩:=OP hf hk DZ
     rcases BV with⟨rfl,rfl⟩|⟨j,x1,x1',en,rfl,rfl,hxx,Hx,V'⟩
     ·cases hv
      refine⟨_,_,ρ,dy.2 rfl,.refl _,.skip (w:={w with heap:=w.heap.setIfInBounds y.b (.map (DO.push {key:=e' k,val:=e' x,born:=Fz}) (Fz+1))}) ?_ ?_⟩
      ·simp only[execOp,ho,Fh];refine nI ?_;simp only[Instr.mapUpdate,aaf,AI ht,aaa,A6 hh (by simp),OE,Li,Dz hh (by simp)]
      ·refine hw.Ba CH rfl hy (.map qy ?_);rw[Array.toList_push];exact DZ.push (.mk Fz hk hx)
     ·cases hv
      refine⟨_,_,ρ,dy.2 rfl,.refl _,.skip (w:={w with heap:=w.heap.setIfInBounds y.b (.map (DO.modify j λen=>{en with key:=e' k,val:=e' x}) Fz)}) ?_ ?_⟩
      ·simp only[execOp,ho,Fh];refine nI ?_;have ADY:DO[j]?=some en:=by simpa using Hx
       simp only[Instr.mapUpdate,aaf,AI ht,aaa,A6 hh (by simp),OE,Li,Instr.keyThatStays,ADY,aba,aaX,V',aar,aai,Dz hh (by simp)]
      ·refine hw.Ba CH rfl hy (.map qy ?_);rw[Array.toList_modify];exact DZ.Lf hx hk j
    ·cases hv
  ·cases hv
theorem xW{t:TypeId}{x:Operand}(ho:o.op=.range t x)(h:Bm P o e W=some outs)(hw:Aa P w0 ρ W w)(hx:AS ρ (e x) (e' x)) :
  BU P w0 ρ W ((execOp e' o).run P w) outs:=by
 simp only[Bm,ho]at h;obtain⟨v,W1,hv,rfl⟩:=PN h;generalize Fh:e' x=V2 at*
 split at hv
 ·rename_i kt elem ht hc;rw[hc]at hx
  cases hx
  simp only[aam,aau]at hv;obtain⟨rfl,rfl⟩:=hv;obtain⟨Dy,KR⟩:=hw.new (o:=.iter none 0 [] 0) (o':=.mapIter none 0 #[] 0) ⟨w.heap.size,0,0,0,0⟩ rfl (.SE rfl);refine⟨_,_,_,dy.2 rfl,Dy,.value (v':=.pointer (some ⟨w.heap.size,0,none⟩)) (w:={w with heap:=w.heap.push (.mapIter none 0 #[] 0)}) ?_ (.ptr ⟨rfl,⟨w.heap.size,0,0,0,0⟩,by simp,by simp⟩) KR⟩;simp only[execOp,ho,Fh];refine BZ ?_;simp[Instr.range,AI ht]
 ·rename_i kt elem r ht hc;rw[hc]at hx
  cases hx with
  | @map _ r' hb=>
   split at hv
   ·rename_i es Fz CH;simp only[aam,aau]at hv;obtain⟨rfl,rfl⟩:=hv;obtain⟨y,DO,hy,rfl,qy,hh,DZ⟩:=hw.V9 hb CH;have Ad:=hw.Wi r y hy;obtain⟨Dy,KR⟩:=hw.new (o:=.iter (some r) Fz [] Fz) (o':=.mapIter (some y.b) Fz [].toArray Fz) ⟨w.heap.size,0,0,0,0⟩ rfl (.iter rfl ⟨y,by simp[show r≠W.sz by omega,hy],rfl⟩);refine⟨_,_,_,dy.2 rfl,Dy,.value (v':=.pointer (some ⟨w.heap.size,0,none⟩)) (w:={w with heap:=w.heap.push (.mapIter (some y.b) Fz [].toArray Fz)}) ?_ (.ptr ⟨rfl,⟨w.heap.size,0,0,0,0⟩,by simp,by simp⟩) KR⟩;simp only[execOp,ho,Fh];refine BZ ?_;simp[Instr.range,AI ht,A6 hh (by simp)]
   ·cases hv
 ·cases hv
theorem C0.filter(p:Nat→Bool):∀{es DO:List MapEntry},C0 ρ es DO→C0 ρ (es.filter λe=>p e.born) (DO.filter λe=>p e.born)
 |[],[],_=>trivial
 | en::es,iX::DO,h=>by
  cases h.1 with
  |mk b hk hv=>
   simp only[List.filter_cons]
   cases p b
   ·simpa using C0.filter p h.2
   ·simpa using⟨.mk b hk hv,C0.filter p h.2⟩
 |[],_::_,h=>h.elim
 |_::_,[],h=>h.elim
theorem C0.append:∀{es DO us us':List MapEntry},C0 ρ es DO→C0 ρ us us'→C0 ρ (es++us) (DO++us')
 |[],[],_,_,_,h=>h
 |_::_,_::_,_,_,h,k=>⟨h.1,h.2.append k⟩
 |[],_::_,_,_,h,_=>h.elim
 |_::_,[],_,_,h,_=>h.elim
theorem C0.get:∀{es DO:List MapEntry},C0 ρ es DO→∀{i:Nat} {b:MapEntry},DO[i]?=some b→∃a,es[i]?=some a∧fA ρ a b
 |[],[],_,i,_,h=>by simp at h
 |a::es,a'::DO,h,0,b,hb=>by simp at hb;subst hb;exact⟨a,rfl,h.1⟩
 |_::es,_::DO,h,i+1,b,hb=>by simpa using C0.get h.2 (by simpa using hb)
 |[],_::_,h,_,_,_=>h.elim
 |_::_,[],h,_,_,_=>h.elim
theorem C0.all(p:Nat→Bool):∀{es DO:List MapEntry},C0 ρ es DO→(es.all λe=>p e.born)=(DO.all λe=>p e.born)
 |[],[],_=>rfl
 |en::es,iX::DO,h=>by cases h.1 with|mk b _ _=>simp only[abv,C0.all p h.2]
 |[],_::_,h=>h.elim
 |_::_,[],h=>h.elim
theorem Aa.xX(h:Aa P w0 ρ W w){a a':Addr}(ha:NB ρ a a'){m s l:Nat}{seen:List Nat}(ho:W.obj a.block=some (.iter (some m) s seen l)) :
  ∃x m',ρ a.block=some x∧a'=⟨x.b,a.off,none⟩∧x.o=0∧OL ρ m m'∧w.heap[x.b]?=some (.mapIter (some m') s seen.toArray l):=by
 obtain⟨_,x,hx,rfl⟩:=ha;obtain⟨o',Jx,hr⟩:=h.obj ho (by simp) hx rfl
 cases hr with
 |iter h1 h2=>exact⟨x,_,hx,by rw[h1];rfl,h1,h2,Jx⟩
theorem C0.find(n:Nat):∀{es DO:List MapEntry},C0 ρ es DO→∀{a:MapEntry},es.find? (λe=>Nat.beq e.born n)=some a→∃b,DO.find? (λe=>e.born==n)=some b∧fA ρ a b
 |[],[],_,_,h=>by simp at h
 |en::es,iX::DO,h,a,ha=>by
  have hb:iX.born=en.born:=by cases h.1 with|mk b _ _=>rfl
  rw[List.find?_cons]at ha ⊢;rw[hb];have e1:Nat.beq en.born n=(en.born==n):=by rw[abt];simp
  rw[e1]at ha
  cases hx:(en.born==n)
  ·rw[hx]at ha;exact C0.find n h.2 ha
  ·rw[hx]at ha;cases ha;exact⟨iX,rfl,h.1⟩
 |[],_::_,h,_,_=>h.elim
 |_::_,[],h,_,_=>h.elim
theorem xY{x:Operand}(ho:o.op=.entry x)(h:Bm P o e W=some outs)(hw:Aa P w0 ρ W w)(hx:AS ρ (e x) (e' x)):BU P w0 ρ W ((execOp e' o).run P w) outs:=by
 simp only[Bm,ho]at h;obtain⟨v,hv,rfl⟩:=F2 h;generalize Fh:e' x=V2 at*
 split at hv
 ·rename_i a hc;rw[hc]at hx
  cases hx with
  | @ptr _ a' ha=>
   rw[cond_eq_ite]at hv
   split at hv
   ·cases hv
   rename_i Wm;have Wm:a.off=0:=by simpa using Wm
   split at hv
   ·rename_i r since seen XA CH;obtain⟨y,m',hy,rfl,_,hm,hh⟩:=hw.xX ha CH
    split at hv
    ·rename_i st es Fz V_ xZ;obtain⟨y2,DO,hy2,rfl,_,hh2,DZ⟩:=hw.V9 hm xZ;rw[cond_eq_ite]at hv
     split at hv
     ·rename_i ADZ;have ADZ:=aac ADZ;subst ADZ;rw[aat]at hv;obtain⟨en,Hx,rfl⟩:=hv;obtain⟨iX,ADY,hr⟩:=DZ.find st Hx;have hf:DO.find? (λe=>e.born==st)=some iX:=by rw[←Array.find?_toList];exact ADY
      have hl:seen.toArray.back?=some st:=by simpa[Array.back?_eq_getElem?,List.getLast?_eq_getElem?]using V_
      refine .value hw (v':=.tuple #[iX.key,iX.val]) ?_ ?_
      ·simp only[execOp,ho,Fh];refine BZ ?_;simp[Instr.entry,Wm,A6 hh (by simp),A6 hh2 (by simp),hl,hf]
      ·cases hr with
       |mk b h1 h2=>exact .tuple' (.cons h1 (.cons h2 (.nil _)))
     ·cases hv
    ·cases hv
   ·cases hv
 ·cases hv
theorem tR{es DO:List MapEntry}(h:C0 ρ es DO)(since:Nat)(seen:List Nat){c:Option MapEntry}(hc:c∈Vv DO since seen) :
  ∃c0,c0∈Vv es since seen∧((c0=none∧c=none)∨∃a b,c0=some a∧c=some b∧fA ρ a b):=by
 unfold Vv at hc ⊢;have hl:=h.filter (λb=>!seen.contains b);have ho:=hl.filter (λb=>decide (b<since));have hn:=hl.filter (λb=>!decide (b<since));simp only[aaB,aaM]at hc
 rcases hc with hc|⟨b,hb,rfl⟩
 ·have hlen:=ho.length
  refine⟨none,?_,?_⟩
  ·simp only[aaB];left
   cases hx:(List.filter (λe=>decide (e.born<since)) (List.filter (λe=>!seen.contains e.born) DO))with
   |nil=>
    rw[hx]at hlen;have:(List.filter (λe=>decide (e.born<since)) (List.filter (λe=>!seen.contains e.born) es))=[]:=aaG.1 (by simpa using hlen);rw[this];simp
   |cons y ys=>rw[hx]at hc;simp at hc
  ·left;refine⟨rfl,?_⟩;rw[cond_eq_ite]at hc
   split at hc
   ·simpa using hc
   ·simp at hc
 ·rw[←aaB]at hb;obtain⟨i,hi,hbi⟩:=abQ hb;obtain⟨a,ha,hr⟩:=(ho.append hn).get (i:=i) (b:=b) (by rw[ck hi,hbi]);refine⟨some a,?_,.inr ⟨a,b,rfl,rfl,hr⟩⟩;simp only[aaB];right;exact aaS (aan ha)
theorem ABI{x:Operand}(ho:o.op=.next x false)(h:Bm P o e W=some outs)(hw:Aa P w0 ρ W w)(hx:AS ρ (e x) (e' x)):BU P w0 ρ W ((execOp e' o).run P w) outs:=by
 simp only[Bm,ho]at h;generalize Fh:e' x=V2 at*
 split at h
 ·rename_i a hc;rw[hc]at hx
  cases hx with
  | @ptr _ a' ha=>
   rw[cond_eq_ite]at h
   split at h
   ·cases h
   rename_i Wm;have Wm:a.off=0:=by simpa using Wm
   split at h
   ·rename_i s1 s2 s3 CH
    cases h
    obtain⟨_,y,hy,rfl⟩:=ha;obtain⟨o',Jx,hr⟩:=hw.obj CH (by simp) hy rfl
    cases hr with
    |SE h0=>
     refine .value hw ?_ (.tuple' (.cons (.bool _) (.nil _))) (v':=.tuple #[.bool false]);simp only[execOp,ho,Fh];refine BZ ?_;simp[Instr.next,Wm,h0,A6 Jx (by simp)]
   ·rename_i r since seen last CH;obtain⟨y,m',hy,rfl,qy,hm,hh⟩:=hw.xX ha CH
    split at h
    ·rename_i es Fz xZ;obtain⟨y2,DO,hy2,rfl,_,hh2,DZ⟩:=hw.V9 hm xZ;rw[cond_eq_ite]at h
     split at h
     ·cases h
     ·rename_i Bn;simp only[aam]at h;subst h
      have xa:(!seen.toArray.isEmpty&& !DO.isEmpty&&DO.all (λe=>decide (e.born≥last)))=false:=by
       have e1:seen.toArray.isEmpty=seen.isEmpty:=by cases seen<;>rfl
       have e2:DO.isEmpty=es.isEmpty:=by
        have:=DZ.length
        cases es with
        |nil=>have:DO.size=0:=(by simpa using this.symm);simp[Array.isEmpty,this]
        |cons y ys=>have:DO.size=ys.length+1:=(by simpa using this.symm);simp[Array.isEmpty,this]
       have e3:DO.all (λe=>decide (e.born≥last))=es.all (λe=>!decide (e.born<last)):=by
        rw[←Array.all_toList,DZ.all (λb=>!decide (b<last))];congr 1;funext en
        by_cases hb:en.born<last
        ·simp[hb]
        ·simp[hb];omega
       rw[e1,e2,e3]
       simpa using Bn
      generalize hC:((if((DO.filter λe=>!seen.toArray.contains e.born).filter λe=>decide (e.born<since)).isEmpty then #[none]else #[])++(((DO.filter λe=>!seen.toArray.contains e.born).filter λe=>decide (e.born<since))++((DO.filter λe=>!seen.toArray.contains e.born).filter λe=>decide (e.born≥since))).map some:Array (Option MapEntry))=C
      have xc:C.toList=Vv DO.toList since seen:=by
       have e1:∀n:Nat,seen.toArray.contains n=seen.contains n:=λn=>by simp
       have e2:(λe:MapEntry=>!decide (e.born<since))=(λe:MapEntry=>decide (e.born≥since)):=by
        funext en
        by_cases hb:en.born<since
        ·simp[hb]
        ·simp[hb];omega
       rw[←hC];simp only[Vv,e1,e2,Array.toList_append,acg,Array.toList_filter,cond_eq_ite];congr 1;have e3:∀A:Array MapEntry,A.isEmpty=A.toList.isEmpty:=λA=>by rw[abt];simp[Array.isEmpty_iff]
       rw[e3];simp only[Array.toList_filter];split<;>rfl
      have UR:0<C.size:=by
       rw[←abP,xc];unfold Vv
       cases hx:(List.filter (λe=>decide (e.born<since)) (List.filter (λe=>!seen.contains e.born) DO.toList))with
       |nil=>simp only[hx,List.isEmpty_nil,cond_true,aas,aaw];omega
       |cons y ys=>simp only[hx,aas,aaq,aaw];omega
      obtain⟨i,w2,Jt,hi,Hl,xd⟩:∃i w2,(choose (.mapNext C.size)).run P w=.ok i w2∧i<C.size∧Aa P w0 ρ W w2∧w2.heap=w.heap:=by
       rw[run_choose]
       split
       ·exact⟨0,w,rfl,UR,hw,rfl⟩
       ·exact⟨_,_,rfl,by simp only[Question.cut];exact ac8 _ UR,hw.drew _,rfl⟩
      have hci:C[i]?=some C[i]:=by simp[hi]
      obtain⟨c0,qz,BV⟩:=tR (c:=C[i]) DZ since seen (by rw[←xc];simp);rw[←xd]at hh hh2
      rcases BV with⟨rfl,hcn⟩|⟨en,iX,rfl,hcn,hr⟩
      ·refine⟨.value (.tuple #[.bool false]),W,ρ,?_,.refl _,.value (v':=.tuple #[.bool false]) (w:=w2) ?_ (.tuple' (.cons (.bool _) (.nil _))) Hl⟩
       ·exact aaM.2 ⟨none,qz,rfl⟩
       ·simp only[execOp,ho,Fh];refine BZ ?_;rw[hcn]at hci;rw[xd]at hh hh2;simp only[Instr.next,Wm,aaf,A6 hh (by simp),A6 hh2 (by simp),aaa,xa,hC,Jt,hci,aai,aaD,abf]
      ·refine⟨.value (.tuple #[.bool true,en.key,en.val]),W.Ba a.block (.iter (some r) since (seen++[en.born]) Fz),ρ,?_,.refl _,
        .value (v':=.tuple #[.bool true,iX.key,iX.val]) (w:={w2 with heap:=w2.heap.setIfInBounds y.b (.mapIter (some y2.b) since (seen++[en.born]).toArray Fz)}) ?_ ?_ (Hl.Ba CH rfl hy (.iter qy hm))⟩
       ·exact aaM.2 ⟨some en,qz,rfl⟩
       ·simp only[execOp,ho,Fh];refine BZ ?_;rw[hcn]at hci;have AG7:iX.born=en.born:=by cases hr with|mk b _ _=>rfl
        have xe:=Dz (P:=P) hh (by simp) (.mapIter (some y2.b) since (seen++[en.born]).toArray Fz);rw[xd]at hh hh2;have AG8:seen.toArray.push en.born=(seen++[en.born]).toArray:=by simp
        simp only[Instr.next,Wm,aaf,A6 hh (by simp),A6 hh2 (by simp),aaa,xa,hC,Jt,hci,AG7,AG8,xe,aai,aaD,abf]
       ·cases hr with
        |mk b h1 h2=>exact .tuple' (.cons (.bool _) (.cons h1 (.cons h2 (.nil _))))
    ·cases h
   ·cases h
 ·cases h
end
section
variable {P:Program}{w0:World}{ρ:CJ}{W:CW}{w:World}{o:Oper}{e e':Operand→Value}{outs:List (B_×CW)}
theorem AS.Hy{a:Option Addr}{n c:Nat}{v:Value}(h:AS ρ (.slice a n c) v):∃a' c',v=.slice a' n c'∧((a=none∧a'=none∧c'=c)∨∃b b',a=some b∧a'=some b'∧
  ((NB ρ b b'∧UQ ρ b c c')∨(n=0∧c=0∧b.spot=none∧∃x,ρ b.block=some x∧b'.block=x.b∧b'.spot=none∧(c'=0∨(0<x.sz∧b'.off+c'*x.sz=x.n')))∨(n=0∧c=0∧c'=0∧b.spot=some 0))):=by
 cases h with
 |jA=>exact⟨_,_,rfl,.inl ⟨rfl,rfl,rfl⟩⟩
 |slice _ ha hc=>exact⟨_,_,rfl,.inr ⟨_,_,rfl,rfl,.inl ⟨ha,hc⟩⟩⟩
 |L9 h0 h1 h2 h3 h4=>exact⟨_,_,rfl,.inr ⟨_,_,rfl,rfl,.inr (.inl ⟨rfl,rfl,h0,_,h1,h2,h3,h4⟩)⟩⟩
 |KQ h0=>exact⟨_,_,rfl,.inr ⟨_,_,rfl,rfl,.inr (.inr ⟨rfl,rfl,rfl,h0⟩)⟩⟩
theorem OQ(a:Addr)(w:World):(loadCells a 0).run P w=.ok #[] w:=by simp[loadCells,loadCellsFrom]
theorem NH(hw:Aa P w0 ρ W w){b:Option Addr}{n c k size:Nat}{v:Value}{l:List Value}(hv:AS ρ (.slice b n c) v)(hk:k≤n)(h:FV b (k*size) W=some l) :
  ∃l':Array Value,(∀d,(Builtin.firstCells size k v).run P {w with drawn:=d}=.ok l' {w with drawn:=d})∧A4 ρ l l'.toList:=by
 obtain⟨a',c',rfl,BV⟩:=hv.Hy
 rcases BV with⟨rfl,rfl,_⟩|⟨b,b',rfl,rfl,BV⟩
 ·cases h
  exact⟨#[],λ_=>rfl,.nil _⟩
 ·simp only[FV,cond_eq_ite]at h
  split at h
  ·rename_i h0;have h0:=aac h0
   cases h
   refine⟨#[],?_,.nil _⟩;intro d;simp only[Builtin.firstCells,h0];exact OQ _ _
  rename_i h0;have h0:k*size≠0:=λhh=>h0 (by rw[hh];rfl);have nR:k≠0:=λhh=>h0 (by rw[hh];omega)
  have ha:NB ρ b b':=by
   rcases BV with⟨ha,_⟩|⟨h1,_⟩|⟨h1,_⟩
   ·exact ha
   ·omega
   ·omega
  split at h
  ·rename_i cc kk zz ee CH
   split at h
   ·rename_i hle;have hle:=aaj hle
    cases h
    obtain⟨x,c2,fr,hx,rfl,hb,_,_,hn,hs,nF,_,hc⟩:=hw.cells ha CH;refine⟨(D_ c2 (k*size) (b.off+x.o)).toArray,?_,by simpa using jD hc (k*size) b.off hle⟩;intro d;simp only[Builtin.firstCells];exact run_loadCells (w:={w with drawn:=d}) hb _ _ (by omega)
   ·cases h
  ·rename_i ff kk ee CH
   split at h
   ·rename_i hle;have hle:=aaj hle
    cases h
    obtain⟨x,c2,_,fr,hx,rfl,hb,hn,hs,nF,_,hc⟩:=hw.fixed ha CH;refine⟨(D_ c2 (k*size) (b.off+x.o)).toArray,?_,by simpa using Vz hc (k*size) b.off hle⟩;intro d;simp only[Builtin.firstCells];exact run_loadCells (w:={w with drawn:=d}) hb _ _ (by omega)
   ·cases h
  ·cases h
theorem cH(hw:Aa P w0 ρ W w){x x':Value}{n k size:Nat}{l:List Value}(hx:AS ρ x x')(hn:bL x=some n)(hk:k≤n)(h:HI x k size W=some l) :
  ∃l':Array Value,(∀d,(Builtin.firstCells size k x').run P {w with drawn:=d}=.ok l' {w with drawn:=d})∧A4 ρ l l'.toList∧∀w:World,(Builtin.lenOf x').run P w=.ok n w:=by
 unfold bL at hn
 split at hn
 ·rename_i b m c
  cases hn
  simp only[HI]at h;obtain⟨l',h1,h2⟩:=NH hw hx hk h;obtain⟨b',c',rfl,_⟩:=hx.Hy;exact⟨l',h1,h2,λ_=>rfl⟩
 ·rename_i s
  cases hn
  cases hx
  simp only[HI,cond_eq_ite]at h
  split at h
  ·cases h
   refine⟨(s.extract 0 k).data.map λb=>.int .u8 b.toNat,λd=>rfl,?_,λ_=>rfl⟩
   have:((s.extract 0 k).data.map λb=>Value.int .u8 b.toNat).toList=Eu ((sb s).take k):=by
    simp[Eu,sb,ByteArray.data_extract]
   rw[this];exact A4.map (ρ:=ρ) _ (λb:UInt8=>Value.int .u8 b.toNat) (λb:UInt8=>Value.int .u8 b.toNat) (λ_ _=>.int _ _)
  ·cases h
 ·cases hn
theorem A4.fK:∀{xs ys:List Value},A4 ρ xs ys→xs.all BJ=true→ys.all BJ=true
 |[],[],_,_=>rfl
 |x::xs,y::ys,h,hx=>by
  simp only[abv,aab]at hx ⊢;exact⟨by rw[h.head.one];exact hx.1,A4.fK h.tail hx.2⟩
 |[],_::_,h,_=>by have:=h.1;simp at this
 |_::_,[],h,_=>by have:=h.1;simp at this
theorem Aa.kill(h:Aa P w0 ρ W w){i:Nat}{o:BF}(ho:W.obj i=some o):Aa P w0 ρ (W.Ba i .dead) w:=by
 have get:∀j v,(W.Ba i .dead).h.get j=some v→v≠.dead→W.h.get j=some v∧j≠i:=λj v hv OD=>by
  simp only[CW.Ba,Tr.CI]at hv
  split at hv
  ·cases hv;exact(OD rfl).elim
  ·rename_i e;exact⟨hv,e⟩
 refine⟨h.Wi,?_,?_,?_,h.below⟩
 ·intro j v hv;simp only[CW.Ba,Tr.CI]at hv
  split at hv
  ·rename_i e;subst e;exact h.top j o ho
  ·exact h.top j v hv
 ·intro j v y hv OD hy;exact h.live j v y (get j v hv OD).1 OD hy
 ·intro j k u v y z hu wY hv OD hy hz xG;exact h.inj j k u v y z (get j u hu (BF.JG wY)).1 wY (get k v hv (BF.JG OD)).1 OD hy hz xG
theorem Aa.rename(h:Aa P w0 ρ W w){i:Nat}{o u:BF}{u':Obj}{x y:Info}(ho:W.obj i=some o)(hd:o.mut=true)(hx:ρ i=some x)(hb:y.b=x.b)
  (hr:Jw P (λi=>if i=W.sz then some y else ρ i) y u u') (hm:u.mut=true:=by rfl) :
  FP W ρ ((W.Ba i .dead).new u) (λi=>if i=W.sz then some y else ρ i)∧Aa P w0 (λi=>if i=W.sz then some y else ρ i) ((W.Ba i .dead).new u) {w with heap:=w.heap.setIfInBounds x.b u'}:=by
 obtain⟨o',Jx,_,mb,_⟩:=h.live i o x ho (BF.JG hd) hx;have mb:=mb hd;have Ad:=(aao.1 Jx).1;have hi:=h.top i o ho
 have Dy:Ext ρ (λi=>if i=W.sz then some y else ρ i):=λj z hz=>by
  have:=h.Wi j z hz;show(if j=W.sz then some y else ρ j)=some z;rw[aad (by omega)];exact hz
 have get:∀j v,((W.Ba i .dead).new u).h.get j=some v→v≠.dead→(j=W.sz∧v=u)∨(j≠W.sz∧j≠i∧W.h.get j=some v):=λj v hv OD=>by
  simp only[CW.new,CW.Ba,Tr.CI]at hv
  split at hv
  ·rename_i e;cases hv;exact .inl ⟨e,rfl⟩
  ·rename_i e
   split at hv
   ·cases hv;exact(OD rfl).elim
   ·rename_i e2;exact .inr ⟨e,e2,hv⟩
 refine⟨⟨Dy,λj hj=>by show(if j=W.sz then some y else ρ j)=ρ j;rw[aad (by omega)],Nat.le_succ _⟩,?_,?_,?_,?_,?_⟩
 ·intro j z hz;show j<W.sz+1
  by_cases e:j=W.sz
  ·omega
  ·have:ρ j=some z:=by simpa[e]using hz
   have:=h.Wi j z this;omega
 ·intro j v hv;show j<W.sz+1;simp only[CW.new,CW.Ba,Tr.CI]at hv
  split at hv
  ·rename_i e;have e:j=W.sz:=e;omega
  ·split at hv
   ·omega
   ·have:=h.top j v hv;omega
 ·intro j v z hv OD hz
  rcases get j v hv OD with⟨rfl,rfl⟩|⟨e1,e2,hg⟩
  ·have hz:some y=some z:=by simpa using hz
   cases hz
   refine⟨u',?_,hr,λ_=>by rw[hb];exact mb,λhf=>by rw[hm]at hf;cases hf⟩;show(w.heap.setIfInBounds x.b u')[y.b]?=_;rw[hb];simp[Ad]
  ·have hz:ρ j=some z:=by simpa[e1]using hz
   obtain⟨v',ID,hrv,wZ⟩:=h.live j v z hg OD hz;refine⟨v',?_,hrv.mono Dy,wZ⟩
   have D3:x.b≠z.b:=λUY=>by
    cases bB:v.mut with
    |true=>exact e2 (h.inj j i v o z x hg bB ho hd hz hx UY.symm)
    |false=>have:=wZ.2 bB;omega
   show(w.heap.setIfInBounds x.b u')[z.b]?=_;rw[aa8 D3];exact ID
 ·intro j k v v' z z' hv OD ID jC hz hz' M4
  rcases get j v hv (BF.JG OD)with⟨rfl,rfl⟩|⟨e1,e2,hg⟩<;>rcases get k v' ID (BF.JG jC)with⟨rfl,rfl⟩|⟨f1,f2,hg'⟩
  ·rfl
  ·simp only[aar,aam]at hz;simp only[aad f1]at hz';subst hz;exact(f2 (h.inj k i v' o z' x hg' jC ho hd hz' hx (by rw[←M4,hb]))).elim
  ·simp only[aar,aam]at hz';simp only[aad e1]at hz;subst hz';exact(e2 (h.inj j i v o z x hg OD ho hd hz hx (by rw[M4,hb]))).elim
  ·simp only[aad e1]at hz;simp only[aad f1]at hz';exact h.inj j k v v' z z' hg OD hg' jC hz hz' M4
 ·exact⟨h.below.os,h.below.tape,h.below.output,by show w0.heap.size≤(w.heap.setIfInBounds x.b u').size;rw[abG];exact h.below.size,λk hk=>by
   show(w.heap.setIfInBounds x.b u')[k]?=_
   rw[aa8 (by omega)];exact h.below.block k hk⟩
theorem cI(m:Nat):∀(r c:Nat),c≤m+m/4+200→Builtin.growBy m r c≤m+m/4+200
 |0,c,h=>h
 |r+1,c,h=>by
  rw[Builtin.growBy]
  split
  ·exact h
  ·exact cI m r _ (by omega)
theorem nextslicecap_le(m c:Nat)(h:c<m):Builtin.nextslicecap m c≤2*m+200:=by
 unfold Builtin.nextslicecap
 split
 ·omega
 ·split
  ·omega
  ·have:=cI m 4 c (by omega);omega
theorem nT(w:World){ts:Array TypeId}{t u ty:TypeId}{elem:TypeId}{size:Nat}{z:Value}{info:TypeInfo}{base:Option Addr}{sLen sCap n:Nat}{x:Value}{news:Array Value}
  (h0:ts[0]?=some t) (h1:ts[1]?=some u) (hu:II P u=true) (ht:P.underlying t=some (.slice elem)) (hs:EM P elem=some size) (hz:Is P elem=some z)
  (hi:P.info? elem=some info) (hb:info.bytes≤1024) (hn:sLen+n≤1000000)
  (IL:∀d,(Builtin.firstCells size n x).run P {w with drawn:=d}=.ok news {w with drawn:=d}) (hlen:∀w:World,(Builtin.lenOf x).run P w=.ok n w) :
  (sLen+n≤sCap→(Builtin.append_ ts ty #[.slice base sLen sCap,x]).run P w=
   (do
       if let some a:=base then storeCells (a.add (sLen*size)) news.toList
       pure (.slice base (sLen+n) sCap):Sem Value).run P w)∧
  (sCap<sLen+n→∀old:Array Value,(∀d,(Builtin.firstCells size sLen (.slice base sLen sCap)).run P {w with drawn:=d}=.ok old {w with drawn:=d})→
   ∃nc d,sLen+n≤nc∧(Builtin.append_ ts ty #[.slice base sLen sCap,x]).run P w=
    .ok (.slice (some ⟨w.heap.size,0,none⟩) (sLen+n) nc) {w with drawn:=d,heap:=w.heap.push (.cells (old++news++Builtin.zeroCells z.cells (nc-(sLen+n))) elem)}):=by
 refine⟨λhle=>?_,λAd old hold=>?_⟩
 ·cases hd:P.underlying u with
  |none=>simp[II,hd]at hu
  | some d=>
   cases d<;>first|(simp[II,hd]at hu;done)|skip
   all_goals
    simp only[Builtin.append_,h0,h1,acn,abk,aa3,aaf,AI ht,AI hd,aaa,Bb hs,aai,aaD,abf,hlen,aae hle,aa6,aar,IL w.drawn]
    cases base<;>rfl
 ·have hnc:Builtin.nextslicecap (sLen+n) sCap*info.bytes≤2^48:=by
   have h2:=nextslicecap_le (sLen+n) sCap Ad
   calc Builtin.nextslicecap (sLen+n) sCap*info.bytes≤2000200*1024:=acy (by omega) hb
    _≤2^48:=by decide
  refine⟨sLen+n+(w.tape w.drawn (.appendCap (sLen+n) sCap elem))%(2^63-(sLen+n)),w.drawn+1,by omega,?_⟩
  have LX:¬((sLen+n:Nat):Int)>IntKind.i64.max:=by
   have:IntKind.i64.max=9223372036854775807:=by decide
   omega
  have OR:¬Builtin.nextslicecap (sLen+n) sCap*info.bytes>2^48:=by omega
  cases hd:P.underlying u with
  |none=>simp[II,hd]at hu
  | some d=>
   cases d<;>first|(simp[II,hd]at hu;done)|skip
   all_goals
    simp only[Builtin.append_,h0,h1,acn,abk,aa3,aaf,AI ht,AI hd,aaa,Bb hs,aai,aaD,abf,hlen,aad (Nat.not_le.2 Ad),aa6,aar,JW hi,LX,false_and,OR,run_choose,Question.forced,run_askRoom,Question.cut,CA hz];have e1:=hold (w.drawn+1);have e2:=IL (w.drawn+1);simp only[e1,e2,aaa,CA hz,newRow,aaf,run_newObj,aai]
theorem WA{old news:List Value}{old' GA rest:Array Value}(h1:A4 ρ old old'.toList)(h2:A4 ρ news GA.toList)(k:Nat)(hk:k<old.length+news.length) :
  AS ρ (cellAt (Tr.nil.AW 0 (old++news)) #[] k) ((old'++GA++rest).getD (k+0) undef):=by
 rw[C6 _ _ _ (by simpa using hk)];have h:=(h1.append h2).2 k (by simpa using hk);have hl:=(h1.append h2).1;have hk':k<(old'.toList++GA.toList).length:=by rw[←hl];simpa using hk
 rw[aah (l:=old'.toList++GA.toList)]at h
 have e:(old'++GA++rest).getD (k+0) undef=((old'.toList++GA.toList)[k]?).getD undef:=by
  rw[aal,←abj];simp only[Array.toList_append,abc];rw[aay hk']
 rw[e];exact h
theorem OS(z:Array Value)(n:Nat):(Builtin.zeroCells z n).size=n*z.size:=by simp[Builtin.zeroCells]
theorem bS(hw:Aa P w0 ρ W w){ts:Array TypeId}{t u ty:TypeId}{s s' x x' v:Value}{W1:CW}(h0:ts[0]?=some t)(h1:ts[1]?=some u)(hu:II P u=true)
  (h:Fy P t s x W=some (v,W1)) (hs:AS ρ s s') (hx:AS ρ x x') :
  ∃v' w' ρ',FP W ρ W1 ρ'∧(Builtin.append_ ts ty #[s',x']).run P w=.ok v' w'∧AS ρ' v v'∧Aa P w0 ρ' W1 w':=by
 unfold Fy at h
 split at h
 ·rename_i elem base sLen sCap n ht hsn;obtain⟨size,KB,h'⟩:=Ao h;clear h;obtain⟨z,M4,h⟩:=Ao h';clear h';obtain⟨news,IL,h'⟩:=Ao h;clear h;have h:=h';clear h';rw[cond_eq_ite]at h;split at h
  rotate_left
  ·cases h
  rename_i Bn;simp only[aab]at Bn;obtain⟨⟨⟨⟨⟨c1,c2⟩,c3⟩,c4⟩,c5⟩,c6⟩:=Bn;have c2:=aac c2;have c3:0<size:=by have:=aaj c3;omega
  have c4:=aac c4;have c5:=aaj c5;have c6:=aaj c6
  obtain⟨info,jI⟩:∃i,P.info? elem=some i:=by
   unfold EM at KB
   cases hi:P.info? elem with
   |none=>simp[hi]at KB
   |some i=>exact⟨i,rfl⟩
  have hb:info.bytes≤1024:=by simpa[jI]using c6
  have NG:(P.info? elem).map (·.size)=some size:=KB;obtain⟨GA,we,DZ,AG9⟩:=cH hw hx hsn (aag n) IL;have wg:=hs;obtain⟨QM,KC,rfl,BV⟩:=hs.Hy;obtain⟨R1,R2⟩:=nT (P:=P) (ty:=ty) (base:=QM) (sLen:=sLen) (sCap:=KC) w h0 h1 hu ht KB M4 jI hb c5 we AG9;have ACu:GA.size=n*size:=by have:=DZ.1;simp at this;omega
  have OR:sCap≤KC:=by
   rcases BV with⟨_,_,h⟩|⟨b,b',_,_,⟨_,h⟩|⟨_,h,_⟩|⟨_,h,_⟩⟩
   ·omega
   ·rcases h with h|⟨_,_,_,_,_,h⟩<;>omega
   ·omega
   ·omega
  rw[cond_eq_ite]at h
  split at h
  ·rename_i hle;have hle:=aaj hle;have R1:=R1 (by omega);rw[cond_eq_ite]at h
   split at h
   ·rename_i bC;have bC:n=0:=aac bC;subst bC;simp only[aam,aau]at h;obtain⟨rfl,rfl⟩:=h;refine⟨.slice QM sLen KC,w,ρ,.refl _,?_,wg,hw⟩;rw[R1]
    have:GA.toList=[]:=by
     have:GA.size=0:=by omega
     simpa using this
    rw[this]
    cases QM<;>simp[storeCells]
   ·rename_i bC;have bC:n≠0:=λh=>bC (by rw[h];rfl)
    rcases BV with⟨rfl,rfl,rfl⟩|⟨b,b',rfl,rfl,BV⟩
    ·simp only[aam,aau]at h;obtain⟨rfl,rfl⟩:=h;exact⟨.slice none (sLen+n) KC,w,ρ,.refl _,by rw[R1];simp,.jA _ _,hw⟩
    ·rcases BV with⟨ha,hc⟩|⟨_,h0',_⟩|⟨_,h0',_⟩
     ·simp only at h
      split at h
      ·rename_i c m zz e CH;rw[cond_eq_ite]at h
       split at h
       ·rename_i ABJ;have ABJ:=aaj ABJ;simp only[aam,aau]at h;obtain⟨rfl,rfl⟩:=h;obtain⟨x,jP,fr,bT,rfl,wh,me,hr,hn,nU,nF,_,Fh⟩:=hw.cells ha CH;have Hl:=hw.Ba CH rfl bT (hr.write (vs:=news) (vs':=GA.toList) DZ (k:=b.off+sLen*size) (by omega));refine⟨_,_,ρ,.refl _,?_,.slice _ ha hc,Hl⟩;rw[R1];simp only[aaf,OM];rw[Gh (P:=P) (b.off+x.o+sLen*size) GA.toList 0 w jP wh me (by simp;omega) (DZ.fK c1)];simp only[aaa,aai,abc];have:b.off+x.o+sLen*size=b.off+sLen*size+x.o:=by omega
        rw[this]
       ·cases h
      ·cases h
     ·omega
     ·omega
  ·rename_i hle
   have hle:sCap<sLen+n:=by
    have:¬sLen+n≤sCap:=λhh=>hle (aak hh);omega
   have fL:sLen=0→(∀d,(Builtin.firstCells size sLen (.slice QM sLen KC)).run P {w with drawn:=d}=.ok #[] {w with drawn:=d})→KC<sLen+n→
     v=.slice (some ⟨W.sz,0,none⟩) (sLen+n) (sLen+n)→W1=W.new (.cells (Tr.nil.AW 0 news) ((sLen+n)*size) #[] elem)→
     ∃v' w' ρ',FP W ρ W1 ρ'∧(Builtin.append_ ts ty #[.slice QM sLen KC,x']).run P w=.ok v' w'∧AS ρ' v v'∧Aa P w0 ρ' W1 w':=by
    intro cJ hold Ad hv hW;subst hv hW cJ;obtain⟨nc,d,hnc,J4⟩:=R2 Ad #[] hold;have Fi:=hw.drew d
    have ADa:((#[]:Array Value)++GA++Builtin.zeroCells z.cells (nc-(0+n))).size=nc*size:=by
     simp only[Array.size_append,OS,ACu,c4,acr,abI];obtain⟨k,rfl⟩:∃k,nc=0+n+k:=⟨nc-(0+n),by omega⟩
     have:0+n+k-(0+n)=k:=by omega
     rw[this,abx,aaL n];omega
    have Dy:Ext ρ (λi=>if i=W.sz then some ⟨w.heap.size,0,size,(0+n)*size,nc*size⟩else ρ i):=λi y hy=>by
     have:=hw.Wi i y hy;show(if i=W.sz then _ else ρ i)=some y;rw[aad (by omega)];exact hy
    obtain⟨hg,Hl⟩:=Fi.new (o:=.cells (Tr.nil.AW 0 news) ((0+n)*size) #[] elem) (o':=.cells (#[]++GA++Builtin.zeroCells z.cells (nc-(0+n))) elem (0,0))
     ⟨w.heap.size,0,size,(0+n)*size,nc*size⟩ rfl (by
      refine .cells NG ADa ?_ (λk hk=>?_) ⟨NF.zero _,λh=>(h rfl).elim⟩
      ·simp only[aaL];exact aaZ _ (by omega)
      ·have:=WA (ρ:=ρ) (old:=[]) (old':=#[]) (rest:=Builtin.zeroCells z.cells (nc-(0+n))) (.nil _) DZ k (by simp[c2];simpa using hk)
       exact this.mono Dy)
    refine⟨_,_,_,hg,J4,?_,Hl⟩;refine .slice _ ⟨rfl,⟨w.heap.size,0,size,(0+n)*size,nc*size⟩,by simp,by simp⟩ (.inr ⟨⟨w.heap.size,0,size,(0+n)*size,nc*size⟩,by simp,c3,by simp,by simp,hnc⟩)
   rcases BV with⟨rfl,rfl,rfl⟩|⟨b,b',rfl,rfl,BV⟩
   ·simp only[cond_eq_ite]at h
    split at h
    ·rename_i cJ;have cJ:=aac cJ;simp only[aam,aau]at h;obtain⟨hv,hW⟩:=h;exact fL cJ (λ_=>rfl) (by omega) hv.symm hW.symm
    ·cases h
   ·simp only[cond_eq_ite]at h
    split at h
    ·rename_i Js
     split at h
     ·rename_i cJ;simp only[aab]at cJ;have bU:=aac cJ.1;have UJ:=aac cJ.2;simp only[aam,aau]at h;obtain⟨hv,hW⟩:=h
      have qz:KC=0:=by
       rcases BV with⟨ha,_⟩|⟨_,_,hq,_⟩|⟨_,_,h1,_⟩
       ·rw[ha.1]at Js;cases Js
       ·rw[hq]at Js;cases Js
       ·exact h1
      refine fL bU (λd=>?_) (by omega) hv.symm hW.symm;rw[bU];simp only[Builtin.firstCells,abe];exact OQ _ _
     ·cases h
    rename_i Js
    have BV:(NB ρ b b'∧UQ ρ b sCap KC)∨(sLen=0∧sCap=0∧∃x,ρ b.block=some x∧b'.block=x.b∧b'.spot=none∧(KC=0∨(0<x.sz∧b'.off+KC*x.sz=x.n'))):=by
     rcases BV with h1|⟨h1,h2,_,h3⟩|⟨_,_,_,h1⟩
     ·exact .inl h1
     ·exact .inr ⟨h1,h2,h3⟩
     ·rw[h1]at Js;exact(Js rfl).elim
    clear fL;split at h
    rotate_left
    ·cases h
    rename_i c m zz e CH;split at h
    rotate_left
    ·cases h
    rename_i Bn;simp only[aab]at Bn;have ABJ:=aaj Bn.1;have hee:=aac Bn.2;subst hee;simp only[aam,aau]at h;obtain⟨rfl,rfl⟩:=h
    obtain⟨x,jP,q,fr,bT,hq,wh,me,hr,nU,Wm,OO⟩:∃x jP q fr,ρ b.block=some x∧b'=⟨x.b,q,none⟩∧w.heap[x.b]?=some (.cells jP e fr)∧NF fr jP.size∧Jw P ρ x (.cells c m zz e) (.cells jP e fr)∧jP.size=x.n'∧
      (KC=sCap∨(x.sz=size∧q+KC*size=x.n'))∧(∀k,k<sLen*size→AS ρ (cellAt c zz (b.off+k)) (jP.getD (q+k) undef)):=by
     rcases BV with⟨ha,hc⟩|⟨cJ,qz,x,bT,hb1,UY,hc⟩
     ·obtain⟨x,jP,fr,bT,rfl,wh,me,hr,hn,nU,nF,he,Fh⟩:=hw.cells ha CH
      refine⟨x,jP,b.off+x.o,fr,bT,rfl,wh,me,hr,nU,?_,λk hk=>?_⟩
      ·rcases hc with hc|⟨y,hy,_,_,h2,_⟩
       ·exact .inl hc
       ·rw[bT]at hy;cases hy;have:=fC KB he;rw[this]at h2;exact .inr ⟨this,h2⟩
      ·have:=Fh (b.off+k) (by omega);have e1:b.off+k+x.o=b.off+x.o+k:=by omega
       rwa[e1]at this
     ·obtain⟨o',Jx,hr⟩:=hw.obj CH (by simp) bT rfl
      cases hr with
      | cells he UJ nF Fh hq=>
       refine⟨x,_,b'.off,_,bT,?_,Jx,hq.1,.cells he UJ nF Fh hq,UJ,?_,λk hk=>?_⟩
       ·cases b';simp_all
       ·rcases hc with hc|⟨_,hc⟩
        ·left;omega
        ·have:=fC KB he;rw[this]at hc;exact .inr ⟨this,hc⟩
       ·rw[cJ]at hk;omega
    subst hq
    by_cases OT:sLen+n≤KC
    ·have Wm:=Wm.resolve_left (by omega);have R1:=R1 OT
     have AG':q+(sLen+n)*size≤x.n':=by
      have:=aaZ size OT;omega
     have hmul:(sLen+n)*size=sLen*size+n*size:=abx _ _ _;have OU:news.length=GA.toList.length:=DZ.1
     have Dy:Ext ρ (λi=>if i=W.sz then some ⟨x.b,q,size,(sLen+n)*size,x.n'⟩else ρ i):=λi y hy=>by
      have:=hw.Wi i y hy;show(if i=W.sz then _ else ρ i)=some y;rw[aad (by omega)];exact hy
     obtain⟨hg,Hl⟩:=hw.rename (u:=.cells (Tr.nil.AW 0 (Bj c zz (sLen*size) b.off++news)) ((sLen+n)*size) #[] e) (u':=.cells (Hk jP (q+sLen*size) GA.toList) e fr)
      (y:=⟨x.b,q,size,(sLen+n)*size,x.n'⟩) CH rfl bT rfl (by
       refine .cells NG (by rw[IK];exact nU) AG' (λk hk=>?_) ⟨by rw[IK];exact me,λh=>(h rfl).elim⟩;have hk:k<(sLen+n)*size:=hk;refine AS.mono (ρ:=ρ) ?_ Dy;rw[C6 _ _ _ (by simp[BK,c2];omega),Vy _ _ _ _ (by rw[←OU];omega)];rw[←OU];show AS ρ _ (if q+sLen*size≤k+q∧k+q<q+sLen*size+news.length then GA.toList.getD (k+q-(q+sLen*size)) undef else jP.getD (k+q) undef)
       by_cases tS:k<sLen*size
       ·rw[aad (by omega)];rw[aah,aay (by rw[BK];exact tS),←aah,HK _ _ _ _ _ tS,ac3 k q];exact OO k tS
       ·rw[aae (by omega)];rw[aah,aaC (by rw[BK];omega),←aah,BK];have e1:k+q-(q+sLen*size)=k-sLen*size:=by omega
        rw[e1]
        exact DZ.2 _ (by omega))
     refine⟨.slice (some ⟨x.b,q,none⟩) (sLen+n) KC,_,_,hg,?_,?_,Hl⟩
     ·rw[R1];simp only[aaf,OM];rw[Gh (P:=P) (q+sLen*size) GA.toList 0 w jP wh me (by rw[←OU];omega) (DZ.fK c1)];simp only[aaa,aai,abc]
     ·refine .slice _ ⟨rfl,⟨x.b,q,size,(sLen+n)*size,x.n'⟩,by simp,by simp⟩ (.inr ⟨⟨x.b,q,size,(sLen+n)*size,x.n'⟩,by simp,c3,by simp,?_,OT⟩);show 0+q+KC*size=x.n';omega
    ·have hN:FV (some b) (sLen*size) W=some (Bj c zz (sLen*size) b.off):=by
      simp only[FV,CH,cond_eq_ite];rw[aae (aak ABJ)]
      split
      ·rename_i h0;rw[aac h0];rfl
      ·rfl
     obtain⟨old',Jx,UX⟩:=NH hw wg (aag sLen) hN;obtain⟨nc,d,hnc,J4⟩:=R2 (by omega) old' Jx;have Fi:=(hw.kill CH).drew d;have hol:old'.size=sLen*size:=by have:=UX.1;rw[BK]at this;simpa using this.symm
     have ADa:(old'++GA++Builtin.zeroCells z.cells (nc-(sLen+n))).size=nc*size:=by
      simp only[Array.size_append,OS,ACu,c4,hol];obtain⟨k,rfl⟩:∃k,nc=sLen+n+k:=⟨nc-(sLen+n),by omega⟩
      have:sLen+n+k-(sLen+n)=k:=by omega
      rw[this,abx,abx]
     have Dy:Ext ρ (λi=>if i=W.sz then some ⟨w.heap.size,0,size,(sLen+n)*size,nc*size⟩else ρ i):=λi y hy=>by
      have:=hw.Wi i y hy;show(if i=W.sz then _ else ρ i)=some y;rw[aad (by omega)];exact hy
     obtain⟨hg,Hl⟩:=Fi.new (o:=.cells (Tr.nil.AW 0 (Bj c zz (sLen*size) b.off++news)) ((sLen+n)*size) #[] e) (o':=.cells (old'++GA++Builtin.zeroCells z.cells (nc-(sLen+n))) e (0,0))
      ⟨w.heap.size,0,size,(sLen+n)*size,nc*size⟩ rfl (by
       refine .cells NG ADa ?_ (λk hk=>?_) ⟨NF.zero _,λh=>(h rfl).elim⟩
       ·simp only[aaL];exact aaZ _ (by omega)
       ·have hk:k<(sLen+n)*size:=hk;rw[abx]at hk
        exact(WA (ρ:=ρ) UX DZ k (by rw[BK];omega)).mono Dy)
     refine⟨_,_,_,hg,J4,?_,Hl⟩
     refine .slice _ ⟨rfl,⟨w.heap.size,0,size,(sLen+n)*size,nc*size⟩,?_,by simp⟩ (.inr ⟨⟨w.heap.size,0,size,(sLen+n)*size,nc*size⟩,?_,c3,by simp,by simp,hnc⟩)
     ·show(if W.sz=W.sz then _ else _)=_;rw[aae rfl]
     ·show(if W.sz=W.sz then _ else _)=_;rw[aae rfl]
 ·cases h
end
section
variable {P:Program}{w0:World}{ρ:CJ}{W:CW}{w:World}{o:Oper}{e e':Operand→Value}{outs:List (B_×CW)}
theorem bV(hz:ZP P){f:FuncId}{as:List Value}{as':Array Value}{v:Value}{W1:CW}(h:Lg P f as W=some (v,W1))(hw:Aa P w0 ρ W w)(ha:A4 ρ as as'.toList) :
  ∃v' w' ρ',(callFunc f as').run P w=.ok (.value v') w'∧FP W ρ W1 ρ'∧AS ρ' v v'∧Aa P w0 ρ' W1 w':=by
 unfold Lg at h;split at h
 rotate_left
 ·cases h
 rename_i fn fI;rw[cond_eq_ite]at h;split at h
 rotate_left
 ·cases h
 rename_i hb;rw[cond_eq_ite]at h;split at h
 rotate_left
 ·cases h
 rename_i hn;split at h
 rotate_left
 ·cases h
 rename_i t r;split at h
 rotate_left
 ·cases h
 rename_i es Fz CH
 cases h
 obtain⟨y,hy,hv⟩:=ha.get (i:=0) (x:=.iface t (.map (some r))) rfl
 have hl:as'=#[y]:=by
  have h1:=ha.1;apply acE
  cases hq:as'.toList with
  |nil=>rw[hq]at h1;cases h1
  |cons z l=>
   rw[hq]at h1 hy;have:l=[]:=by simpa using h1.symm
   subst this
   simpa using hy
 subst hl
 cases hv with
 | iface _ hv=>
  cases hv with
  | @map _ r' hb'=>
   obtain⟨x,hx,rfl⟩:=hb';obtain⟨o',Jx,hr⟩:=hw.obj CH (by simp) hx rfl
   cases hr with
   | @map _ DO _ h1 h2=>
    have Dy:Ext ρ (λi=>if i=W.sz then some ⟨w.heap.size,0,0,0,0⟩else ρ i):=λi y hy=>by
     have:=hw.Wi i y hy;show(if i=W.sz then _ else ρ i)=some y;rw[aad (by omega)];exact hy
    obtain⟨hg,KR⟩:=hw.new (o:=.map es Fz) (o':=.map DO Fz) ⟨w.heap.size,0,0,0,0⟩ rfl (.map rfl (h2.mono Dy))
    have J4:(Extern.MapsClone.clone #[.iface t (.map (some x.b))]).run P w=.ok (.iface t (.map (some w.heap.size))) {w with heap:=w.heap.push (.map DO Fz)}:=by
     have e1:Extern.MapsClone.clone #[.iface t (.map (some x.b))]=(getObj x.b>>=λo=>match o with
       | .map entries clock=>(newObj (.map entries clock)>>=λn=>pure (.iface t (.map (some n))))
       | _=>stuck "maps.clone: a map expected"):=rfl
     have hgo:(getObj x.b).run P w=.ok (.map DO Fz) w:=A6 Jx (by simp);rw[e1];simp only[aaf,hgo,aaa,run_newObj,aai]
    exact⟨_,_,_,hz.2 f fn fI hb hn _ _ _ _ J4,hg,.iface _ (.map ⟨⟨w.heap.size,0,0,0,0⟩,by simp,rfl⟩),KR⟩
theorem fM(hz:ZP P){c:Call}{f:Operand}(ho:o.op=.call c)(hf:c.callee=.value f)(h:Bm P o e W=some outs)(hw:Aa P w0 ρ W w)(hx:AS ρ (e f) (e' f))
  (ha:∀x,x∈c.args.toList→AS ρ (e x) (e' x)):BU P w0 ρ W ((execOp e' o).run P w) outs:=by
 simp only[Bm,ho,hf]at h;have Dr:A4 ρ (c.args.toList.map e) (c.args.map e').toList:=by simpa using A4.map (ρ:=ρ) c.args.toList e e' ha
 generalize hn:KA (e f) (c.args.toList.map e)=n at h;unfold KA at hn
 split at hn
 ·rename_i fn first cap hc;rw[hc]at hx;generalize UI:e' f=V2 at hx
  cases hx with
  | @func _ f' _ x' _ y' fI h1 h2 h3 h4=>
   cases fI
   have hA:A4 ρ (first.toList++c.args.toList.map e++cap.toList) (x'++c.args.map e'++y').toList:=by
    have e1:=A4.arr.2 ⟨h1,h2⟩;have e2:=A4.arr.2 ⟨h3,h4⟩
    simpa using(e1.append Dr).append e2
   have hE:(execOp e' o).run P w=(callFunc fn (x'++c.args.map e'++y')).run P w:=by
    simp only[execOp,ho,resolve,hf,UI,Deferred.ofValue,aaf,aai,aaa,invoke]
   subst hn;simp only at h
   split at h
   ·rename_i v W1 Dy
    cases h
    obtain⟨v',w',ρ',J4,hg,hv,KR⟩:=bV hz Dy hw hA;exact⟨_,_,ρ',dy.2 rfl,hg,.value (w:=w') (by rw[hE,J4]) hv KR⟩
   ·cases h
    exact⟨_,_,ρ,dy.2 rfl,.refl _,.enter (args':=x'++c.args.map e'++y') (w:=w) hE hA hw⟩
 ·rename_i l first cap hc;subst hn
  cases h
  rw[hc]at hx;generalize UI:e' f=V2 at hx
  cases hx with
  | @func _ f' _ x' _ y' fI h1 h2 h3 h4=>
   cases fI with
   | yield hb=>
    refine⟨_,_,ρ,dy.2 rfl,.refl _,.round (args':=x'++c.args.map e') (w:=w) ?_ hb ?_ hw⟩
    ·simp only[execOp,ho,resolve,hf,UI,Deferred.ofValue,aaf,aai,aaa,invoke]
    ·have e1:=A4.arr.2 ⟨h1,h2⟩
     simpa using e1.append Dr
 ·subst hn
  cases h
theorem QN:∀{l:List Value} {m:List UInt8},K1 l=some m→m.length=l.length∧∀l',A4 ρ l l'→∃ns:List Int,l'=ns.map (Value.int .u8)∧m=ns.map λn=>UInt8.ofNat n.toNat
 |[],m,h=>by cases h;exact⟨rfl,λl' hl=>⟨[],aaG.1 hl.1.symm,rfl⟩⟩
 | v::l,m,h=>by
  unfold K1 at h
  split at h
  ·cases ‹_::_=[]›
  ·rename_i n l2 heq
   cases heq
   split at h
   ·rename_i m2 hm
    cases h
    obtain⟨h1,h2⟩:=QN hm;refine⟨by simp[h1],λl' hl=>?_⟩
    cases l' with
    |nil=>have:=hl.1;simp at this
    |cons y l'=>
     obtain⟨ns,e1,e2⟩:=h2 l' hl.tail;have hv:=hl.head
     cases hv
     exact⟨n::ns,by rw[e1];rfl,by rw[e2];rfl⟩
   ·cases h
  ·cases h
theorem nV(hw:Aa P w0 ρ W w){s d el:TypeId}{x x' v:Value}(hs:P.underlying s=some (.slice el))(hd:P.underlying d=some .string)(h:xE P el x W=some v)(hx:AS ρ x x') :
  (convert s d x').run P w=.ok v w∧AS ρ v v:=by
 unfold xE at h;split at h
 rotate_left
 ·cases h
 rename_i b n c NG;obtain⟨l,hl,h⟩:=Ao h;obtain⟨m,hm,h⟩:=Ao h
 cases h
 refine⟨?_,.string _⟩;obtain⟨b',c',rfl,BV⟩:=hx.Hy;rw[run_convert_bytes_string w s d el b' n c' hs NG hd];have V6:FV b (n*1) W=some l:=by rw[abR];exact hl
 obtain⟨l',hr,DZ⟩:=NH hw hx (aag n) V6;obtain⟨_,hb⟩:=QN (ρ:=ρ) hm;obtain⟨ns,e1,e2⟩:=hb _ DZ
 rcases BV with⟨rfl,rfl,_⟩|⟨a,a',rfl,rfl,_⟩
 ·have GY:l=[]:=by cases hl;rfl
  subst GY
  cases hm
  simp[Conv.bytesToString];rfl
 ·have hr:=hr w.drawn;simp only[Builtin.firstCells,abR]at hr;have e3:l'=(ns.map (Value.int .u8)).toArray:=by apply acE;rw[e1]
  rw[e3]at hr;rw[run_bytesToString w a' n c' ns hr,foldl_push_bytes,e2];simp
theorem nW(hw:Aa P w0 ρ W w){s d el:TypeId}{b:ByteArray}{v:Value}{W1:CW}(hs:P.underlying s=some .string)(hd:P.underlying d=some (.slice el))(h:ABC P el b W=some (v,W1)) :
  ∃v' w' ρ',(convert s d (.string b)).run P w=.ok v' w'∧FP W ρ W1 ρ'∧AS ρ' v v'∧Aa P w0 ρ' W1 w':=by
 unfold ABC at h;split at h
 rotate_left
 ·cases h
 rename_i NG KB
 cases h
 let cap:=grownCap w b.size 0 el
 have ADb:b.size≤cap:=by
  show b.size≤grownCap w b.size 0 el;simp only[grownCap,Question.cut];omega
 have Fi:=hw.drew (w.drawn+1)
 have Dy:Ext ρ (λi=>if i=W.sz then some ⟨w.heap.size,0,1,b.size,cap⟩else ρ i):=λi y hy=>by
  have:=hw.Wi i y hy;show(if i=W.sz then _ else ρ i)=some y;rw[aad (by omega)];exact hy
 have hbs:b.data.size=b.size:=rfl
 have UZ:(bytesRow b cap).size=cap:=by
  simp[bytesRow,hbs];omega
 obtain⟨hg,Hl⟩:=Fi.new (o:=.cells (Tr.nil.AW 0 (Eu (sb b))) b.size #[] el) (o':=.cells (bytesRow b cap) el ((bytesRow b cap).size,(bytesRow b cap).size+1)) ⟨w.heap.size,0,1,b.size,cap⟩ rfl (by
  refine .cells KB UZ (by show 0+b.size≤cap;omega) (λk hk=>?_) ⟨λk hk=>by simp;omega,λh=>(h rfl).elim⟩;have hk:k<b.size:=hk;have tS:k<b.data.size:=hk;have hlen:(Eu (sb b)).length=b.size:=by simp[Eu,sb,hbs]
  rw[C6 _ _ _ (by omega)]
  have e1:(bytesRow b cap).getD (k+0) undef=.int .u8 b.data[k].toNat:=by
   rw[aal,abc,bytesRow,Array.getElem?_append_left (by simpa using tS)];simp[Array.getElem?_eq_getElem tS]
  have e2:(Eu (sb b)).getD k undef=.int .u8 b.data[k].toNat:=by
   simp[Eu,sb,aah,Array.getElem?_eq_getElem tS]
  rw[e1,e2]
  exact .int _ _)
 refine⟨.slice (some ⟨w.heap.size,0,none⟩) b.size cap,_,_,?_,hg,.slice _ ⟨rfl,⟨w.heap.size,0,1,b.size,cap⟩,by simp,by simp⟩ (.inr ⟨⟨w.heap.size,0,1,b.size,cap⟩,by simp,by show 0<1;omega,by simp,by simp,ADb⟩),Hl⟩;exact run_bytes_of_string w s d el b hs hd NG
theorem nX{s d:TypeId}{x:Operand}(ho:o.op=.convert s d x)(h:Bm P o e W=some outs)(hw:Aa P w0 ρ W w)(hx:AS ρ (e x) (e' x)) :
  BU P w0 ρ W ((execOp e' o).run P w) outs:=by
 simp only[Bm,ho]at h
 split at h
 ·rename_i ud k k0 n hs hd hc
  cases h
  rw[hc]at hx;generalize Fh:e' x=V2 at hx
  cases hx
  refine .value hw ?_ (.int _ _);simp only[execOp,ho,Fh];refine BZ ?_;simp only[convert,aaf,AI hs,AI hd,aaa,Conv.intToInt,aai]
 ·rename_i ud s0 hs hd hc
  cases h
  rw[hc]at hx;generalize Fh:e' x=V2 at hx
  cases hx
  refine .value hw ?_ (.string _);simp only[execOp,ho,Fh];refine BZ ?_
  cases ud<;>simp[convert,AI hs,AI hd]
 ·rename_i el s0 hs hd hc;obtain⟨v,W1,hv,rfl⟩:=PN h;rw[hc]at hx;generalize Fh:e' x=V2 at hx
  cases hx
  obtain⟨v',w',ρ',hr,hg,xT,KR⟩:=nW hw hs hd hv;refine⟨_,_,ρ',dy.2 rfl,hg,.value (w:=w') ?_ xT KR⟩;simp only[execOp,ho,Fh];exact BZ hr
 ·rename_i el _ hs hd _;obtain⟨v,hv,rfl⟩:=F2 h;obtain⟨hr,xT⟩:=nV hw hs hd hv hx;refine .value hw ?_ xT;simp only[execOp,ho];exact BZ hr
 ·cases h
theorem jQ(hw:Aa P w0 ρ W w){ts:Array TypeId}{t ty:TypeId}{d d' s s' v:Value}{W1:CW}(h0:ts[0]?=some t)
  (h:iy P t d s W=some (v,W1)) (hd:AS ρ d d') (hs:AS ρ s s'):∃v' w',(Builtin.copy_ ts ty #[d',s']).run P w=.ok v' w'∧AS ρ v v'∧Aa P w0 ρ W1 w':=by
 unfold iy at h
 split at h
 ·rename_i elem base iz ANX sLen ht hsn;obtain⟨size,KB,h2⟩:=Ao h;clear h;obtain⟨news,IL,h⟩:=Ao h2;clear h2;have AKn:Nat.min sLen iz≤sLen:=Nat.min_le_left _ _;obtain⟨GA,we,DZ,hl⟩:=cH hw hs hsn AKn IL;obtain⟨QM,AG_,rfl,BV⟩:=hd.Hy
  have J4:(Builtin.copy_ ts ty #[.slice QM iz AG_,s']).run P w=(do
      if let some a:=QM then storeCells a GA.toList
      pure (goInt (Nat.min sLen iz)):Sem Value).run P w:=by
   simp only[Builtin.copy_,h0,acn,abk,aa3,aaf,AI ht,aaa,hl,Bb KB,we w.drawn]
   cases QM<;>rfl
  rw[cond_eq_ite]at h
  split at h
  ·rename_i bC;have bC:=aac bC;simp only[aam,aau]at h;obtain⟨rfl,rfl⟩:=h;refine⟨_,w,?_,.int _ _,hw⟩;rw[J4]
   have GY:GA.toList=[]:=by
    have hlen:=DZ.1
    have:news=[]:=by
     rw[bC]at IL;unfold HI at IL
     split at IL
     ·rw[abe]at IL;unfold FV at IL
      split at IL
      ·cases IL;rfl
      ·cases IL;rfl
     ·rw[cond_eq_ite]at IL
      split at IL
      ·cases IL;rfl
      ·cases IL
     ·cases IL
    rw[this]at hlen;exact aaG.1 hlen.symm
   rw[GY]
   cases QM<;>simp[storeCells,goInt]
  ·rename_i bC
   rcases BV with⟨rfl,_,_⟩|⟨b,b',rfl,rfl,BV⟩
   ·cases h
   ·simp only at h
    split at h
    ·rename_i c m zz ee CH;rw[cond_eq_ite]at h
     split at h
     ·rename_i Bn;simp only[aab]at Bn;have hle:=aaj Bn.2;simp only[aam,aau]at h;obtain⟨rfl,rfl⟩:=h
      rcases BV with⟨ha,_⟩|⟨hd0,_,_⟩|⟨hd0,_,_⟩
      ·obtain⟨x,jP,fr,bT,rfl,wh,me,hr,hn,nU,nF,_,Fh⟩:=hw.cells ha CH;have Hl:=hw.Ba CH rfl bT (hr.write (vs:=news) (vs':=GA.toList) DZ (k:=b.off) (by omega));refine⟨_,_,?_,.int _ _,Hl⟩;rw[J4];simp only[aaf];rw[Gh (P:=P) (b.off+x.o) GA.toList 0 w jP wh me (by have:=DZ.1;omega) (DZ.fK Bn.1)];simp only[aaa,aai,abc];rfl
      ·exact(bC (by rw[hd0];simp)).elim
      ·exact(bC (by rw[hd0];simp)).elim
     ·cases h
    ·cases h
 ·cases h
theorem nY(hw:Aa P w0 ρ W w){ts:Array TypeId}{t ty:TypeId}{x x' v:Value}(h0:ts[0]?=some t)(h:It P t x W=some v)(hx:AS ρ x x') :
  ∃v',(Builtin.len_ ts ty #[x']).run P w=.ok v' w∧AS ρ v v':=by
 unfold It at h
 split at h
 ·rename_i s ht
  cases h;cases hx
  exact⟨_,by simp[Builtin.len_,h0,AI ht,goInt],.int _ _⟩
 ·rename_i el a0 n c ht
  cases h
  obtain⟨a',c',rfl,_⟩:=hx.Hy;exact⟨_,by simp[Builtin.len_,h0,AI ht,goInt],.int _ _⟩
 ·rename_i kt el ht
  cases h;cases hx
  exact⟨_,by simp[Builtin.len_,h0,AI ht,goInt],.int _ _⟩
 ·rename_i kt el r ht
  cases hx with
  | map hb=>
   split at h
   ·rename_i es Fz CH
    cases h
    obtain⟨y,DO,hy,rfl,_,hh,DZ⟩:=hw.V9 hb CH;have hl:=DZ.length;refine⟨.int .i64 DO.size,by simp[Builtin.len_,h0,AI ht,goInt,A6 hh (by simp)],?_⟩;rw[hl]
    simpa using AS.int .i64 _
   ·cases h
 ·cases h
theorem nZ(hw:Aa P w0 ρ W w){ts:Array TypeId}{t ty:TypeId}{x x' v:Value}(h0:ts[0]?=some t)(h:ADO P t x W=some v)(hx:AS ρ x x') :
  ∃v',(Builtin.cap_ ts ty #[x']).run P w=.ok v' w∧AS ρ v v':=by
 unfold ADO at h
 split at h
 ·rename_i el n c ht
  cases h
  cases hx
  refine⟨_,?_,.int _ _⟩;simp[Builtin.cap_,h0,AI ht,goInt]
 ·rename_i el a n c ht
  split at h
  ·rename_i cc m z e CH;rw[cond_eq_ite]at h
   split at h
   ·cases h
   ·rename_i hz;simp only[aaU,abF,not_or]at hz
    cases h
    cases hx with
    | @slice _ a' _ _ c' ha hc=>
     have:c'=c:=by
      rcases hc with hc|⟨x,hx,hp,h1,h2,_⟩
      ·exact hc
      ·obtain⟨_,y,hy,rfl⟩:=ha;rw[hx]at hy;cases hy;obtain⟨o',Jx,hr⟩:=hw.obj CH (by simp) hx rfl
       cases hr with
       |cells _ _ _ _ hq=>
        obtain⟨e1,e2⟩:=hq.2 hz.1;have:c*x.sz=c'*x.sz:=by omega
        exact(acv hp this).symm
     subst this;refine⟨_,?_,.int _ _⟩;simp[Builtin.cap_,h0,AI ht,goInt]
    |L9=>exact(hz.2 rfl).elim
    |KQ=>exact(hz.2 rfl).elim
  ·cases h
 ·cases h
theorem bW(hw:Aa P w0 ρ W w){ts:Array TypeId}{t ty:TypeId}{m m' k k':Value}{W1:CW}(h0:ts[0]?=some t)(h:R8 P t m k W=some W1)(hm:AS ρ m m')(hk:AS ρ k k') :
  ∃w',(Builtin.delete_ ts ty #[m',k']).run P w=.ok (.tuple #[]) w'∧Aa P w0 ρ W1 w':=by
 unfold R8 at h
 split at h
 ·rename_i kt el r ht
  cases hm with
  | @map _ r' hb=>
   split at h
   ·rename_i es Fz CH;obtain⟨f,hf,h2⟩:=Ao h;clear h;have h:=h2;obtain⟨y,DO,hy,rfl,qy,hh,DZ⟩:=hw.V9 hb CH;obtain⟨r',OE,Li,BV⟩:=OP hf hk DZ
    rcases BV with⟨rfl,rfl⟩|⟨j,x1,x1',en,rfl,rfl,hxx,Hx,V'⟩
    ·cases h
     refine⟨{w with heap:=w.heap.setIfInBounds y.b (.map DO Fz)},?_,hw.Ba CH rfl hy (.map qy DZ)⟩;simp[Builtin.delete_,h0,AI ht,A6 hh (by simp),OE,Li,Dz hh (by simp)]
    ·cases h
     refine⟨{w with heap:=w.heap.setIfInBounds y.b (.map (DO.eraseIdxIfInBounds j) Fz)},?_,hw.Ba CH rfl hy (.map qy ?_)⟩
     ·simp[Builtin.delete_,h0,AI ht,A6 hh (by simp),OE,Li,Dz hh (by simp)]
     ·have:=DZ.NA j;have e1:(DO.eraseIdxIfInBounds j).toList=DO.toList.eraseIdx j:=by simp
      rw[e1];exact this
   ·cases h
 ·cases h
theorem fN(hz:ZP P)(hw:Aa P w0 ρ W w){ts:Array TypeId}{t ty:TypeId}{x x':Value}{W1:CW}(h0:ts[0]?=some t)(h:YO P t x W=some W1)(hx:AS ρ x x') :
  ∃w',(Builtin.clear_ ts ty #[x']).run P w=.ok (.tuple #[]) w'∧Aa P w0 ρ W1 w':=by
 unfold YO at h
 split at h
 ·rename_i kt el r ht
  split at h
  ·rename_i es Fz CH
   cases h
   cases hx with
   | @map _ r' hb=>
    obtain⟨y,DO,hy,rfl,qy,hh,DZ⟩:=hw.V9 hb CH;refine⟨{w with heap:=w.heap.setIfInBounds y.b (.map #[] Fz)},?_,hw.Ba CH rfl hy (.map qy trivial)⟩;simp[Builtin.clear_,h0,AI ht,A6 hh (by simp),Dz hh (by simp)]
  ·cases h
 ·rename_i kt el ht
  cases h;cases hx
  exact⟨w,by simp[Builtin.clear_,h0,AI ht],hw⟩
 ·rename_i el a n c ht;obtain⟨size,KB,h2⟩:=Ao h;clear h;obtain⟨z0,M4,h⟩:=Ao h2;clear h2;obtain⟨a',c',rfl,BV⟩:=hx.Hy;rw[cond_eq_ite]at h
  split at h
  ·rename_i bC;have bC:=aac bC;subst bC
   cases h
   refine⟨w,?_,hw⟩
   cases a'<;>simp[Builtin.clear_,h0,AI ht]
  ·rename_i bC;have bC:n≠0:=λh=>bC (by rw[h];rfl)
   split at h
   ·rename_i cc m zz ee CH;rw[cond_eq_ite]at h
    split at h
    ·rename_i Bn;simp only[aab]at Bn;have hle:=aaj Bn.1
     cases h
     rcases BV with⟨h1,_⟩|⟨b,b',hb1,rfl,BV⟩
     ·cases h1
     ·cases hb1
      rcases BV with⟨ha,_⟩|⟨h1,_⟩|⟨h1,_⟩
      ·obtain⟨x,jP,fr,bT,rfl,wh,me,hr,hn,nU,nF,_,Fh⟩:=hw.cells ha CH
       have hzl:A4 ρ (Bj .nil z0.cells (n*z0.cells.size) 0) (Builtin.zeroCells z0.cells n).toList:=by
        refine⟨by simp[BK,Builtin.zeroCells],λi hi=>?_⟩;rw[BK]at hi;rw[HK _ _ _ _ _ hi,aaL]
        have h1:=PO (ρ:=ρ) hz M4 (n*z0.cells.size) (by
         rcases abK z0.cells.size with h0|h0
         ·left;rw[h0];rfl
         ·exact .inr h0) i hi
        simp only[Builtin.zeroCells];rw[aal,←abj]at h1;rw[aah];exact h1
       have C3:(Builtin.zeroCells z0.cells n).toList.all BJ=true:=by
        rw[aax];intro y hy;simp only[Builtin.zeroCells,acg,aaM,Array.toList_range,aaT]at hy;obtain⟨i,hi,rfl⟩:=hy
        have UR:0<z0.cells.size:=by
         rcases abK z0.cells.size with h0|h0
         ·rw[h0]at hi;omega
         ·exact h0
        have Ad:i%z0.cells.size<z0.cells.size:=ac8 _ UR;have:=aax.1 Bn.2 (z0.cells[i%z0.cells.size]) (by simp)
        simpa[Ad]using this
       have Hl:=hw.Ba CH rfl bT (hr.write (vs:=Bj .nil z0.cells (n*z0.cells.size) 0) hzl (k:=a.off) (by rw[BK];omega));refine⟨_,?_,Hl⟩;have FJ:=Gh (P:=P) (a.off+x.o) (Builtin.zeroCells z0.cells n).toList 0 w jP wh me (by simp[Builtin.zeroCells];omega) C3;obtain⟨n,rfl⟩:∃k,n=k+1:=⟨n-1,by omega⟩
       simp only[Builtin.clear_,h0,acn,abk,aaf,AI ht,aaa,CA M4,FJ,aai,abc]
      ·exact(bC h1).elim
      ·exact(bC h1).elim
    ·cases h
   ·cases h
 ·rename_i el n c ht
  cases h
  obtain⟨a',c',rfl,BV⟩:=hx.Hy
  have:a'=none:=by
   rcases BV with⟨_,h,_⟩|⟨b,b',h,_⟩
   ·exact h
   ·cases h
  subst this;refine⟨w,?_,hw⟩
  cases n<;>simp[Builtin.clear_,h0,AI ht]
 ·cases h
theorem xg{t:TypeId}{d s v:Value}{W1:CW}(h:iy P t d s W=some (v,W1)):W.sz≤W1.sz:=by
 unfold iy at h
 split at h
 ·obtain⟨_,_,h⟩:=Ao h;obtain⟨_,_,h⟩:=Ao h
  repeat' (first|(cases h;done)|(cases h;exact aag _)|(rw[cond_eq_ite]at h)|split at h)
 ·cases h
theorem na{t:TypeId}{d s:Value}{W1:CW}(h:R8 P t d s W=some W1):W.sz≤W1.sz:=by
 unfold R8 at h
 split at h
 ·split at h
  ·obtain⟨_,_,h⟩:=Ao h
   repeat' (first|(cases h;done)|(cases h;exact aag _)|(rw[cond_eq_ite]at h)|split at h)
  ·cases h
 ·cases h
theorem tU{t:TypeId}{d:Value}{W1:CW}(h:YO P t d W=some W1):W.sz≤W1.sz:=by
 unfold YO at h
 split at h
 ·repeat' (first|(cases h;done)|(cases h;exact aag _)|(rw[cond_eq_ite]at h)|split at h)
 ·cases h;exact aag _
 ·obtain⟨_,_,h⟩:=Ao h;obtain⟨_,_,h⟩:=Ao h
  repeat' (first|(cases h;done)|(cases h;exact aag _)|(rw[cond_eq_ite]at h)|split at h)
 ·cases h;exact aag _
 ·cases h
theorem fO{c:Call}{b:Builtin}(ho:o.op=.call c)(hf:c.callee=.builtin b)(w:World) :
  (execOp e' o).run P w=(builtin b c.argTypes o.type (c.args.map fun| .const _=>true|_=>false) (c.args.map e')).run P w:=by
 simp only[execOp,ho,resolve,hf,aaf,aai,aaa,invoke];rfl
theorem cK{α:Type}{a:Array α}{x:α}{l:List α}(h:a.toList=x::l):a[0]?=some x:=by rw[←abj,h];rfl
theorem AHA{α:Type}{a:Array α}{x y:α}{l:List α}(h:a.toList=x::y::l):a[1]?=some y:=by rw[←abj,h];rfl
theorem ofList{α:Type}{a:Array α}{l:List α}(h:a.toList=l):a=l.toArray:=by rw[←h]
theorem nb(hz:ZP P){c:Call}{b:Builtin}(ho:o.op=.call c)(hf:c.callee=.builtin b)(h:Bm P o e W=some outs)(hw:Aa P w0 ρ W w)
  (ha:∀x,x∈c.args.toList→AS ρ (e x) (e' x)):BU P w0 ρ W ((execOp e' o).run P w) outs:=by
 rw[fO ho hf];simp only[Bm,ho,hf]at h;split at h
 rotate_left
 ·cases h
 rename_i r hr
 cases h
 generalize hB:c.args.map e'=B;have Dr:A4 ρ (c.args.toList.map e) B.toList:=by rw[←hB];simpa using A4.map (ρ:=ρ) c.args.toList e e' ha
 clear hB;generalize c.args.toList.map e=A at hr Dr;unfold K_ at hr
 have one:∀{x:Value},A4 ρ [x] B.toList→∃x',B=#[x']∧AS ρ x x':=by
  intro x hl
  cases hB:B.toList with
  |nil=>rw[hB]at hl;have:=hl.1;simp at this
  |cons y ys=>
   rw[hB]at hl;have:ys=[]:=by have:=hl.1;simp at this;first|exact this|exact this.symm|exact aaG.1 this.symm
   subst this;exact⟨y,ofList hB,hl.head⟩
 have two:∀{x y:Value},A4 ρ [x,y] B.toList→∃x' y',B=#[x',y']∧AS ρ x x'∧AS ρ y y':=by
  intro x y hl
  cases hB:B.toList with
  |nil=>rw[hB]at hl;have:=hl.1;simp at this
  | cons x' ys=>
   rw[hB]at hl;have h1:=hl.head;have hl:=hl.tail
   cases ys with
   |nil=>have:=hl.1;simp at this
   |cons y' ys=>
    have:ys=[]:=by have:=hl.1;simp at this;first|exact this|exact this.symm|exact aaG.1 this.symm
    subst this;exact⟨x',y',ofList hB,h1,hl.head⟩
 split at hr
 ·rename_i t ts x M5;obtain⟨x',rfl,hx⟩:=one Dr;rw[aat]at hr;obtain⟨v,hv,rfl⟩:=hr;obtain⟨v',JY,ID⟩:=nY (ty:=o.type) hw (cK M5) hv hx;exact .value hw (BZ JY) ID
 ·rename_i t ts x M5;obtain⟨x',rfl,hx⟩:=one Dr;rw[aat]at hr;obtain⟨v,hv,rfl⟩:=hr;obtain⟨v',JY,ID⟩:=nZ (ty:=o.type) hw (cK M5) hv hx;exact .value hw (BZ JY) ID
 ·rename_i t u ts s x M5;obtain⟨s',x',rfl,hs,hx⟩:=two Dr;rw[cond_eq_ite]at hr
  split at hr
  ·rename_i hu;rw[aat]at hr;obtain⟨⟨v,W1⟩,hv,rfl⟩:=hr;obtain⟨v',w',ρ',Dy,JY,ID,KR⟩:=bS (ty:=o.type) hw (cK M5) (AHA M5) hu hv hs hx;exact⟨_,_,ρ',dy.2 rfl,Dy,.value (BZ JY) ID KR⟩
  ·cases hr
 ·rename_i t ts d s M5;obtain⟨d',s',rfl,hd,hs⟩:=two Dr;rw[aat]at hr;obtain⟨⟨v,W1⟩,hv,rfl⟩:=hr;obtain⟨v',w',JY,ID,KR⟩:=jQ (ty:=o.type) hw (cK M5) hv hd hs;exact⟨_,_,ρ,dy.2 rfl,.refl _ (xg hv),.value (BZ JY) ID KR⟩
 ·rename_i t ts x M5;obtain⟨x',rfl,hx⟩:=one Dr;rw[aat]at hr;obtain⟨W1,hv,rfl⟩:=hr;obtain⟨w',JY,KR⟩:=fN (ty:=o.type) hz hw (cK M5) hv hx;exact⟨_,_,ρ,dy.2 rfl,.refl _ (tU hv),.value (BZ JY) (.tuple' (.nil _)) KR⟩
 ·rename_i t ts m k M5;obtain⟨m',k',rfl,hm,hk⟩:=two Dr;rw[aat]at hr;obtain⟨W1,hv,rfl⟩:=hr;obtain⟨w',JY,KR⟩:=bW (ty:=o.type) hw (cK M5) hv hm hk;exact⟨_,_,ρ,dy.2 rfl,.refl _ (na hv),.value (BZ JY) (.tuple' (.nil _)) KR⟩
 ·rename_i k a k2 b2;obtain⟨x',y',rfl,hx,hy⟩:=two Dr
  cases hx;cases hy;cases hr
  refine .value hw (BZ (s:=Builtin.max_ c.argTypes o.type #[.int k a,.int k2 b2]) (by simp[Builtin.max_,Builtin.max2];rfl)) ?_;simp only[cond_eq_ite,decide_eq_true_eq];exact .int _ _
 ·rename_i k a k2 b2;obtain⟨x',y',rfl,hx,hy⟩:=two Dr
  cases hx;cases hy;cases hr
  refine .value hw (BZ (s:=Builtin.min_ c.argTypes o.type #[.int k a,.int k2 b2]) (by simp[Builtin.min_,Builtin.min2];rfl)) ?_;simp only[cond_eq_ite,decide_eq_true_eq];exact .int _ _
 ·cases hr
  exact⟨_,_,ρ,dy.2 rfl,.refl _,.recover rfl hw⟩
 ·cases hr
theorem SM(hz:ZP P)(Al:YP o=true)(GZ:∀g,e (.global g)=.complex .f32 0 0)(he:∀x,x∈o.op.operands→Av x=true→AS ρ (e x) (e' x))(hw:Aa P w0 ρ W w)(h:Bm P o e W=some outs):BU P w0 ρ W ((execOp e' o).run P w) outs:=by
 have al:∀l:List Operand,(∀x,x∈l→x∈o.op.operands)→l.all Av=true→∀x,x∈l→AS ρ (e x) (e' x):=λl hm hl x hx=>he x (hm x hx) (aax.1 hl x hx);have al2:∀l:List (Nat×Operand),(∀x,x∈l→x.2∈o.op.operands)→(l.all λp=>Av p.2)=true→∀p,p∈l→AS ρ (e p.2) (e' p.2):=λl hm hl x hx=>he x.2 (hm x hx) (aax.1 hl x hx);have op:∀m:Option Operand,(∀x,m=some x→x∈o.op.operands)→m.all Av=true→∀x,m=some x→AS ρ (e x) (e' x):=λm CU hm x hx=>he x (CU x hx) (by subst hx;simpa using hm);unfold YP at Al;split at Al<;>(try simp only[aab]at Al)
 case h_1 ho=>exact qw (.inl ho) h hw (he _ (by rw[ho];simp[Op.operands]) Al)
 case h_2 ho=>exact qw (.inr ho) h hw (he _ (by rw[ho];simp[Op.operands]) Al)
 case h_3 ho=>exact jF ho h hw (he _ (by rw[ho];simp[Op.operands]) Al)
 case h_4 ho=>exact ABH ho h hw (he _ (by rw[ho];simp[Op.operands]) Al)
 case h_5 ho=>exact nX ho h hw (he _ (by rw[ho];simp[Op.operands]) Al)
 case h_6 ho=>exact US ho h hw (he _ (by rw[ho];simp[Op.operands]) Al)
 case h_7 ho=>exact xN ho h hw (he _ (by rw[ho];simp[Op.operands]) Al)
 case h_8 ho=>exact fG ho h hw (he _ (by rw[ho];simp[Op.operands]) Al)
 case h_9 ho=>exact xW ho h hw (he _ (by rw[ho];simp[Op.operands]) Al)
 case h_10 ho=>exact ABI ho h hw (he _ (by rw[ho];simp[Op.operands]) Al)
 case h_11 ho=>exact xY ho h hw (he _ (by rw[ho];simp[Op.operands]) Al)
 case h_12 ho=>exact bR hz ho h hw (he _ (by rw[ho];simp[Op.operands]) Al)
 case h_13 ho=>exact nJ ho h hw (he _ (by rw[ho];simp[Op.operands]) Al)
 case h_14 ho=>exact xQ ho h hw (he _ (by rw[ho];simp[Op.operands]) Al)
 case h_15 ho=>exact ADW ho h hw (he _ (by rw[ho];simp[Op.operands]) Al)
 case h_16 t x ho=>
  rw[aaU]at Al
  rcases Al with Al|Al
  ·exact ABG ho h hw (he _ (by rw[ho];simp[Op.operands]) Al)
  ·split at Al
   ·simp only[Bm,ho,GZ]at h
    cases h
   ·cases Al
 case h_17 ho=>exact ABF ho h hw (he _ (by rw[ho];simp[Op.operands]) Al.1.1) (he _ (by rw[ho];simp[Op.operands]) Al.1.2) (he _ (by rw[ho];simp[Op.operands]) Al.2)
 case h_18 ho=>exact xI hz ho h hw
 case h_19 ho=>exact nP ho h hw
 case h_20 ho=>exact xM hz ho h hw (al2 _ (λx hx=>by rw[ho];simp[Op.operands];exact⟨x.1,by simpa using hx⟩) Al)
 case h_21 ho=>exact bQ hz ho h hw (al2 _ (λx hx=>by rw[ho];simp[Op.operands];exact⟨x.1,by simpa using hx⟩) Al)
 case h_22 ho=>exact xH ho h hw (he _ (by rw[ho];simp[Op.operands]) Al.1) (he _ (by rw[ho];simp[Op.operands]) Al.2)
 case h_23 ho=>exact xL ho h hw (he _ (by rw[ho];simp[Op.operands]) Al.1) (he _ (by rw[ho];simp[Op.operands]) Al.2)
 case h_24 ho=>exact fF hz ho h hw (he _ (by rw[ho];simp[Op.operands]) Al.1) (he _ (by rw[ho];simp[Op.operands]) Al.2)
 case h_25 ho=>exact fH ho h hw (he _ (by rw[ho];simp[Op.operands]) Al.1) (he _ (by rw[ho];simp[Op.operands]) Al.2)
 case h_26 ho=>exact xO ho h hw (he _ (by rw[ho];simp[Op.operands]) Al.1) (he _ (by rw[ho];simp[Op.operands]) Al.2)
 case h_27 ho=>exact tQ hz ho h hw (he _ (by rw[ho];simp[Op.operands]) Al.1) (he _ (by rw[ho];simp[Op.operands]) Al.2)
 case h_28 ho=>exact jJ ho h hw (al _ (λx hx=>by rw[ho];simp[Op.operands];first|exact .inl hx|exact .inr hx|exact .inl (by simpa using hx)|exact .inr (by simpa using hx)) Al.1) (al _ (λx hx=>by rw[ho];simp[Op.operands];first|exact .inl hx|exact .inr hx|exact .inl (by simpa using hx)|exact .inr (by simpa using hx)) Al.2)
 case h_29 ho=>exact xP ho h hw (he _ (by rw[ho];simp[Op.operands]) Al.1.1.1) (op _ (λx hx=>by rw[ho];simp[Op.operands,hx]) Al.1.1.2) (op _ (λx hx=>by rw[ho];simp[Op.operands,hx]) Al.1.2) (op _ (λx hx=>by rw[ho];simp[Op.operands,hx]) Al.2)
 case h_30 ho=>exact SL (.inl ho) h hw (he _ (by rw[ho];simp[Op.operands]) Al.1.1) (he _ (by rw[ho];simp[Op.operands]) Al.1.2) (he _ (by rw[ho];simp[Op.operands]) Al.2)
 case h_31 ho=>exact SL (.inr ho) h hw (he _ (by rw[ho];simp[Op.operands]) Al.1.1) (he _ (by rw[ho];simp[Op.operands]) Al.1.2) (he _ (by rw[ho];simp[Op.operands]) Al.2)
 case h_32 c ho=>
  obtain⟨h1,h2⟩:=Al
  split at h2
  ·rename_i f hf;exact fM hz ho hf h hw (he _ (by rw[ho];simp[Op.operands,Call.operands,hf]) h2) (al _ (λx hx=>by rw[ho];simp[Op.operands,Call.operands,hf];exact .inr (by simpa using hx)) h1)
  ·rename_i b hf;exact nb hz ho hf h hw (al _ (λx hx=>by rw[ho];simp[Op.operands,Call.operands,hf];simpa using hx) h1)
  ·cases h2
 case h_33 c ho=>
  obtain⟨h1,h2⟩:=Al
  split at h2
  ·rename_i f hf;exact xR ho hf h hw (he _ (by rw[ho];simp[Op.operands,Call.operands,hf]) h2) (al _ (λx hx=>by rw[ho];simp[Op.operands,Call.operands,hf];exact .inr (by simpa using hx)) h1)
  ·cases h2
 case h_34=>cases Al
end
end Go.Ce
