/- A part of the proof: Ca, Cb, Cc, Cd, Ce, Cf, Cg, Ch, Ci, Cj, Ck, Cl, Cm. -/
import Derived.OrdersIn
import Derived.RangeFuncIn
import Derived.DefersIn
import Derived.RecoverIn
import Derived.KernelRfl
import Derived.Below
import Derived.Laws.StructEq
import Derived.Laws.Concat
import Derived.MapKept
set_option linter.unusedSectionVars false
set_option linter.unusedVariables false
set_option linter.unusedSimpArgs false
set_option linter.defProp false
set_option maxRecDepth 200000
namespace Go.Ce
def ck:=@List.getElem?_eq_getElem
def dx:=@List.mem_singleton
def dy:=@Bool.and_eq_true
def zC:=@Go.Result.andThen_ok
def aaa:=@List.getElem?_eq_some_iff
def aab:=@Nat.eq_of_beq_eq_true
def aac:=@if_neg
def aad:=@if_pos
def aae:=@Go.Sem.run_bind
def aaf:=@Nat.le_refl
def aag:=@Option.some.injEq
def aah:=@List.length_append
def aai:=@List.mem_of_getElem?
def aaj:=@List.getD_eq_getElem?_getD
def aak:=@Go.Sem.run_pure
def aal:=@Array.getD_eq_getD_getElem?
def aam:=@Nat.le_of_ble_eq_true
def aan:=@Nat.ble_eq_true_of_le
def aao:=@Array.getElem?_eq_some_iff
def aap:=@List.length_cons
def aaq:=@List.findIdx?_eq_some_iff_getElem
def aar:=@Prod.mk.injEq
def aas:=@List.flatMap_cons
def aat:=@List.getElem?_append_left
def aau:=@List.length_map
def aav:=@Bool.not_true
def aaw:=@Option.map_eq_some_iff
def aax:=@List.all_eq_true
def aay:=@List.getElem?_append_right
def aaz:=@Bool.or_eq_false_iff
def aaA:=@if_true
def aaB:=@List.mem_append
def aaC:=@Bool.not_eq_true'
def aaD:=@Nat.lt_succ_iff_lt_or_eq
def aaE:=@List.mem_cons
def aaF:=@List.length_eq_zero_iff
def aaG:=@List.getElem_mem
def aaH:=@List.any_eq_true
def aaI:=@List.length_take
def aaJ:=@List.length_singleton
def aaK:=@List.getElem?_map
def aaL:=@List.findIdx?_eq_none_iff
def aaM:=@Bool.false_eq_true
def aaN:=@Nat.mul_le_mul_right
def aaO:=@List.append_assoc
def aaP:=@List.length_nil
def aaQ:=@Bool.or_eq_true
def aaR:=@List.append_nil
def aaS:=@List.take_of_length_le
def aaT:=@Array.getElem?_setIfInBounds
def aaU:=@List.mem_map
def aaV:=@List.mem_range
def aaW:=@List.getElem?_take
def aaX:=@List.take_add_one
def aaY:=@Bool.not_false
def aaZ:=@Nat.le_max_right
def aa0:=@Nat.zero_add
def aa1:=@Option.some.inj
def aa2:=@List.mem_take_iff_getElem
def aa3:=@Array.getElem?_setIfInBounds_ne
def aa4:=@List.flatMap_append
def aa5:=@List.map_append
def aa6:=@Nat.add_zero
def aa7:=@Nat.zero_le
def aa8:=@Option.isSome_iff_exists
def aa9:=@Nat.le_max_left
def aa_:=@Bool.not_eq_false'
def aba:=@Array.getElem?_toList
def abb:=@Bool.true_and
def abc:=@Option.getD_some
def abd:=@Option.map_some
def abe:=@List.foldl_cons
def abf:=@List.nil_append
def abg:=@Int.toNat_natCast
def abh:=@Nat.le_trans
def abi:=@List.mem_of_mem_take
def abj:=@List.zip_cons_cons
def abk:=@if_false
def abl:=@Nat.zero_mul
def abm:=@Bool.eq_iff_iff
def abn:=@List.take_append_drop
def abo:=@List.mem_flatMap
def abp:=@List.all_cons
def abq:=@List.ext_getElem?
def abr:=@List.map_cons
def abt:=@List.pairwise_singleton
def abu:=@Nat.add_mul
def abv:=@List.getElem?_drop
def abw:=@Option.toList_some
def abx:=@Int.le_refl
def aby:=@List.replicate_succ
def abz:=@Nat.beq_eq
def abA:=@Array.size_setIfInBounds
def abB:=@Nat.sub_self
def abC:=@Nat.lt_of_lt_of_le
def abD:=@List.mem_of_mem_drop
def abE:=@Nat.beq_refl
def abF:=@Array.length_toList
def abG:=@List.getElem?_set
def abH:=@Go.StepsIn.trans
def abI:=@List.drop_zero
def abJ:=@Classical.byContradiction
def abK:=@List.cons.injEq
def abL:=@Option.isSome_none
def abM:=@Nat.eq_zero_or_pos
def abN:=@List.length_drop
def abO:=@List.take_length
def abP:=@List.mem_cons_of_mem
def abQ:=@List.mem_iff_getElem
def abR:=@Nat.pow_le_pow_right
def abS:=@List.getElem?_of_mem
def abT:=@Bool.and_true
def abU:=@List.any_eq_false
def abV:=@List.getElem_of_mem
def abW:=@Ne.symm
def abX:=@List.length_set
def abY:=@Bool.false_or
def abZ:=@List.find?_eq_none
def ab0:=@List.mem_cons_self
def ab1:=@List.getElem?_eq_none
def ab3:=@List.mem_of_find?_eq_some
def ab4:=@Bool.false_and
def ab5:=@List.drop_eq_getElem_cons
def ab6:=@List.mem_append_left
def ab7:=@List.zip_nil_left
def ab8:=@congrArg
def ab9:=@Bool.and_self
def ab_:=@List.mem_map_of_mem
def acd:=@List.getElem?_cons_zero
def ace:=@List.getElem?_cons_succ
def acf:=@Option.bind_some
def acg:=@Nat.mod_eq_of_lt
def ach:=@Array.toList_map
def aci:=@List.cons_append
def acj:=@List.prefix_refl
def ack:=@List.nodup_nil
def acm:=@Array.getElem?_extract
def acn:=@List.drop_of_length_le
def aco:=@List.pairwise_cons
def acp:=@List.getElem?_toArray
def acq:=@List.mem_filter
def acr:=@Array.mem_of_getElem?
def acs:=@List.length_replicate
def acu:=@Decidable.not_not
def acv:=@List.nodup_append
def acw:=@Nat.eq_of_mul_eq_mul_right
def acy:=@Int.tmod_eq_emod_of_nonneg
def acz:=@Int.tdiv_eq_ediv_of_nonneg
def acA:=@List.drop_drop
def acB:=@List.flatMap_nil
def acC:=@Array.getElem?_push
def acD:=@Nat.one_mul
def acE:=@Array.ext'
def acF:=@Nat.mul_comm
def acG:=@Nat.succ_mul
def acH:=@List.eq_of_mem_replicate
def acI:=@Option.bind_eq_some_iff
def acJ:=@Nat.one_le_two_pow
def acK:=@List.size_toArray
def acL:=@List.foldl_append
def acM:=@List.find?_isSome
def acN:=@List.mapM_cons
def acO:=@List.take_zero
def acP:=@List.Perm.refl
def acQ:=@Nat.sub_zero
def acR:=@List.length_filter_le
def acS:=@Bool.or_self
def acT:=@Nat.lt_succ_self
def acU:=@List.not_mem_nil
def acV:=@List.flatMap_map
def acW:=@Nat.log2_self_le
def acX:=@List.findIdx?_append
def acY:=@Bool.or_false
def acZ:=@List.map_drop
def ac0:=@List.getD_cons_succ
def ac1:=@UInt8.toNat_inj
def ac2:=@Nat.mul_one
def ac3:=@List.any_append
def ac4:=@List.nodup_cons
def ac5:=@Array.foldl_toList
def ac6:=@Nat.add_comm
def ac7:=@Bool.false_ne_true
def ac8:=@Option.any_eq_true
def ac9:=@List.findIdx?_cons
def ac_:=@Option.isSome_some
def ada:=@List.map_map
def adb:=@Nat.mul_le_mul
def ade:=@Nat.pow_add
inductive Tr(α:Type) where
 |nil
 |node (l:Tr α) (v:Option α) (r:Tr α)
def Tr.get{α:Type}:Tr α→Nat→Option α
 | .nil,_=>none
 | .node l v r,i=>cond (Nat.beq i 0) v (cond (Nat.beq (i%2) 1) (l.get (i/2)) (r.get (i/2-1)))
def Tr.fC{α:Type}:Nat→Tr α→Nat→α→Tr α
 |0,t,_,_=>t
 |f+1,.nil,i,x=>cond (Nat.beq i 0) (.node .nil (some x) .nil) (cond (Nat.beq (i%2) 1) (.node (Tr.fC f .nil (i/2) x) none .nil) (.node .nil none (Tr.fC f .nil (i/2-1) x)))
 |f+1,.node l v r,i,x=>cond (Nat.beq i 0) (.node l (some x) r) (cond (Nat.beq (i%2) 1) (.node (Tr.fC f l (i/2) x) v r) (.node l v (Tr.fC f r (i/2-1) x)))
def Tr.set{α:Type}(t:Tr α)(i:Nat)(x:α):Tr α:=Tr.fC (i+1) t i x
def Tr.AS{α:Type}(t:Tr α)(k:Nat):List α→Tr α
 |[]=>t
 |x::xs=>(t.set k x).AS (k+1) xs
inductive Am where
 |cells (c:Tr Value) (n:Nat) (z:Array Value) (elem:TypeId)
 |map (es:List MapEntry) (clock:Nat)
 |iter (m:Option Nat) (since:Nat) (seen:List Nat) (last:Nat)
 |loop (state:LoopState) (pending:Option Code) (fn:FuncId) (tmps:Tr Value) (nt:Nat) (params:Array Tmp) (assign body:Code) (defers:Nat)
 |deferred
 |dead
 |fixed (f:Nat→Value) (n:Nat) (elem:TypeId)
def Am.mut:Am→Bool
 | .dead=>false
 | .fixed _ _ _=>false
 |_=>true
structure CW where
 h:Tr Am
 sz:Nat
structure AI where
 t:Tr Value
 nt:Nat
 defers:List Deferred
inductive BQ where
 |value (v:Value)
 |skip
 |enter (f:FuncId) (args:List Value)
 |round (l:Nat) (args:List Value)
 |defer (d:Deferred)
 |recover
 |panic (v:Value)
def AI.eval(a:AI):Operand→Value
 | .tmp t=>match a.t.get t with|some v=>v|none=>undef
 | .const v=>v
 | .global _=>.complex .f32 0 0
 | .func f=>.func (.func f) #[] #[]
def AI.put(a:AI)(d:Option Tmp)(v:Value):AI :=
 match d with
 |some d=>{a with t:=a.t.set d v}
 |none=>a
def CW.new(W:CW)(o:Am):CW:=⟨W.h.set W.sz o,W.sz+1⟩
def CW.obj(W:CW)(i:Nat):Option Am:=W.h.get i
def CW.A6(W:CW)(i:Nat)(o:Am):CW:=⟨W.h.set i o,W.sz⟩
def cellAt(c:Tr Value)(z:Array Value)(k:Nat):Value :=
 match c.get k with
 |some v=>v
 |none=>z.getD (k%z.size) undef
def BE(c:Tr Value)(z:Array Value):Nat→Nat→List Value
 |0,_=>[]
 |m+1,k=>cellAt c z k::BE c z m (k+1)
def Y2:List UInt8→List UInt8→Bool
 |[],[]=>true
 |a::x,b::y=>Nat.beq a.toNat b.toNat&&Y2 x y
 |_,_=>false
def Hu:List UInt8→List UInt8→Bool
 |_,[]=>false
 |[],_::_=>true
 |a::x,b::y=>Nat.blt a.toNat b.toNat||(Nat.beq a.toNat b.toNat&&Hu x y)
def sb(s:ByteArray):List UInt8:=s.data.toList
def ABs(op:BinOp)(a b:ByteArray):Option Value :=
 match op with
 | .add=>cond (Nat.ble (a.size+b.size) 9223372036854775807) (some (.string ⟨(sb a++sb b).toArray⟩)) none
 | .eql=>some (.bool (Y2 (sb a) (sb b)))
 | .neq=>some (.bool (!Y2 (sb a) (sb b)))
 | .lss=>some (.bool (Hu (sb a) (sb b)))
 | .leq=>some (.bool (Hu (sb a) (sb b)||Y2 (sb a) (sb b)))
 | .gtr=>some (.bool (!(Hu (sb a) (sb b)||Y2 (sb a) (sb b))))
 | .geq=>some (.bool (!Hu (sb a) (sb b)))
 |_=>none
def C_(l:List UInt8):List Value:=l.map λb=>.int .u8 b.toNat
def GO:List Value→Option (List UInt8)
 |[]=>some []
 | .int .u8 n::l=>match GO l with
  |some m=>some (UInt8.ofNat n.toNat::m)
  |none=>none
 |_::_=>none
def O1(d:TypeDesc)(k v:Value):Option Bool :=
 match d,k,v with
 | .string,.string a,.string b=>some (Y2 (sb a) (sb b))
 |d,k,v=>Instr.sameNow d k v
def LR(d:TypeDesc)(k:Value):List MapEntry→Nat→Option (Option (Nat×Value))
 |[],_=>some none
 |e::es,i=>match O1 d k e.key with
  |some true=>some (some (i,e.val))
  |some false=>LR d k es (i+1)
  |none=>none
def FC(f:Nat→Value):Nat→Nat→List Value
 |0,_=>[]
 |m+1,k=>f k::FC f m (k+1)
section
variable (P:Program)
def De(t:TypeId):Option Nat:=(P.info? t).map (·.size)
def Hr(t:TypeId):Option Value:=cond (Nat.blt t P.types.size) ((P.info? t).bind (·.zero)) none
def agg?(t:TypeId):Option Bool:=(P.underlying t).map λd=>match d with| .struct _| .array _ _=>true|_=>false
def CS{α β:Type}(o:Option α)(f:α→Option β):Option β:=match o with|some a=>f a|none=>none
def LS(t:TypeId)(a:Addr)(W:CW):Option Value :=
 match W.obj a.block with
 | some (.cells c n z _)=>
  match agg? P t with
  |some true=>match De P t with
   |some m=>cond (Nat.ble (a.off+m) n) (some (.agg (BE c z m a.off).toArray)) none
   |none=>none
  |some false=>cond (Nat.blt a.off n) (some (cellAt c z a.off)) none
  |none=>none
 | some (.fixed f n _)=>
  match agg? P t with
  |some true=>match De P t with
   |some m=>cond (Nat.ble (a.off+m) n) (some (.agg (FC f m a.off).toArray)) none
   |none=>none
  |some false=>cond (Nat.blt a.off n) (some (f a.off)) none
  |none=>none
 |_=>none
def BG:Value→Bool
 | .agg _| .tuple _=>false
 |_=>true
def Kv(t:TypeId)(a:Addr)(v:Value)(W:CW):Option CW :=
 match W.obj a.block with
 | some (.cells c n z e)=>
  match v with
  | .agg cs=>match De P t with
   |some m=>cond (Nat.beq cs.size m&&Nat.ble (a.off+m) n&&cs.toList.all BG) (some (W.A6 a.block (.cells (c.AS a.off cs.toList) n z e))) none
   |none=>none
  | .tuple _=>none
  |v=>match De P t with
   |some m=>cond (Nat.beq m 1&&Nat.blt a.off n) (some (W.A6 a.block (.cells (c.set a.off v) n z e))) none
   |none=>none
 |_=>none
def VU(t:TypeId)(v:Value)(W:CW):Value×CW :=
 (.pointer (some ⟨W.sz,0,none⟩),W.new (.cells (Tr.nil.AS 0 v.cells.toList) v.cells.size #[] t))
def Oo(op:BinOp)(k:IntKind)(a b:Int):Option Value :=
 match op with
 | .add=>some (.int k (k.wrap (a+b)))
 | .sub=>some (.int k (k.wrap (a-b)))
 | .mul=>some (.int k (k.wrap (a*b)))
 | .quo=>cond (b==0) none (some (.int k (k.wrap (a.tdiv b))))
 | .rem=>cond (b==0) none (some (.int k (a.tmod b)))
 | .eql=>some (.bool (a==b))
 | .neq=>some (.bool (a !=b))
 | .lss=>some (.bool (a<b))
 | .leq=>some (.bool (a≤b))
 | .gtr=>some (.bool (a>b))
 | .geq=>some (.bool (a≥b))
 | .and=>some (.int k (k.wrap ((BitVec.ofInt k.bits a&&&BitVec.ofInt k.bits b).toNat)))
 | .or=>some (.int k (k.wrap ((BitVec.ofInt k.bits a|||BitVec.ofInt k.bits b).toNat)))
 | .xor=>some (.int k (k.wrap ((BitVec.ofInt k.bits a^^^BitVec.ofInt k.bits b).toNat)))
 | .andNot=>some (.int k (k.wrap ((BitVec.ofInt k.bits a&&& ~~~(BitVec.ofInt k.bits b)).toNat)))
 |_=>none
def zE(d:TypeDesc)(x y:Value):Option Bool :=
 match d,x,y with
 | .bool,.bool a,.bool b=>some (a==b)
 | .pointer _,.pointer none,.pointer b=>some b.isNone
 | .pointer _,.pointer (some _),.pointer none=>some false
 | .interface _,.nilIface,.iface _ _=>some false
 | .interface _,.iface _ _,.nilIface=>some false
 | .slice _,.slice none _ _,.slice b _ _=>some b.isNone
 | .slice _,.slice (some _) _ _,.slice none _ _=>some false
 | .map _ _,.map none,.map b=>some b.isNone
 | .map _ _,.map (some _),.map none=>some false
 | .func _ _ _,.nilFunc,.nilFunc=>some true
 | .func _ _ _,.nilFunc,.func _ _ _=>some false
 | .func _ _ _,.func _ _ _,.nilFunc=>some false
 |_,_,_=>none
def UM(t:TypeId)(cs:Array Value)(off:Nat):Option Value :=
 match agg? P t,De P t with
 |some true,some m=>some (.agg (cs.extract off (off+m)))
 |some false,_=>cs[off]?
 |_,_=>none
def fD(eq:TypeId→Value→Value→Option Bool)(xs ys:Array Value):List Field→Option Bool
 |[]=>some true
 | f::fs=>cond (f.name == "_") (fD eq xs ys fs) (match UM P f.type xs f.offset,UM P f.type ys f.offset with
  |some u,some v=>match eq f.type u v with
   |some true=>fD eq xs ys fs
   |some false=>some false
   |none=>none
  |_,_=>none)
def nY(eq:Value→Value→Option Bool)(elem:TypeId)(n:Nat)(xs ys:Array Value):Nat→Nat→Option Bool
 |0,_=>some true
 | m+1,i=>match UM P elem xs (i*n),UM P elem ys (i*n)with
  |some u,some v=>match eq u v with
   |some true=>nY eq elem n xs ys m (i+1)
   |some false=>some false
   |none=>none
  |_,_=>none
def fE:Nat→TypeId→Value→Value→Option Bool
 |0,_,_,_=>none
 | n+1,t,x,y=>match P.underlying t with
  |none=>none
  | some d=>match d,x,y with
   | .struct fs,.agg xs,.agg ys=>cond (P.stoodInHeld t) none (fD P (fE n) xs ys fs.toList)
   | .array len elem,.agg xs,.agg ys=>match De P elem with
    |some s=>nY P (fE n elem) elem s xs ys len 0
    |none=>none
   | .int _,.int k a,.int k' b=>cond (decide (k=k')) (some (a==b)) none
   | .string,.string a,.string b=>some (Y2 (sb a) (sb b))
   |d,x,y=>zE d x y
def isConst:Operand→Bool
 | .const _=>true
 |_=>false
def CF(op:BinOp)(t:TypeId)(k:Bool)(x y:Value):Option Value :=
 match op,x,y with
 | .shl,.int k a,.int _ b=>cond (decide (b<0)) none (some (.int k (k.wrap (a*2^(min b.toNat k.bits)))))
 | .shr,.int k a,.int _ b=>cond (decide (b<0)) none (some (.int k (a.fdiv (2^(min b.toNat k.bits)))))
 |op,.int k a,.int k' b=>cond (decide (k=k')) (Oo op k a b) none
 |op,.string a,.string b=>ABs op a b
 | .eql,.agg xs,.agg ys=>cond (P.eqGuardType P.depth t) none ((fE P 20 t (.agg xs) (.agg ys)).map .bool)
 | .neq,.agg xs,.agg ys=>cond (P.eqGuardType P.depth t) none ((fE P 20 t (.agg xs) (.agg ys)).map λb=>.bool (!b))
 | .eql,.nilIface,.nilIface=>match P.underlying t with|some (.interface _)=>cond k (some (.bool true)) none|_=>none
 | .neq,.nilIface,.nilIface=>match P.underlying t with|some (.interface _)=>cond k (some (.bool false)) none|_=>none
 | .eql,x,y=>match P.underlying t with|some d=>(zE d x y).map .bool|none=>none
 | .neq,x,y=>match P.underlying t with|some d=>(zE d x y).map λb=>.bool (!b)|none=>none
 |_,_,_=>none
def bound(x:Option Value)(AIR y:Nat):Option Nat :=
 match x with
 |some (.int _ i)=>cond (decide (0≤i)&&decide (i≤y)) (some i.toNat) none
 |some _=>none
 |none=>some AIR
def ME(W:CW)(a:Option Addr)(elem:TypeId):Bool :=
 match a with
 |none=>true
 |some a=>a.spot.isSome||match W.obj a.block with
  |some (.cells _ _ _ e)=>Nat.beq e elem
  |some (.fixed _ _ e)=>Nat.beq e elem
  |_=>false
def NX(W:CW)(t:TypeId)(x:Value)(lo hi mx:Option Value):Option Value :=
 match P.underlying t,x with
 | some (.slice elem),.slice a len cap=>CS (bound mx cap cap) λm=>CS (bound hi len m) λh=>CS (bound lo 0 h) λl=>
   cond (mx.isSome&&hi.isNone|| !Nat.ble h m|| !(mx.isSome||ME W a elem)) none (CS (De P elem) λs=>
   some (.slice (cond (Nat.beq m l) a (a.map λa=>⟨a.block,a.off+l*s,none⟩)) (h-l) (m-l)))
 | some (.array n elem),.pointer (some a)=>CS (bound mx n n) λm=>CS (bound hi n m) λh=>CS (bound lo 0 h) λl=>
   cond (mx.isSome&&hi.isNone|| !Nat.ble h m) none (CS (De P elem) λs=>
   some (.slice (some (cond (Nat.beq m l) a ⟨a.block,a.off+l*s,none⟩)) (h-l) (m-l)))
 |_,_=>none
def Jh:TypeDesc→Bool
 | .int _| .string| .bool=>true
 |_=>false
def KI(v k:Value):Nat→List MapEntry→List MapEntry
 |_,[]=>[]
 |0,e::es=>{e with key:=k,val:=v}::es
 |i+1,e::es=>e::KI v k i es
def MF:Nat→List MapEntry→List MapEntry
 |_,[]=>[]
 |0,_::es=>es
 |i+1,e::es=>e::MF i es
def PT:Value→Value→Bool
 | .int j a,.int k b=>decide (j=k)&&decide (a=b)
 | .string a,.string b=>Y2 (sb a) (sb b)
 | .bool a,.bool b=>a==b
 |_,_=>false
def QW:List Value→List Value→Bool
 |[],[]=>true
 |x::xs,y::ys=>PT x y&&QW xs ys
 |_,_=>false
def bg:Value→Value→Bool
 | .agg xs,.agg ys=>QW xs.toList ys.toList
 |_,_=>false
def nZ(t:TypeId)(k:Value):Bool :=
 match P.underlying t,k with
 | some (.struct fs),.agg cs=>!(P.stoodInHeld t) && fs.toList.all fun f=>!(f.name == "_") && (match P.underlying f.type with | some d=>Jh d | none=>false) && (UM P f.type cs f.offset).isSome
 |_,_=>false
def fF(t:TypeId)(k:Value):List MapEntry→Nat→Option (Option (Nat×Value))
 |[],_=>some none
 |e::es,i=>match fE P 20 t k e.key with
  |some true=>cond (bg k e.key) (some (some (i,e.val))) none
  |some false=>fF t k es (i+1)
  |none=>none
def O2(t:TypeId)(k:Value)(es:List MapEntry):Option (Option (Nat×Value)) :=
 match P.underlying t with
 |some d=>cond (Jh d) (LR d k es 0) (cond (nZ P t k) (fF P t k es 0) none)
 |none=>none
def FD(b:Option Addr)(m:Nat)(W:CW):Option (List Value) :=
 match b with
 |none=>some []
 |some b=>cond (Nat.beq m 0) (some [])<|match W.obj b.block with
  |some (.cells c k z _)=>cond (Nat.ble (b.off+m) k) (some (BE c z m b.off)) none
  |some (.fixed f k _)=>cond (Nat.ble (b.off+m) k) (some (FC f m b.off)) none
  |_=>none
def j6(x:Value):Option Nat :=
 match x with
 | .slice _ n _=>some n
 | .string s=>some s.size
 |_=>none
def Ia(x:Value)(n size:Nat)(W:CW):Option (List Value) :=
 match x with
 | .slice xb _ _=>FD xb (n*size) W
 | .string s=>cond (Nat.beq size 1) (some (C_ ((sb s).take n))) none
 |_=>none
def HN (t:TypeId) (s x:Value) (W:CW):Option (Value×CW) :=
 match P.underlying t,s,j6 x with
 | some (.slice elem),.slice base sLen sCap,some n=>
  CS (De P elem) λsize=>CS (Hr P elem) λz=>CS (Ia x n size W) λnews=>
  cond (news.all BG&&Nat.beq news.length (n*size)&&Nat.blt 0 size&&Nat.beq z.cells.size size&&Nat.ble (sLen+n) 1000000&&Nat.ble ((P.info? elem).map (·.bytes)|>.getD 2000) 1024)
   (cond (Nat.ble (sLen+n) sCap)
    (cond (Nat.beq n 0) (some (.slice base (sLen+n) sCap,W)) (match base with
     |none=>some (.slice none (sLen+n) sCap,W)
     |some a=>match W.obj a.block with
      | some (.cells c m z e)=>cond (Nat.ble (a.off+sLen*size+n*size) m)
        (some (.slice (some a) (sLen+n) sCap,W.A6 a.block (.cells (c.AS (a.off+sLen*size) news) m z e))) none
      |_=>none))
    (match base with
     |none=>cond (Nat.beq sLen 0) (some (.slice (some ⟨W.sz,0,none⟩) (sLen+n) (sLen+n),W.new (.cells (Tr.nil.AS 0 news) ((sLen+n)*size) #[] elem))) none
     |some a=>cond a.spot.isSome (cond (Nat.beq sLen 0&&Nat.beq sCap 0) (some (.slice (some ⟨W.sz,0,none⟩) (sLen+n) (sLen+n),W.new (.cells (Tr.nil.AS 0 news) ((sLen+n)*size) #[] elem))) none) (match W.obj a.block with
      | some (.cells c m z e)=>cond (Nat.ble (a.off+sLen*size) m&&Nat.beq e elem)
        (some (.slice (some ⟨W.sz,0,none⟩) (sLen+n) (sLen+n),(W.A6 a.block .dead).new (.cells (Tr.nil.AS 0 (BE c z (sLen*size) a.off++news)) ((sLen+n)*size) #[] elem))) none
      |_=>none)))
   none
 |_,_,_=>none
def fG(t:TypeId)(d s:Value)(W:CW):Option (Value×CW) :=
 match P.underlying t,d,j6 s with
 | some (.slice elem),.slice base fH _,some sLen=>
  CS (De P elem) λsize=>CS (Ia s (Nat.min sLen fH) size W) λnews=>
  cond (Nat.beq (Nat.min sLen fH) 0) (some (.int .i64 (Nat.min sLen fH),W)) (match base with
  |none=>none
  |some a=>match W.obj a.block with
   |some (.cells c m z e)=>cond (news.all BG&&Nat.ble (a.off+news.length) m) (some (.int .i64 (Nat.min sLen fH),W.A6 a.block (.cells (c.AS a.off news) m z e))) none
   |_=>none)
 |_,_,_=>none
def WQ(t:TypeId)(x:Value)(W:CW):Option CW :=
 match P.underlying t,x with
 |some (.map _ _),.map (some r)=>match W.obj r with
  |some (.map _ Ez)=>some (W.A6 r (.map [] Ez))
  |_=>none
 |some (.map _ _),.map none=>some W
 |some (.slice elem),.slice (some a) n _=>CS (De P elem) λsize=>CS (Hr P elem) λz0=>
  cond (Nat.beq n 0) (some W) (match W.obj a.block with
  | some (.cells c m z e)=>cond (Nat.ble (a.off+n*z0.cells.size) m&&z0.cells.toList.all BG)
    (some (W.A6 a.block (.cells (c.AS a.off (BE .nil z0.cells (n*z0.cells.size) 0)) m z e))) none
  |_=>none)
 |some (.slice _),.slice none _ _=>some W
 |_,_=>none
def Kw(t:TypeId)(x:Value)(W:CW):Option Value :=
 match P.underlying t,x with
 |some .string,.string s=>some (.int .i64 s.size)
 |some (.slice _),.slice _ n _=>some (.int .i64 n)
 |some (.map _ _),.map none=>some (.int .i64 0)
 |some (.map _ _),.map (some r)=>match W.obj r with
  |some (.map es _)=>some (.int .i64 es.length)
  |_=>none
 |_,_=>none
def QY(t:TypeId)(m k:Value)(W:CW):Option CW :=
 match P.underlying t,m with
 | some (.map kt _),.map (some r)=>match W.obj r with
  |some (.map es Ez)=>CS (O2 P kt k es) λf=>match f with
   |some (i,_)=>some (W.A6 r (.map (MF i es) Ez))
   |none=>some (W.A6 r (.map es Ez))
  |_=>none
 |_,_=>none
def JH(t:TypeId):Bool :=
 match P.underlying t with
 |some (.int _)=>false
 |some _=>true
 |none=>false
def ABt(t:TypeId)(x:Value)(W:CW):Option Value :=
 match P.underlying t,x with
 |some (.slice _),.slice none _ c=>some (.int .i64 c)
 |some (.slice _),.slice (some a) _ c=>match W.obj a.block with
  |some (.cells _ _ z _)=>cond (Nat.beq z.size 0||Nat.beq c 0) none (some (.int .i64 c))
  |_=>none
 |_,_=>none
def Jp(b:Builtin)(ts:List TypeId)(args:List Value)(W:CW):Option (BQ×CW) :=
 match b,ts,args with
 | .len,t::_,[x]=>(Kw P t x W).map λv=>(.value v,W)
 | .cap,t::_,[x]=>(ABt P t x W).map λv=>(.value v,W)
 | .append,t::u::_,[s,x]=>cond (JH P u) ((HN P t s x W).map λ(v,W)=>(.value v,W)) none
 | .copy,t::_,[d,s]=>(fG P t d s W).map λ(v,W)=>(.value v,W)
 | .clear,t::_,[x]=>(WQ P t x W).map λW=>(.value (.tuple #[]),W)
 | .delete,t::_,[m,k]=>(QY P t m k W).map λW=>(.value (.tuple #[]),W)
 | .max,_,[.int k a,.int _ b]=>some (.value (.int k (cond (decide (b>a)) b a)),W)
 | .min,_,[.int k a,.int _ b]=>some (.value (.int k (cond (decide (b<a)) b a)),W)
 | .recover,_,[]=>some (.recover,W)
 |_,_,_=>none
def zF(elem:TypeId)(s:ByteArray)(W:CW):Option (Value×CW) :=
 match P.underlying elem,De P elem with
 |some (.int .u8),some 1=>some (.slice (some ⟨W.sz,0,none⟩) s.size s.size,W.new (.cells (Tr.nil.AS 0 (C_ (sb s))) s.size #[] elem))
 |_,_=>none
def j7(elem:TypeId)(x:Value)(W:CW):Option Value :=
 match P.underlying elem,x with
 |some (.int .u8),.slice b n _=>CS (FD b n W) λl=>CS (GO l) λm=>some (.string ⟨m.toArray⟩)
 |_,_=>none
def JI(d:Value)(args:List Value):Option BQ :=
 match d with
 | .func (.func f) first cap=>some (.enter f (first.toList++args++cap.toList))
 | .func (.yield l) first _=>some (.round l (first.toList++args))
 |_=>none
def KJ(f:FuncId)(args:List Value)(W:CW):Option (Value×CW) :=
 match P.funcs[f]? with
 | some fn=>cond fn.body.isNone (cond (fn.name == "maps.clone") (match args with
  |[.iface t (.map (some r))]=>match W.obj r with
   |some (.map es Ez)=>some (.iface t (.map (some W.sz)),W.new (.map es Ez))
   |_=>none
  |_=>none) none) none
 |none=>none
def UN(es:List MapEntry)(since:Nat)(seen:List Nat):List (Option MapEntry) :=
 let left:=es.filter λe=>!seen.contains e.born
 let old:=left.filter λe=>e.born<since
 let new:=left.filter λe=>!(e.born<since)
 (cond old.isEmpty [none] [])++(old++new).map some
def BF (o:Oper)(e:Operand→Value)(W:CW):Option (List (BQ×CW)) :=
 let v (x:Option Value):Option (List (BQ×CW)):=match x with|some v=>some [(.value v,W)]|none=>none
 let vw (x:Option (Value×CW)):Option (List (BQ×CW)):=match x with|some (v,W)=>some [(.value v,W)]|none=>none
 let sw (x:Option CW):Option (List (BQ×CW)):=match x with|some W=>some [(.skip,W)]|none=>none
 match o.op with
 | .move x| .assign x=>some [(.value (e x),W)]
 | .pick c a b=>match e c with| .bool b0=>some [(.value (cond b0 (e a) (e b)),W)]|_=>none
 | .alloc t=>match Hr P t with
  |some z=>match De P t with
   |some _=>some [(.value (.pointer (some ⟨W.sz,0,none⟩)),W.new (.cells .nil z.cells.size z.cells t))]
   |none=>none
  |none=>none
 | .box t x=>match De P t with
  |some _=>some [(.value (VU t (e x) W).1,(VU t (e x) W).2)]
  |none=>none
 | .build t parts=>v (match Hr P t,P.underlying t with
  |some z,some (.struct fields)=>match fields.toList.mapM λf=>(De P f.type).map λs=>(f.offset,s)with
   |some PU=>(Instr.fill (PU[·]?) z.cells (parts.toList.map λ(i,x)=>(i,e x))).map .agg
   |none=>none
  |some z,some (.array _ elem)=>match De P elem with
   |some s=>(Instr.fill (λi=>some (i*s,s)) z.cells (parts.toList.map λ(i,x)=>(i,e x))).map .agg
   |none=>none
  |_,_=>none)
 | .buildSlice t len parts=>vw (match P.underlying t with
  | some (.slice elem)=>CS (De P elem) λs=>CS (Hr P elem) λz=>
   cond (Nat.ble (len*s) 65536&&Nat.beq z.cells.size s) (match Instr.fill (λi=>some (i*s,s)) ((BE .nil z.cells (len*s) 0).toArray) (parts.toList.map λ(i,x)=>(i,e x))with
    |some cs=>some (.slice (some ⟨W.sz,0,none⟩) len len,W.new (.cells (Tr.nil.AS 0 cs.toList) cs.size #[] elem))
    |none=>none) none
  |_=>none)
 | .load t a=>v (match e a with| .pointer (some a)=>LS P t a W|_=>none)
 | .store t a x=>sw (match e a with| .pointer (some a)=>Kv P t a (e x) W|_=>none)
 | .nilCheck x=>v (match e x with
  | .pointer (some a)=>some (.pointer (some a))
  | .iface t v=>some (.iface t v)
  | .func (.func f) a b=>some (.func (.func f) a b)
  | .func (.yield f) a b=>some (.func (.yield f) a b)
  |_=>none)
 | .binOp op t x y _=>v (CF P op t (isConst x||isConst y) (e x) (e y))
 | .unOp .not _ x=>v (match e x with| .bool b=>some (.bool (!b))|_=>none)
 | .unOp .neg _ x=>v (match e x with| .int k n=>some (.int k (k.wrap (0-n)))|_=>none)
 | .convert src dst x=>match P.underlying src,P.underlying dst,e x with
  |some _,some (.int k),.int _ n=>some [(.value (.int k (k.wrap n)),W)]
  |some _,some .string,.string s=>some [(.value (.string s),W)]
  |some .string,some (.slice el),.string s=>vw (zF P el s W)
  |some (.slice el),some .string,x=>v (j7 P el x W)
  |_,_,_=>none
 | .makeInterface t x=>v (match P.underlying t with|some (.interface _)|none=>none|_=>some (.iface t (e x)))
 | .makeFunc fn first cap=>v (some (.func fn (first.map e) (cap.map e)))
 | .makeMap _ none=>some [(.value (.map (some W.sz)),W.new (.map [] 0))]
 | .makeSlice t l c=>vw (match P.underlying t,e l,e c with
  | some (.slice elem),.int _ l,.int _ c=>CS (De P elem) λs=>CS (Hr P elem) λz=>
   cond (decide (0≤l)&&decide (l≤c)&&decide (c≤2000000)&&Nat.ble ((P.info? elem).map (·.bytes)|>.getD 0) 1024&&Nat.beq z.cells.size s&&Nat.blt 0 s)
    (some (.slice (some ⟨W.sz,0,none⟩) l.toNat c.toNat,W.new (.cells .nil (c.toNat*s) z.cells elem))) none
  |_,_,_=>none)
 | .slice t x lo hi mx=>v (match P.underlying t,e x with
  |some .string,.string s=>CS (bound (hi.map e) s.size s.size) λh=>CS (bound (lo.map e) 0 h) λl=>cond mx.isSome none (some (.string (s.extract l h)))
  |_,x=>NX P W t x (lo.map e) (hi.map e) (mx.map e))
 | .fieldAddr s x f=>v (match P.underlying s,e x with
  | some (.struct fs),.pointer (some a)=>match fs[f]? with
   |some fd=>match De P fd.type with
    |some m=>cond (Nat.beq m 0) none (some (.pointer (some ⟨a.block,a.off+fd.offset,none⟩)))
    |none=>none
   |none=>none
  |_,_=>none)
 | .field t x f=>v (match P.underlying t,e x with
  | some (.struct fs),.agg cs=>match fs[f]? with
   |some fd=>match agg? P fd.type,De P fd.type with
    |some true,some m=>some (.agg (cs.extract fd.offset (fd.offset+m)))
    |some false,_=>cs[fd.offset]?
    |_,_=>none
   |none=>none
  |_,_=>none)
 | .indexAddr t x ix=>v (match e ix with
  | .int _ i=>match P.underlying t,e x with
   |some (.array len elem),.pointer (some a)=>CS (De P elem) λs=>cond (decide (0≤i)&&decide (i<len)) (some (.pointer (some ⟨a.block,a.off+i.toNat*s,none⟩))) none
   |some (.slice elem),.slice (some a) len _=>CS (De P elem) λs=>cond (decide (0≤i)&&decide (i<len)) (some (.pointer (some ⟨a.block,a.off+i.toNat*s,none⟩))) none
   |_,_=>none
  |_=>none)
 | .index t x ix=>v (match e ix with
  | .int _ i=>match P.underlying t,e x with
   |some (.array len elem),.agg cs=>cond (decide (0≤i)&&decide (i<len)) (match agg? P elem,De P elem with
    |some true,some m=>some (.agg (cs.extract (i.toNat*m) (i.toNat*m+m)))
    |some false,some m=>cs[i.toNat*m]?
    |_,_=>none) none
   |some .string,.string s=>cond (decide (0≤i)) ((s[i.toNat]?).map λb=>.int .u8 b.toNat) none
   |_,_=>none
  |_=>none)
 | .lookup t x k ok=>v (match P.underlying t,e x with
  | some (.map kt elem),m=>CS (Hr P elem) λz=>CS (match m with
    | .map none=>some []
    | .map (some r)=>match W.obj r with|some (.map es _)=>some es|_=>none
    |_=>none) λes=>CS (O2 P kt (e k) es) λr=>match r with
     |some (_,x)=>some (cond ok (.tuple #[x,.bool true]) x)
     |none=>some (cond ok (.tuple #[z,.bool false]) z)
  |_,_=>none)
 | .mapUpdate t m k x| .insert t m k x=>sw (match P.underlying t,e m with
  | some (.map kt _),.map (some r)=>match W.obj r with
   |some (.map es Ez)=>CS (O2 P kt (e k) es) λf=>match f with
    |some (i,_)=>some (W.A6 r (.map (KI (e x) (e k) i es) Ez))
    |none=>some (W.A6 r (.map (es++[{key:=e k,val:=e x,born:=Ez}]) (Ez+1)))
   |_=>none
  |_,_=>none)
 | .range t x=>vw (match P.underlying t,e x with
  |some (.map _ _),.map none=>some (.pointer (some ⟨W.sz,0,none⟩),W.new (.iter none 0 [] 0))
  |some (.map _ _),.map (some r)=>match W.obj r with
   |some (.map _ Ez)=>some (.pointer (some ⟨W.sz,0,none⟩),W.new (.iter (some r) Ez [] Ez))
   |_=>none
  |_,_=>none)
 | .next it false=>match e it with
  | .pointer (some a)=>cond (!Nat.beq a.off 0) none<|match W.obj a.block with
   |some (.iter none _ _ _)=>some [(.value (.tuple #[.bool false]),W)]
   | some (.iter (some r) since seen last)=>match W.obj r with
    | some (.map es Ez)=>
     cond (!seen.isEmpty&& !es.isEmpty&&es.all λe=>!(e.born<last)) none
      (some ((UN es since seen).map λc=>match c with
       |some en=>(.value (.tuple #[.bool true,en.key,en.val]),W.A6 a.block (.iter (some r) since (seen++[en.born]) Ez))
       |none=>(.value (.tuple #[.bool false]),W)))
    |_=>none
   |_=>none
  |_=>none
 | .entry it=>v (match e it with
  | .pointer (some a)=>cond (!Nat.beq a.off 0) none<|match W.obj a.block with
   |some (.iter (some r) _ seen VV)=>match seen.getLast?,W.obj r with
    |some st,some (.map es Ez)=>cond (Nat.beq Ez VV) ((es.find? λe=>Nat.beq e.born st).map λe=>.tuple #[e.key,e.val]) none
    |_,_=>none
   |_=>none
  |_=>none)
 | .typeAssert x _ t ok=>v (match P.underlying t,e x with
  |some (.interface _),_=>none
  |some _,.iface u y=>cond (Nat.beq t u) (some (cond ok (.tuple #[y,.bool true]) y)) (cond ok ((Hr P t).map λz=>.tuple #[z,.bool false]) none)
  |_,_=>none)
 | .extract x i=>v (match e x with| .tuple vs=>vs[i]? |_=>none)
 | .call c=>match c.callee with
  | .value f=>match JI (e f) (c.args.toList.map e)with
   |some (.enter g asz)=>match KJ P g asz W with
    |some (v,W1)=>some [(.value v,W1)]
    |none=>some [(.enter g asz,W)]
   |some n=>some [(n,W)]
   |none=>none
  | .builtin b=>match Jp P b c.argTypes.toList (c.args.toList.map e) W with|some r=>some [r]|none=>none
  |_=>none
 | .defer c=>match c.callee with
  | .value f=>match e f with
   | .func (.func g) first cap=>some [(.defer {target:=.fn (.func g) cap,args:=first++c.args.map e},W)]
   |_=>none
  |_=>none
 | .panic x=>match e x with| .iface t y=>some [(.panic (.iface t y),W)]|_=>none
 |_=>none
end
abbrev PV:=Option (List (Exit×AI×CW))
abbrev Ends:=Option (List (Ending×CW))
abbrev AE9:=Option (List (Ending×FrameMode×CW))
structure C5 where
 code:Option Nat→FuncId→Code→AI→CW→PV
 call:FuncId→List Value→CW→Ends
 round:Nat→List Value→CW→Ends
 HO:FuncId→List Value→FrameMode→CW→AE9
 eqv:Value→Value→Bool
def C5.base(eqv:Value→Value→Bool):C5:=⟨λ_ _ _ _ _=>Option.none,λ_ _ _=>Option.none,λ_ _ _=>Option.none,λ_ _ _ _=>Option.none,eqv⟩
def QZ{α β:Type}(f:α→Option (List β)):List α→Option (List β)
 |[]=>some []
 | x::xs=>match f x with
  |Option.none=>Option.none
  |some l=>match QZ f xs with
   |Option.none=>Option.none
   |some m=>some (l++m)
def Dq{α β:Type}(o:Option (List α))(f:α→Option (List β)):Option (List β) :=
 match o with
 |Option.none=>Option.none
 |some l=>QZ f l
def Ky(ops:Array Oper)(a:AI)(j:Nat):Option Bool :=
 match ops[j]? with
 | some o=>match o.dst with
  |some d=>match a.t.get d with
   |some (.bool b)=>some b
   |_=>none
  |none=>none
 |none=>none
def DF(ops:Array Oper)(o:Oper)(a:AI):Bool :=
 match o.guard with
 |none=>true
 |some (j,want)=>match Ky ops a j with
  |some b=>b==want
  |none=>false
section
variable (P:Program)
def ec(ops:Array Oper)(i:Nat):List Nat :=
 match ops[i]? with
 |some o=>(o.after.toList.filter (Region.binds .any)).map (·.on)
 |none=>[]
def bj(l:List Nat):List Nat→List Nat
 |[]=>l
 |x::xs=>bj (cond (l.any (Nat.beq x)) l (l++[x])) xs
def zG(ops:Array Oper):Nat→List Nat→List Nat
 |0,l=>l
 |f+1,l=>let m:=bj l (l.flatMap (ec ops));cond (Nat.beq m.length l.length) l (zG ops f m)
def Gh(ops:Array Oper)(i:Nat):List Nat:=zG ops ops.size (ec ops i)
def anc(ops:Array Oper)(i j:Nat):Bool:=(Gh ops i).any (Nat.beq j)
def C1(o:Oper):Bool :=
 match o.op with
 | .move _| .assign _| .pick .. | .build .. | .nilCheck _| .binOp .. | .unOp .. | .makeInterface .. | .makeFunc .. | .field .. | .fieldAddr .. | .indexAddr .. | .index .. | .typeAssert .. | .extract ..=>true
 | .convert s d _=>(match P.underlying s with|some (.slice _)=>false|_=>true)&&(match P.underlying d with|some (.slice _)=>false|_=>true)
 |_=>false
def DU(o:Oper):Bool :=
 match o.op with
 | .load .. | .slice .. | .lookup .. | .entry _=>true
 | .call c=>match c.callee with
  | .builtin .len=>true
  |_=>false
 | .convert s d _=>(match P.underlying s with|some (.slice _)=>true|_=>false)&&(match P.underlying d with|some .string=>true|_=>false)
 |_=>false
def j8(o:Oper):Bool:=match o.op with| .load ..=>true|_=>false
def VB(o:Oper):Bool:=match o.op with| .buildSlice ..=>true|_=>false
def VW(ops:Array Oper):Nat→Operand→Bool
 |n+1,.tmp t=>match ops.toList.find? (λo=>match o.dst with|some d=>Nat.beq d t|none=>false)with
  |some o=>(C1 P o||j8 o)&&o.guard.isNone&&o.op.operands.toList.all (VW ops n)
  |none=>true
 |0,.tmp _=>false
 |_,_=>true
def floatKind(ops:Array Oper)(o:Oper):Bool :=
 match o.op,o.guard with
 | .alloc _,none=>true
 | .makeMap _ none,none=>true
 | .makeSlice _ l c,none=>VW P ops 6 l&&VW P ops 6 c
 | .buildSlice _ _ ps,none=>ps.toList.all λp=>VW P ops 6 p.2
 |_,_=>false
def Sv(o:Oper):Bool:=!(C1 P o||DU P o)
def G9(ops:Array Oper):List Nat :=
 let n:=ops.size
 let ws:=(List.range n).filter λi=>match ops[i]? with|some o=>Sv P o|none=>false
 ws.filter λi=>match ops[i]? with
  |some o=>floatKind P ops o&&ws.any λj=>!Nat.beq i j&& !anc ops i j&& !anc ops j i
  |none=>false
def CB(l:List Nat)(i:Nat):Bool:=l.any (Nat.beq i)
def Ix(ops:Array Oper):Bool :=
 let n:=ops.size
 let fl:=G9 P ops
 (List.range n).all λi=>match ops[i]? with
  | some oi=>
   let an:=Gh ops i
   (ec ops i).all (λp=>Nat.blt p i)&&(List.range i).all λj=>CB an j||(match ops[j]? with
    |some oj=>oj.apart ops oi&& !(Sv P oi&&Sv P oj&& !CB fl i&& !CB fl j)
    |none=>true)
  |none=>true
def bo:Nat→Value→Value→Bool
 |0,_,_=>false
 |n+1,v,w=>match v,w with
  | .bool a,.bool b=>a==b
  | .int j a,.int k b=>decide (j=k)&&a==b
  | .pointer none,.pointer none=>true
  | .pointer (some ⟨a,i,none⟩),.pointer (some ⟨b,j,none⟩)=>Nat.beq a b&&Nat.beq i j
  | .slice none n c,.slice none m d=>Nat.beq n m&&Nat.beq c d
  | .slice (some ⟨a,i,none⟩) n c,.slice (some ⟨b,j,none⟩) m d=>Nat.beq a b&&Nat.beq i j&&Nat.beq n m&&Nat.beq c d
  | .map none,.map none=>true
  | .map (some a),.map (some b)=>Nat.beq a b
  | .nilIface,.nilIface=>true
  | .nilFunc,.nilFunc=>true
  | .string a,.string b=>Y2 (sb a) (sb b)
  | .iface t v,.iface u w=>Nat.beq t u&&bo n v w
  | .agg x,.agg y=>Nat.beq x.size y.size&&(x.toList.zip y.toList).all λ(v,w)=>bo n v w
  | .tuple x,.tuple y=>Nat.beq x.size y.size&&(x.toList.zip y.toList).all λ(v,w)=>bo n v w
  | .func (.func f) x x',.func (.func g) y y'=>Nat.beq f g&&Nat.beq x.size y.size&&Nat.beq x'.size y'.size&&(x.toList.zip y.toList).all (λ(v,w)=>bo n v w)&&(x'.toList.zip y'.toList).all λ(v,w)=>bo n v w
  |_,_=>false
def G0:Option Am→Option Am→Bool
 |some (.map [] 0),some (.map [] 0)=>true
 |some (.cells .nil n z e),some (.cells .nil m y f)=>Nat.beq n m&&Nat.beq e f&&Nat.beq z.size y.size&&(z.toList.zip y.toList).all λ(v,w)=>bo 6 v w
 |_,_=>false
def ABu(xs ys:List Value):Bool:=Nat.beq xs.length ys.length&&(xs.zip ys).all λ(v,w)=>bo 8 v w
def ABv:Option Value→Option Value→Bool
 |none,none=>true
 |some v,some w=>bo 8 v w
 |_,_=>false
def teq:Nat→Tr Value→Tr Value→Bool
 |_,.nil,.nil=>true
 |n+1,.node l v r,.node l' v' r'=>ABv v v'&&teq n l l'&&teq n r r'
 |_,_,_=>false
def meq(a b:MapEntry):Bool:=bo 8 a.key b.key&&bo 8 a.val b.val&&Nat.beq a.born b.born
def ABw:Am→Am→Bool
 | .cells c n z e,.cells c' n' z' e'=>Nat.beq n n'&&Nat.beq e e'&&ABu z.toList z'.toList&&teq 30 c c'
 | .map es k,.map CO k'=>Nat.beq k k'&&Nat.beq es.length CO.length&&(es.zip CO).all λ(a,b)=>meq a b
 | .deferred,.deferred=>true
 |_,_=>false
def ABL:Option Am→Option Am→Option Am
 |some o,some o'=>cond (ABw o o') (some o) none
 |_,_=>none
def UO:Nat→Tr Am→Tr Am→Tr Am
 |n+1,.node l v r,.node l' v' r'=>.node (UO n l l') (ABL v v') (UO n r r')
 |_,_,_=>.nil
def meet(W W':CW):CW:=⟨UO 30 W.h W'.h,max W.sz W'.sz⟩
def Jq:List (Ending×CW)→Option (Value×CW)
 |[(.returned v,W)]=>some (v,W)
 |(.returned v,W)::rest=>match Jq rest with
  |some (u,W')=>cond (bo 8 v u) (some (v,meet W W')) none
  |none=>none
 |_=>none
def merged(o:Ends):Ends :=
 match o with
 |some (x::y::l)=>match Jq (x::y::l)with
  |some (v,W)=>some [(.returned v,W)]
  |none=>some (x::y::l)
 |o=>o
def Fp(R:C5)(ops:Array Oper):List Oper→AI→CW→PV
 |[],a,W=>some [(.normal,a,W)]
 |o::rest,a,W=>
  match DF ops o a with
  | true=>Dq (BF P o a.eval W) λ(n,W)=>match n with
    | .value v=>Fp R ops rest (a.put o.dst v) W
    | .skip=>Fp R ops rest (a.put o.dst undef) W
    | .defer d=>Fp R ops rest ({a with defers:=d::a.defers}.put o.dst undef) W
    | .enter f args=>Dq (R.call f args W) λ(e,W)=>match e with
     | .returned v=>Fp R ops rest (a.put o.dst v) W
     | .panicked ch=>some [(.panic ch,a,W)]
     | .outgrown=>none
    | .round l args=>Dq (R.round l args W) λ(e,W)=>match e with
     | .returned v=>Fp R ops rest (a.put o.dst v) W
     | .panicked ch=>some [(.panic ch,a,W)]
     | .outgrown=>none
    | .recover=>none
    | .panic v=>some [(.panic [{v,recovered:=false}],a,W)]
  |false=>Fp R ops rest (a.put o.dst undef) W
def F4:Nat→Value→Bool
 |0,_=>false
 |n+1,v=>match v with
  | .bool _| .int _ _| .float _ _| .complex _ _ _| .string _| .pointer none| .slice none _ _| .map none| .chan none| .nilFunc| .nilIface=>true
  | .agg x=>x.toList.all (F4 n)
  | .tuple x=>x.toList.all (F4 n)
  | .iface _ v=>F4 n v
  |_=>false
def Ak:Operand→Bool
 | .tmp _=>true
 | .const v=>F4 8 v
 | .global _=>false
 | .func _=>true
def VC(o:Oper):Bool :=
 match o.op with
 | .move x| .assign x| .nilCheck x| .unOp _ _ x| .convert _ _ x| .makeInterface _ x| .field _ x _| .fieldAddr _ x _| .range _ x| .next x false| .entry x| .typeAssert x _ _ _| .extract x _| .panic x| .box _ x=>Ak x
 | .load _ x=>Ak x||(match x with| .global _=>true|_=>false)
 | .pick c a b=>Ak c&&Ak a&&Ak b
 | .alloc _| .makeMap _ none=>true
 | .build _ ps| .buildSlice _ _ ps=>ps.toList.all λp=>Ak p.2
 | .store _ a x=>Ak a&&Ak x
 | .binOp _ _ x y _| .makeSlice _ x y| .indexAddr _ x y| .index _ x y| .lookup _ x y _=>Ak x&&Ak y
 | .makeFunc (.func _) f c=>f.toList.all Ak&&c.toList.all Ak
 | .slice _ x l h m=>Ak x&&l.all Ak&&h.all Ak&&m.all Ak
 | .mapUpdate _ m k x| .insert _ m k x=>Ak m&&Ak k&&Ak x
 | .call c=>c.args.toList.all Ak&&(match c.callee with| .value f=>Ak f| .builtin _=>true|_=>false)
 | .defer c=>c.args.toList.all Ak&&(match c.callee with| .value f=>Ak f|_=>false)
 |_=>false
def fI(nt:Nat)(o:Oper):Bool:=match o.dst with|some d=>Nat.blt d nt|none=>true
def Qy(o:Oper):Bool:=match o.op with| .defer _=>false|_=>true
def Qz(o:Oper):Bool:=match o.guard with
 |none=>true
 | some _=>match o.op with
  | .call c=>match c.callee with
   | .value (.func g)=>(P.funcs[g]?).isSome
   | .value _=>false
   |_=>true
  |_=>true
def LU(nt:Nat)(yl:Bool)(ops:List Oper):Bool:=ops.all λo=>(VC o&&Qz P o)&&fI nt o&&(!yl||Qy o)
def AE'(nt:Nat)(ps:Array Tmp):Bool:=ps.toList.all λp=>Nat.blt p nt
def codeOk(nt:Nat)(yl:Bool):Code→Bool
 | .skip| .label _| .exit _| .ret=>true
 | .region _ ops d=>LU P nt yl ops.toList&&(!d||Ix P ops)
 | .seq x y=>codeOk nt yl x&&codeOk nt yl y
 | .cond c x y=>Ak c&&(codeOk nt yl x&&codeOk nt yl y)
 | .block _ b=>codeOk nt yl b
 | .scope b=>codeOk nt yl b
 | .loop b=>codeOk nt yl b
 | .rangeFunc f ps asz bd=>Ak f&&AE' nt ps&&codeOk nt true asz&&codeOk nt true bd
 |_=>false
structure FE where
 a:AI
 W:CW
 ws:List (Nat×CW)
 rd:List (Nat×Oper×AI×Value)
def early(ops:Array Oper)(a:AI)(W:CW):Nat→Operand→Value
 |n+1,.tmp t=>match ops.toList.find? (λo=>match o.dst with|some d=>Nat.beq d t|none=>false)with
  |some o=>cond (C1 P o||j8 o) ((BF P o (early ops a W n) W).elim undef λl=>l.head?.elim undef λp=>match p.1 with| .value v=>v|_=>undef) undef
  |none=>a.eval (.tmp t)
 |_,x=>a.eval x
def WR(ops:Array Oper)(a:AI)(W:CW)(o:Oper):Operand→Value :=
 match o.op with
 | .makeSlice _ _ _=>early P ops a W 6
 | .buildSlice _ _ _=>early P ops a W 6
 |_=>a.eval
def tp(c:Tr Value)(n:Nat):Value:=.agg (BE c #[] n 0).toArray
def JQ(eqv:Value→Value→Bool):Option Am→Option Am→Bool
 |some (.cells c n z e),some (.cells d m y f)=>Nat.beq n m&&Nat.beq e f&&(Nat.beq z.size 0&&Nat.beq y.size 0)&&eqv (tp c n) (tp d m)
 |_,_=>false
def G1(eqv:Value→Value→Bool)(o:Oper)(a:AI)(v:Value)(ob:Option Am):Bool :=
 match o.op with
 | .buildSlice _ _ _=>match v with
  | .slice (some b) _ _=>(BF P o a.eval ⟨.nil,b.block⟩).any λl=>l.head?.any λp=>match p.1 with
   | .value u=>eqv u v&&JQ eqv (p.2.obj b.block) ob
   |_=>false
  |_=>false
 | .makeSlice _ _ _=>match v with
  | .slice (some b) _ _=>(BF P o a.eval ⟨.nil,b.block⟩).any λl=>l.head?.any λp=>match p.1 with
   | .value u=>bo 8 u v&&G0 (p.2.obj b.block) ob
   |_=>false
  |_=>false
 |_=>true
def Ib(ops:Array Oper)(a:AI):List Nat→CW→Option (List (Nat×Value×Option Am)×CW)
 |[],W=>some ([],W)
 | i::is,W=>match ops[i]? with
  | some o=>match BF P o (WR P ops a W o) W with
   |some [(.value v,W1)]=>match Ib ops a is W1 with
    |some (l,W2)=>some ((i,v,W1.obj W.sz)::l,W2)
    |none=>none
   |_=>none
  |none=>none
def EI(ops:Array Oper)(o:Oper)(a:AI):Option Bool :=
 match o.guard with
 |none=>some true
 |some (j,want)=>match Ky ops a j with
  |some b=>some (b==want)
  |none=>some false
def BX(R:C5)(ops:Array Oper)(fl:List (Nat×Value×Option Am))(i:Nat)(o:Oper)(s:FE):Option FE :=
 match fl.find? λp=>Nat.beq p.1 i with
 |some (_,v,ob)=>cond (G1 P R.eqv o s.a v ob) (some {s with a:=s.a.put o.dst v}) none
 | none=>match EI ops o s.a with
  |none=>none
  |some false=>some {s with a:=s.a.put o.dst undef}
  | some true=>
   cond (C1 P o) (match BF P o s.a.eval s.W with
    |some [(.value v,_)]=>some {s with a:=s.a.put o.dst v}
    |_=>none)
   (cond (DU P o) (match BF P o s.a.eval s.W with
    |some [(.value v,_)]=>some {s with a:=s.a.put o.dst v,rd:=(i,o,s.a,v)::s.rd}
    |_=>none)
   (match BF P o s.a.eval s.W with
   |some [(.value v,W1)]=>some {s with a:=s.a.put o.dst v,W:=W1,ws:=(i,s.W)::s.ws}
   |some [(.skip,W1)]=>some {s with a:=s.a.put o.dst undef,W:=W1,ws:=(i,s.W)::s.ws}
   |some [(.enter f args,W1)]=>match merged (R.call f args W1)with
    |some [(.returned v,W2)]=>some {s with a:=s.a.put o.dst v,W:=W2,ws:=(i,s.W)::s.ws}
    |_=>none
   |some [(.round l args,W1)]=>match merged (R.round l args W1)with
    |some [(.returned v,W2)]=>some {s with a:=s.a.put o.dst v,W:=W2,ws:=(i,s.W)::s.ws}
    |_=>none
   |_=>none))
def EJ(R:C5)(ops:Array Oper)(fl:List (Nat×Value×Option Am)):Nat→List Oper→FE→Option FE
 |_,[],s=>some s
 |i,o::rest,s=>match BX P R ops fl i o s with
  |some s=>EJ R ops fl (i+1) rest s
  |none=>none
def C6(F:Nat→Oper→FE→Option FE):Nat→List Oper→FE→Option FE
 |_,[],s=>some s
 |i,o::rest,s=>match F i o s with
  |some s=>C6 F (i+1) rest s
  |none=>none
def Ek(R:C5)(ops:Array Oper)(fl:List (Nat×Value×Option Am))(i:Nat)(o:Oper)(s:FE):Option (List PanicEntry×CW) :=
 match fl.find? λp=>Nat.beq p.1 i with
 |some _=>none
 | none=>match EI ops o s.a with
  | some true=>cond (C1 P o) none (cond (DU P o) none (match BF P o s.a.eval s.W with
   |some [(.enter f args,W1)]=>match R.call f args W1 with
    |some [(.panicked ch,W2)]=>some (ch,W2)
    |_=>none
   |some [(.round l args,W1)]=>match R.round l args W1 with
    |some [(.panicked ch,W2)]=>some (ch,W2)
    |_=>none
   |_=>none))
  |_=>none
def EK(R:C5)(ops:Array Oper)(fl:List (Nat×Value×Option Am)):Nat→List Oper→FE→Option (Nat×List PanicEntry×CW)
 |_,[],_=>none
 | i,o::rest,s=>match Ek P R ops fl i o s with
  |some (ch,W)=>some (i,ch,W)
  |none=>match BX P R ops fl i o s with
   |some s=>EK R ops fl (i+1) rest s
   |none=>none
def NH(ops:Array Oper)(i0 i:Nat):Bool:=Nat.beq i i0||(Nat.blt i0 i&&CB (Gh ops i) i0)
theorem na{ops:Array Oper}{i0 i:Nat}(h:i<i0):NH ops i0 i=false:=by
 unfold NH
 have h1:Nat.beq i i0=false:=by
  cases hq:Nat.beq i i0 with
  |false=>rfl
  |true=>have:=aab hq;omega
 have h2:Nat.blt i0 i=false:=by
  cases hq:Nat.blt i0 i with
  |false=>rfl
  |true=>have:=aam hq;omega
 rw[h1,h2];rfl
def Hy(R:C5)(ops:Array Oper)(fl:List (Nat×Value×Option Am))(i0:Nat)(i:Nat)(o:Oper)(s:FE):Option FE :=
 cond (NH ops i0 i) (some {s with a:=s.a.put o.dst undef}) (BX P R ops fl i o s)
def AI.bad(a:AI):AI:={a with t:=Tr.nil.set 0 (.complex .f64 0 0)}
def AI.My(a:AI):Bool:=match a.t.get 0 with
 |some (.complex .f64 _ _)=>true
 |_=>false
def DJ(ops:Array Oper)(i:Nat)(an:List Nat)(ok:CW→Bool):List (Nat×CW)→CW→Bool
 |[],W=>ok W
 |(j,Wj)::before,W=>
  (anc ops j i||ok W)&&cond (CB an j) true (DJ ops i an ok before Wj)
def LV(eqv:Value→Value→Bool)(ops:Array Oper)(i:Nat)(v:Value)(ob:Option Am)(W:CW):Bool :=
 cond ((ops[i]?).any VB) (match v with| .slice (some b) _ _=>JQ eqv (W.obj b.block) ob|_=>false)
  (match v with| .pointer (some b)=>G0 (W.obj b.block) ob| .map (some b)=>G0 (W.obj b) ob| .slice (some b) _ _=>G0 (W.obj b.block) ob|_=>false)
def Iy(R:C5)(ops:Array Oper)(a:AI)(W:CW):PV :=
 match Ib P ops a (G9 P ops) W with
 |none=>none
 | some (fl,W1)=>match EJ P R ops fl 0 ops.toList ⟨a,W1,[],[]⟩with
  | none=>match EK P R ops fl 0 ops.toList ⟨a,W1,[],[]⟩with
   |none=>none
   | some (i0,ch,W2)=>match C6 (Hy P R ops fl i0) 0 ops.toList ⟨a,W1,[],[]⟩with
    |none=>none
    | some s=>cond (fl.isEmpty&&s.ws.all λx=>CB (Gh ops i0) x.1)
     (cond (s.rd.all λ(i,o,a,v)=>DJ ops i (Gh ops i) (λW=>match BF P o a.eval W with|some [(.value u,_)]=>R.eqv u v|_=>false) s.ws s.W)
      (some [(.panic ch,a.bad,W2)]) none) none
  | some s=>
   cond (s.rd.all λ(i,o,a,v)=>DJ ops i (Gh ops i) (λW=>match BF P o a.eval W with|some [(.value u,_)]=>R.eqv u v|_=>false) s.ws s.W)
    (cond (fl.all λ(i,v,ob)=>DJ ops i (Gh ops i) (LV R.eqv ops i v ob) s.ws s.W)
     (some [(.normal,s.a,s.W)]) none) none
def Q0(o:PV)(f:AI→CW→PV):PV :=
 Dq o λ(e,a,W)=>match e with
  | .normal=>f a W
  |e=>some [(e,a,W)]
def IS(a:AI)(W:CW):ResultVar→Option Value
 | .tmp t=>some (match a.t.get t with|some v=>v|none=>undef)
 | .cell s ty=>match a.t.get s with
  |some (.pointer (some p))=>LS P ty p W
  |_=>none
def F5(fn:Func)(a:AI)(W:CW):Option Value :=
 match fn.results.toList.mapM (IS P a W)with
 |some [v]=>some v
 |some vs=>some (.tuple vs.toArray)
 |none=>none
def leaves(R:C5)(fn:Func)(a:AI):List Deferred→FrameMode→CW→Ends
 |[],.returning,W=>match F5 P fn a W with
  |some v=>some [(.returned v,W)]
  |none=>none
 |[],.panicking ch,W=>some [(.panicked ch,W)]
 |[],.run,_=>none
 | d::ds,u,W=>match d.target with
  | .collected r=>match W.obj r with
   |some .deferred=>leaves R fn a ds u (W.A6 r .dead)
   |_=>none
  | .fn (.func f) cap=>Dq (R.HO f (d.args.toList++cap.toList) u W) λ(e,u,W)=>match e with
   | .returned _=>leaves R fn a ds (settle u) W
   |_=>none
  |_=>none
def G2:List Deferred→List PanicEntry→CW→Ends
 |[],ch,W=>some [(.panicked ch,W)]
 | d::ds,ch,W=>match d.target with
  | .collected r=>match W.obj r with
   |some .deferred=>G2 ds ch (W.A6 r .dead)
   |_=>none
  |_=>none
def WS(ro:Option Nat)(W:CW):Option (Nat×List Deferred×CW) :=
 match ro with
 |some l=>match W.obj l with
  |some (.loop _ _ _ _ _ _ _ _ d)=>some (d,[],W)
  |_=>none
 |none=>some (W.sz,[{target:=.collected W.sz,args:=#[]}],W.new .deferred)
def Bs (R:C5)(ro:Option Nat)(fn:FuncId)(c:Code)(a:AI)(W:CW):PV :=
 match c with
 | .skip=>some [(.normal,a,W)]
 | .label _=>some [(.normal,a,W)]
 | .exit id=>some [(.exit id,a,W)]
 | .ret=>some [(.ret,a,W)]
 | .region _ ops false=>Fp P R ops ops.toList a W
 | .region _ ops true=>Iy P R ops a W
 | .seq x y=>Q0 (R.code ro fn x a W) (R.code ro fn y)
 | .cond c x y=>match a.eval c with
  | .bool b=>R.code ro fn (cond b x y) a W
  |_=>none
 | .block id b=>Dq (R.code ro fn b a W) λ(e,a,W)=>match e with
  | .exit UP=>cond (Nat.beq UP id) (some [(.normal,a,W)]) (some [(.exit UP,a,W)])
  |e=>some [(e,a,W)]
 | .scope b=>R.code ro fn b a W
 | .loop b=>Q0 (R.code ro fn b a W) (R.code ro fn (.loop b))
 | .rangeFunc f ps assign body=>
  match WS ro W with
  |none=>none
  | some (dl,mark,W1)=>
   match JI (a.eval f) [.func (.yield W1.sz) #[] #[]]with
   | some (.enter g args)=>Dq (R.call g args (W1.new (.loop .ready none fn a.t a.nt ps assign body dl))) λ(e,W3)=>match e with
    | .returned _=>match W3.obj W1.sz with
     | some (.loop st Dr lf lt ln lp la lb ld)=>
      match st with
      | .busy=>none
      |_=>match Dr with
       |none=>some [(.normal,{a with defers:=mark++a.defers},W3.A6 W1.sz (.loop .exhausted Dr lf lt ln lp la lb ld))]
       |some .ret=>some [(.ret,{a with defers:=mark++a.defers},W3.A6 W1.sz (.loop .exhausted Dr lf lt ln lp la lb ld))]
       |some (.exit id)=>some [(.exit id,{a with defers:=mark++a.defers},W3.A6 W1.sz (.loop .exhausted Dr lf lt ln lp la lb ld))]
       |_=>none
     |_=>none
    | .panicked ch=>some [(.panic ch,{a with defers:=mark++a.defers},W3)]
    |_=>none
   |_=>none
 |_=>none
def CU(R:C5)(ops:Array Oper):List Oper→AI→FrameMode→CW→Option (List (Exit×AI×FrameMode×CW))
 |[],a,u,W=>some [(.normal,a,u,W)]
 |o::rest,a,u,W=>
  match DF ops o a with
  | true=>Dq (BF P o a.eval W) λ(n,W)=>match n with
    | .value v=>CU R ops rest (a.put o.dst v) u W
    | .skip=>CU R ops rest (a.put o.dst undef) u W
    | .recover=>match u with
     | .panicking ({v,recovered:=false,goexit:=false}::Zl)=>CU R ops rest (a.put o.dst v) (.panicking ({v,recovered:=true}::Zl)) W
     |_=>CU R ops rest (a.put o.dst .nilIface) u W
    | .panic v=>some [(.panic [{v,recovered:=false}],a,u,W)]
    |_=>none
  |false=>CU R ops rest (a.put o.dst undef) u W
def VD(R:C5)(fn:FuncId):Code→AI→FrameMode→CW→Option (List (Exit×AI×FrameMode×CW))
 | .region _ ops false,a,u,W=>CU P R ops ops.toList a u W
 | .seq x y,a,u,W=>Dq (VD R fn x a u W) λ(e,a,u,W)=>match e with
  | .normal=>VD R fn y a u W
  |e=>some [(e,a,u,W)]
 | .cond c x y,a,u,W=>match a.eval c with
  | .bool true=>VD R fn x a u W
  | .bool false=>VD R fn y a u W
  |_=>none
 |c,a,u,W=>Dq (R.code none fn c a W) λ(e,a,W)=>some [(e,a,u,W)]
def WT(l:Nat)(j:Option Code)(W:CW):Ends :=
 match W.obj l with
 |some (.loop _ _ f t nt ps assign body ld)=>some [(.returned (.bool j.isNone),W.A6 l (.loop (match j with|none=>.ready|some _=>.done) j f t nt ps assign body ld))]
 |_=>none
def IC(fn:Func)(args:List Value):AI:=⟨Tr.nil.AS 0 args,fn.ntmps,[]⟩
def CV (L:List FuncId)(R:C5):C5 where
 eqv:=R.eqv
 code:=Bs P R
 call f args W:=cond (!CB L f) none<|(λr=>cond (CB L (f+2000000)&&args.isEmpty) (some [(.returned (.bool true),W)]) r)<|(λr=>cond (CB L (f+1000000)) (merged r) r)<|
  match P.funcs[f]? with
  | some fn=>match fn.body with
   |some c=>cond (Nat.ble args.length fn.ntmps) (Dq (R.code none f c (IC fn args) W) λ(e,a,W)=>
    match e with
    | .normal=>leaves P R fn a a.defers .returning W
    | .ret=>leaves P R fn a a.defers .returning W
    | .panic ch=>cond a.My (G2 a.defers ch W) (leaves P R fn a a.defers (.panicking ch) W)
    |_=>none) none
   |_=>none
  |_=>none
 HO f args u W:=cond (!CB L f) none<|
  match P.funcs[f]? with
  | some fn=>match fn.body with
   | some c=>cond (Nat.ble args.length fn.ntmps) (Dq (VD P R f c (IC fn args) u W) λ(e,a,u,W)=>
    cond a.defers.isEmpty (match e with
    | .normal=>match F5 P fn a W with
     |some v=>some [(.returned v,u,W)]
     |none=>none
    | .ret=>match F5 P fn a W with
     |some v=>some [(.returned v,u,W)]
     |none=>none
    |_=>none) none) none
   |_=>none
  |_=>none
 round l args W :=
  match W.obj l with
  | some (.loop .ready _ f t nt ps assign body _)=>
   cond (Nat.beq args.length ps.size) (Dq (R.code (some l) f assign ⟨(ps.toList.zip args).foldl (λt (p:Tmp×Value)=>t.set p.1 p.2) t,nt,[]⟩ W) λ(e,a,W)=>match e with
    | .normal=>match W.obj l with
     | some (.loop .ready Dr f t nt ps zH AE_ ld)=>
      Dq (R.code (some l) f body a (W.A6 l (.loop .busy Dr f t nt ps zH AE_ ld))) λ(e,a,W)=>match e with
       | .normal=>WT l none W
       | .ret=>WT l (some .ret) W
       | .exit id=>WT l (some (.exit id)) W
       | .panic ch=>cond a.defers.isEmpty (some [(.panicked ch,W)]) none
       |_=>none
     |_=>none
    |_=>none) none
  |_=>none
def evB(eqv:Value→Value→Bool)(L:List FuncId):Nat→C5:=λn=>Nat.rec (C5.base eqv) (λ_ ih=>CV P L ih) n
def Y8(L:List FuncId):Nat→C5:=evB P (bo 8) L
def evR(L:List FuncId):Nat→C5
 |0=>C5.base (bo 8)
 |n+1=>CV P L (evR L n)
def bb(L:List FuncId):Bool:=L.all λf=>match P.funcs[f]? with
 |some fn=>match fn.body with
  |some c=>codeOk P fn.ntmps false c
  |none=>true
 |none=>true
end
def W0(g:Nat):CW:=⟨.nil,g⟩
def bc:Ends→Bool
 |some l=>l.all λ(e,_)=>match e with| .returned (.bool true)=>true|_=>false
 |none=>false
@[noinline] def cnt(P:Program)(f:Nat)(L:List Nat:=List.range 300)(g:Nat:=0):String:=match(evR P L 6000).call f [] (W0 g)with
 | some l=>s!"outcomes {l.length}: "++String.join ((l.take 3).map fun (e,W)=>s!"blocks {W.sz} {match e with | .returned (.bool b) => toString b | .panicked _ => "pan" | _ => "?"}; ")
 | none=>"none"
end Go.Ce
namespace Go.Ce
open Go.RowKit (Below)
theorem Tr.get_nil{α:Type}(i:Nat):(Tr.nil:Tr α).get i=none:=rfl
theorem Tr.Gl{α:Type}(l:Tr α)(v:Option α)(r:Tr α)(i:Nat) :
  (Tr.node l v r).get i=if i=0 then v else if i%2=1 then l.get (i/2)else r.get (i/2-1):=by
 simp only[Tr.get,cond_eq_ite,abz]
theorem Tr.tq{α:Type}(f:Nat):∀(t:Tr α) (i:Nat) (x:α) (j:Nat),i<f→(Tr.fC f t i x).get j=if j=i then some x else t.get j:=by
 induction f with
 |zero=>intro t i x j h;omega
 | succ f ih=>
  intro t i x j h;have h1:i≠0→i/2<f:=by omega
  have h2:i≠0→i/2-1<f:=by omega
  cases t with
  | nil=>
   simp only[Tr.fC,cond_eq_ite,abz]
   by_cases hi:i=0
   ·subst hi;simp only[aaA,Tr.Gl,Tr.get_nil]
    by_cases hj:j=0
    ·simp[hj]
    ·simp[hj]
   ·rw [aac hi]
    by_cases hm:i%2=1
    ·rw[aad hm,Tr.Gl,ih _ _ _ _ (h1 hi)]
     by_cases hj:j=0
     ·simp[hj,Tr.get_nil];omega
     ·rw[aac hj]
      by_cases VE:j%2=1
      ·rw[aad VE]
       by_cases e:j=i
       ·simp[e]
       ·rw[aac (by omega),aac e];rfl
      ·rw[aac VE,aac (by omega)];rfl
    ·rw[aac hm,Tr.Gl,ih _ _ _ _ (h2 hi)]
     by_cases hj:j=0
     ·simp[hj,Tr.get_nil];omega
     ·rw[aac hj]
      by_cases VE:j%2=1
      ·rw[aad VE,aac (by omega)];rfl
      ·rw[aac VE]
       by_cases e:j=i
       ·simp[e]
       ·rw[aac (by omega),aac e];rfl
  | node l v r=>
   simp only[Tr.fC,cond_eq_ite,abz]
   by_cases hi:i=0
   ·subst hi;simp only[aaA,Tr.Gl]
    by_cases hj:j=0
    ·simp[hj]
    ·simp[hj]
   ·rw [aac hi]
    by_cases hm:i%2=1
    ·rw[aad hm,Tr.Gl,ih _ _ _ _ (h1 hi),Tr.Gl]
     by_cases hj:j=0
     ·simp[hj];omega
     ·rw[aac hj,aac hj]
      by_cases VE:j%2=1
      ·rw[aad VE,aad VE]
       by_cases e:j=i
       ·simp[e]
       ·rw[aac (by omega),aac e]
      ·rw[aac VE,aac VE,aac (by omega)]
    ·rw[aac hm,Tr.Gl,ih _ _ _ _ (h2 hi),Tr.Gl]
     by_cases hj:j=0
     ·simp[hj];omega
     ·rw[aac hj,aac hj]
      by_cases VE:j%2=1
      ·rw[aad VE,aad VE,aac (by omega)]
      ·rw[aac VE,aac VE]
       by_cases e:j=i
       ·simp[e]
       ·rw[aac (by omega),aac e]
theorem Tr.Bc{α:Type}(t:Tr α)(i:Nat)(x:α)(j:Nat):(t.set i x).get j=if j=i then some x else t.get j :=
 Tr.tq _ _ _ _ _ (by omega)
theorem Tr.KL{α:Type}(xs:List α):∀(t:Tr α) (k j:Nat),(t.AS k xs).get j=if k≤j∧j<k+xs.length then xs[j-k]? else t.get j:=by
 induction xs with
 |nil=>intro t k j;simp only[Tr.AS,aaP,aa6];rw[aac (by omega)]
 | cons x xs ih=>
  intro t k j;simp only[Tr.AS,ih,Tr.Bc,aap]
  by_cases h:k+1≤j∧j<k+1+xs.length
  ·rw[aad h,aad (by omega)];obtain⟨m,rfl⟩:∃m,j=k+(m+1):=⟨j-k-1,by omega⟩
   have e1:k+(m+1)-(k+1)=m:=by omega
   have e2:k+(m+1)-k=m+1:=by omega
   rw[e1,e2];rfl
  ·rw[aac h]
   by_cases e:j=k
   ·subst e;simp
   ·rw[aac e,aac (by omega)]
structure Info where
 b:Nat
 o:Nat
 sz:Nat
 n:Nat
 n':Nat
abbrev Bk:=Nat→Option Info
def Ext(ρ ρ':Bk):Prop:=∀i x,ρ i=some x→ρ' i=some x
theorem Ext.refl(ρ:Bk):Ext ρ ρ:=λ_ _ h=>h
theorem Ext.trans{ρ ρ' ρ'':Bk}(h:Ext ρ ρ')(k:Ext ρ' ρ''):Ext ρ ρ'':=λi x e=>k i x (h i x e)
def MG(ρ:Bk)(a a':Addr):Prop:=a.spot=none∧∃x,ρ a.block=some x∧a'=⟨x.b,a.off+x.o,none⟩
def NY(ρ:Bk)(r r':Nat):Prop:=∃x,ρ r=some x∧r'=x.b
def Sw(ρ:Bk)(a:Addr)(c c':Nat):Prop:=c'=c∨∃x,ρ a.block=some x∧0<x.sz∧a.off+c*x.sz=x.n∧a.off+x.o+c'*x.sz=x.n'∧c≤c'
inductive Q1(ρ:Bk):Fn→Fn→Prop
 |func (f:FuncId):Q1 ρ (.func f) (.func f)
 |yield {l l':Nat}:NY ρ l l'→Q1 ρ (.yield l) (.yield l')
 |method (s:String):Q1 ρ (.method s) (.method s)
 |methodOf (t:TypeId) (s:String):Q1 ρ (.methodOf t s) (.methodOf t s)
 |via (t:TypeId) (p:Array FieldStep) (f:FuncId) (b:Bool):Q1 ρ (.via t p f b) (.via t p f b)
inductive AK(ρ:Bk):Value→Value→Prop
 |bool (b:Bool):AK ρ (.bool b) (.bool b)
 |int (k:IntKind) (n:Int):AK ρ (.int k n) (.int k n)
 |float (k:FloatKind) (n:Nat):AK ρ (.float k n) (.float k n)
 |complex (k:FloatKind) (n m:Nat):AK ρ (.complex k n m) (.complex k n m)
 |string (s:ByteArray):AK ρ (.string s) (.string s)
 |ABx:AK ρ (.pointer none) (.pointer none)
 |ptr {a a':Addr}:MG ρ a a'→AK ρ (.pointer (some a)) (.pointer (some a'))
 |fJ (n c:Nat):AK ρ (.slice none n c) (.slice none n c)
 |slice {a a':Addr} (n:Nat) {c c':Nat}:MG ρ a a'→Sw ρ a c c'→AK ρ (.slice (some a) n c) (.slice (some a') n c')
 |JR {a a':Addr}:a.spot=some 0→AK ρ (.slice (some a) 0 0) (.slice (some a') 0 0)
 |K1 {a a':Addr} {c':Nat} {x:Info}:a.spot=none→ρ a.block=some x→a'.block=x.b→a'.spot=none→(c'=0∨(0<x.sz∧a'.off+c'*x.sz=x.n'))→AK ρ (.slice (some a) 0 0) (.slice (some a') 0 c')
 |ABy:AK ρ (.map none) (.map none)
 |map {r r':Nat}:NY ρ r r'→AK ρ (.map (some r)) (.map (some r'))
 |ABz:AK ρ (.chan none) (.chan none)
 | func {f f':Fn} {x x' y y':Array Value}:Q1 ρ f f'→x.size=x'.size→(∀i,i<x.size→AK ρ (x.getD i undef) (x'.getD i undef))→
   y.size=y'.size→(∀i,i<y.size→AK ρ (y.getD i undef) (y'.getD i undef))→AK ρ (.func f x y) (.func f' x' y')
 |nilFunc:AK ρ .nilFunc .nilFunc
 |iface (t:TypeId) {v v':Value}:AK ρ v v'→AK ρ (.iface t v) (.iface t v')
 |nilIface:AK ρ .nilIface .nilIface
 |agg {x x':Array Value}:x.size=x'.size→(∀i,i<x.size→AK ρ (x.getD i undef) (x'.getD i undef))→AK ρ (.agg x) (.agg x')
 |tuple {x x':Array Value}:x.size=x'.size→(∀i,i<x.size→AK ρ (x.getD i undef) (x'.getD i undef))→AK ρ (.tuple x) (.tuple x')
theorem MG.mono{ρ ρ':Bk}{a a':Addr}(h:MG ρ a a')(e:Ext ρ ρ'):MG ρ' a a' :=
 ⟨h.1,let ⟨x,hx,h'⟩:=h.2;⟨x,e _ _ hx,h'⟩⟩
theorem NY.mono{ρ ρ':Bk}{a a':Nat}(h:NY ρ a a')(e:Ext ρ ρ'):NY ρ' a a':=let ⟨x,hx,h'⟩:=h;⟨x,e _ _ hx,h'⟩
theorem Sw.mono{ρ ρ':Bk}{a:Addr}{c c':Nat}(h:Sw ρ a c c')(e:Ext ρ ρ'):Sw ρ' a c c' :=
 h.imp id λ⟨x,hx,h'⟩=>⟨x,e _ _ hx,h'⟩
theorem Q1.mono{ρ ρ':Bk}{f f':Fn}(h:Q1 ρ f f')(e:Ext ρ ρ'):Q1 ρ' f f':=by
 cases h with
 |yield h=>exact .yield (h.mono e)
 |func f=>exact .func f
 |method s=>exact .method s
 |methodOf t s=>exact .methodOf t s
 |via t p f b=>exact .via t p f b
theorem AK.mono{ρ ρ':Bk}{v v':Value}(h:AK ρ v v')(e:Ext ρ ρ'):AK ρ' v v':=by
 induction h with
 |bool b=>exact .bool b
 |int k n=>exact .int k n
 |float k n=>exact .float k n
 |complex k n m=>exact .complex k n m
 |string s=>exact .string s
 |ABx=>exact .ABx
 |ptr h=>exact .ptr (h.mono e)
 |fJ n c=>exact .fJ n c
 |slice n h h'=>exact .slice n (h.mono e) (h'.mono e)
 |JR a=>exact .JR a
 |K1 q a b c d=>exact .K1 q (e _ _ a) b c d
 |ABy=>exact .ABy
 |map h=>exact .map (h.mono e)
 |ABz=>exact .ABz
 |func hf hx _ hy _ Y9 Y'=>exact .func (hf.mono e) hx Y9 hy Y'
 |nilFunc=>exact .nilFunc
 |iface t _ ih=>exact .iface t ih
 |nilIface=>exact .nilIface
 |agg hx _ ih=>exact .agg hx ih
 |tuple hx _ ih=>exact .tuple hx ih
theorem AK.undef(ρ:Bk):AK ρ undef undef:=.tuple rfl λi h=>by simp at h
theorem AK.Q2(ρ:Bk):∀(n:Nat) (v:Value),F4 n v=true→AK ρ v v:=by
 intro n
 induction n with
 |zero=>intro v h;simp[F4]at h
 | succ n ih=>
  intro v h
  have all:∀x:Array Value,x.toList.all (F4 n)=true→∀i,i<x.size→AK ρ (x.getD i Go.undef) (x.getD i Go.undef):=by
   intro x hx i hi;rw[aax]at hx;have e:x.getD i Go.undef=x[i]:=by simp[Array.getD,hi]
   rw[e];exact ih _ (hx _ (by simp))
  cases v with
  |bool b=>exact .bool b
  |int k m=>exact .int k m
  |float k m=>exact .float k m
  |complex k m l=>exact .complex k m l
  |string s=>exact .string s
  |pointer a=>cases a with
   |none=>exact .ABx
   |some a=>simp[F4]at h
  |slice a l c=>cases a with
   |none=>exact .fJ l c
   |some a=>simp[F4]at h
  |map r=>cases r with
   |none=>exact .ABy
   |some a=>simp[F4]at h
  |chan r=>cases r with
   |none=>exact .ABz
   |some a=>simp[F4]at h
  |func f x y=>simp[F4]at h
  |nilFunc=>exact .nilFunc
  |iface t v=>exact .iface t (ih v (by simpa only[F4]using h))
  |nilIface=>exact .nilIface
  |agg x=>exact .agg rfl (all x (by simpa only[F4]using h))
  |tuple x=>exact .tuple rfl (all x (by simpa only[F4]using h))
theorem AK.one{ρ:Bk}{v v':Value}(h:AK ρ v v'):BG v'=BG v:=by cases h<;>rfl
def Ap(ρ:Bk)(xs ys:List Value):Prop:=xs.length=ys.length∧∀i,i<xs.length→AK ρ (xs.getD i undef) (ys.getD i undef)
theorem Ap.nil(ρ:Bk):Ap ρ [] []:=⟨rfl,λi h=>by simp at h⟩
theorem Ap.cons{ρ:Bk}{x y:Value}{xs ys:List Value}(h:AK ρ x y)(k:Ap ρ xs ys):Ap ρ (x::xs) (y::ys) :=
 ⟨by simp[k.1],λi hi=>by
  cases i with
  |zero=>exact h
  |succ i=>exact k.2 i (by simpa using hi)⟩
theorem Ap.head{ρ:Bk}{x y:Value}{xs ys:List Value}(h:Ap ρ (x::xs) (y::ys)):AK ρ x y:=h.2 0 (by simp)
theorem Ap.tail{ρ:Bk}{x y:Value}{xs ys:List Value}(h:Ap ρ (x::xs) (y::ys)):Ap ρ xs ys :=
 ⟨by simpa using h.1,λi hi=>h.2 (i+1) (by simpa using hi)⟩
theorem Ap.mono{ρ ρ':Bk}{xs ys:List Value}(h:Ap ρ xs ys)(e:Ext ρ ρ'):Ap ρ' xs ys:=⟨h.1,λi hi=>(h.2 i hi).mono e⟩
theorem Ap.append{ρ:Bk}{xs ys QU VX:List Value}(h:Ap ρ xs ys)(k:Ap ρ QU VX):Ap ρ (xs++QU) (ys++VX):=by
 induction xs generalizing ys with
 |nil=>cases ys with
  |nil=>exact k
  |cons y ys=>simpa using h.1
 |cons x xs ih=>cases ys with
  |nil=>simpa using h.1
  |cons y ys=>exact .cons h.head (ih h.tail)
theorem Ap.map{ρ:Bk}{α:Type}(xs:List α)(f g:α→Value)(h:∀x,x∈xs→AK ρ (f x) (g x)):Ap ρ (xs.map f) (xs.map g):=by
 induction xs with
 |nil=>exact .nil ρ
 |cons x xs ih=>exact .cons (h x (by simp)) (ih λy hy=>h y (by simp[hy]))
theorem Ap.get{ρ:Bk}{xs ys:List Value}(h:Ap ρ xs ys){i:Nat}{x:Value}(hx:xs[i]?=some x):∃y,ys[i]?=some y∧AK ρ x y:=by
 obtain⟨hi,e⟩:=aaa.1 hx;have Jr:i<ys.length:=h.1▸hi;refine⟨ys[i],by simp[Jr],?_⟩;have:=h.2 i hi;simp only[aaj,hx,ck Jr,abc]at this;exact this
theorem Ap.arr{ρ:Bk}{x x':Array Value}:Ap ρ x.toList x'.toList↔(x.size=x'.size∧∀i,i<x.size→AK ρ (x.getD i undef) (x'.getD i undef)):=by
 unfold Ap;simp only[abF,aal,aaj,aba]
theorem AK.fK{ρ:Bk}{x x':Array Value}(h:Ap ρ x.toList x'.toList):AK ρ (.agg x) (.agg x'):=.agg (Ap.arr.1 h).1 (Ap.arr.1 h).2
theorem AK.tuple'{ρ:Bk}{x x':Array Value}(h:Ap ρ x.toList x'.toList):AK ρ (.tuple x) (.tuple x'):=.tuple (Ap.arr.1 h).1 (Ap.arr.1 h).2
theorem AK.GP{ρ:Bk}{x:Array Value}{v:Value}(h:AK ρ (.agg x) v):∃x',v=.agg x'∧Ap ρ x.toList x'.toList:=by
 cases h with|agg e k=>exact⟨_,rfl,Ap.arr.2 ⟨e,k⟩⟩
theorem AK.pn{ρ:Bk}{x:Array Value}{v:Value}(h:AK ρ (.tuple x) v):∃x',v=.tuple x'∧Ap ρ x.toList x'.toList:=by
 cases h with|tuple e k=>exact⟨_,rfl,Ap.arr.2 ⟨e,k⟩⟩
theorem AK.cells{ρ:Bk}{v v':Value}(h:AK ρ v v'):Ap ρ v.cells.toList v'.cells.toList:=by
 cases h<;>first
  |exact .cons (by first|(constructor<;>assumption)|(apply AK.K1<;>assumption)|(apply AK.JR<;>assumption)) (.nil ρ)
  |(rename_i e k;exact Ap.arr.2 ⟨e,k⟩)
inductive bp(ρ:Bk):MapEntry→MapEntry→Prop
 |mk {k v k' v':Value} (b:Nat):AK ρ k k'→AK ρ v v'→bp ρ ⟨k,v,b⟩ ⟨k',v',b⟩
def Bx(ρ:Bk):List MapEntry→List MapEntry→Prop
 |[],[]=>True
 |e::es,e'::CO=>bp ρ e e'∧Bx ρ es CO
 |_,_=>False
theorem bp.mono{ρ ρ':Bk}{e e':MapEntry}(h:bp ρ e e')(x:Ext ρ ρ'):bp ρ' e e':=by
 cases h with|mk b hk hv=>exact .mk b (hk.mono x) (hv.mono x)
theorem Bx.mono{ρ ρ':Bk}(x:Ext ρ ρ'):∀{es CO:List MapEntry},Bx ρ es CO→Bx ρ' es CO
 |[],[],_=>trivial
 |_::_,_::_,h=>⟨h.1.mono x,Bx.mono x h.2⟩
 |[],_::_,h=>h.elim
 |_::_,[],h=>h.elim
def NF(fr:Nat×Nat)(n:Nat):Prop:=∀k,k<n→(decide (fr.1≤k)&&decide (k<fr.2))=false
theorem NF.zero(n:Nat):NF (0,0) n:=λk _=>by simp
inductive Iz(P:Program)(ρ:Bk)(x:Info):Am→Obj→Prop
 | cells {c:Tr Value} {z:Array Value} {e:TypeId} {c':Array Value} {fr:Nat×Nat}:(P.info? e).map (·.size)=some x.sz→c'.size=x.n'→x.o+x.n≤x.n'→
   (∀k,k<x.n→AK ρ (cellAt c z k) (c'.getD (k+x.o) undef))→(NF fr c'.size∧(z.size≠0→x.o=0∧x.n=x.n'))→Iz P ρ x (.cells c x.n z e) (.cells c' e fr)
 | fixed {f:Nat→Value} {e e':TypeId} {c':Array Value} {fr:Nat×Nat}:(P.info? e).map (·.size)=some x.sz→c'.size=x.n'→x.o+x.n≤x.n'→
   (∀k,k<x.n→AK ρ (f k) (c'.getD (k+x.o) undef))→Iz P ρ x (.fixed f x.n e) (.cells c' e' fr)
 |map {es:List MapEntry} {CO:Array MapEntry} {Ez:Nat}:x.o=0→Bx ρ es CO.toList→Iz P ρ x (.map es Ez) (.map CO Ez)
 |Q5 {s l:Nat} {seen:List Nat} {AFA:Array Nat}:x.o=0→Iz P ρ x (.iter none s seen l) (.mapIter none s AFA l)
 |iter {m m' s l:Nat} {seen:List Nat}:x.o=0→NY ρ m m'→Iz P ρ x (.iter (some m) s seen l) (.mapIter (some m') s seen.toArray l)
 | loop {st:LoopState} {pd:Option Code} {f f':FuncId} {t:Tr Value} {t':Array Value} {ps:Array Tmp} {asz bd:Code} {d d':Nat} :
   (∀i,AK ρ ((t.get i).getD undef) (t'.getD i undef))→NY ρ d d'→(AE' t'.size ps=true∧codeOk P t'.size true asz=true∧codeOk P t'.size true bd=true)→(∃fn,P.funcs[f']?=some fn)→
   Iz P ρ x (.loop st pd f t t'.size ps asz bd d) (.loop {state:=st,pending:=pd,fn:=f',tmps:=t',params:=ps,assign:=asz,body:=bd,defers:=d'})
 |deferred:Iz P ρ x .deferred (.deferred (some []))
theorem Iz.mono{P:Program}{ρ ρ':Bk}{x:Info}{o:Am}{o':Obj}(h:Iz P ρ x o o')(e:Ext ρ ρ'):Iz P ρ' x o o':=by
 cases h with
 |cells a b c d q=>exact .cells a b c (λk hk=>(d k hk).mono e) q
 |fixed a b c d=>exact .fixed a b c λk hk=>(d k hk).mono e
 |map a b=>exact .map a (b.mono e)
 |Q5 a=>exact .Q5 a
 |iter a b=>exact .iter a (b.mono e)
 |loop a b c d=>exact .loop (λi=>(a i).mono e) (b.mono e) c d
 |deferred=>exact .deferred
structure AU(P:Program)(w0:World)(ρ:Bk)(W:CW)(w:World):Prop where
 VF:∀i x,ρ i=some x→i<W.sz
 top:∀i o,W.h.get i=some o→i<W.sz
 live:∀i o x,W.h.get i=some o→o≠.dead→ρ i=some x→∃o',w.heap[x.b]?=some o'∧Iz P ρ x o o'∧(o.mut=true→w0.heap.size≤x.b)∧(o.mut=false→x.b<w0.heap.size)
 inj:∀i j o u x y,W.h.get i=some o→o.mut=true→W.h.get j=some u→u.mut=true→ρ i=some x→ρ j=some y→x.b=y.b→i=j
 below:Below w0.heap.size w0 w
section
variable {P:Program}{w0:World}{ρ:Bk}{W:CW}{w:World}
theorem AU.drew(h:AU P w0 ρ W w)(n:Nat):AU P w0 ρ W {w with drawn:=n} :=
 ⟨h.VF,h.top,h.live,h.inj,⟨h.below.os,h.below.tape,h.below.output,h.below.size,h.below.block⟩⟩
theorem AU.obj(h:AU P w0 ρ W w){i:Nat}{o:Am}(ho:W.obj i=some o)(hd:o≠.dead){a':Nat}{x:Info}(hx:ρ i=some x)(hb:a'=x.b) :
  ∃o',w.heap[a']?=some o'∧Iz P ρ x o o':=by
 obtain⟨o',I0,hr,_⟩:=h.live i o x ho hd hx;subst hb;exact⟨o',I0,hr⟩
def Ef(W:CW)(ρ:Bk)(W1:CW)(ρ':Bk):Prop:=Ext ρ ρ'∧(∀i,i<W.sz→ρ' i=ρ i)∧W.sz≤W1.sz
theorem Ef.refl{W W1:CW}(ρ:Bk)(h:W.sz≤W1.sz:=by exact aaf _):Ef W ρ W1 ρ:=⟨Ext.refl ρ,λ_ _=>rfl,h⟩
theorem Ef.ext{W W1:CW}{ρ ρ':Bk}(h:Ef W ρ W1 ρ'):Ext ρ ρ':=h.1
theorem Ef.trans{W W1 W2:CW}{ρ ρ' ρ'':Bk}(h:Ef W ρ W1 ρ')(k:Ef W1 ρ' W2 ρ''):Ef W ρ W2 ρ'' :=
 ⟨h.1.trans k.1,λi hi=>by rw[k.2.1 i (abC hi h.2.2),h.2.1 i hi],abh h.2.2 k.2.2⟩
theorem Am.ID{o:Am}(h:o.mut=true):o≠.dead:=by rintro rfl;cases h
theorem AU.new(h:AU P w0 ρ W w){o:Am}{o':Obj}(x:Info)(hb:x.b=w.heap.size)
  (hr:Iz P (λi=>if i=W.sz then some x else ρ i) x o o') (hm:o.mut=true:=by rfl) :
  Ef W ρ (W.new o) (λi=>if i=W.sz then some x else ρ i)∧AU P w0 (λi=>if i=W.sz then some x else ρ i) (W.new o) {w with heap:=w.heap.push o'}:=by
 have C2:Ext ρ (λi=>if i=W.sz then some x else ρ i):=λi y hy=>by
  have:=h.VF i y hy;show(if i=W.sz then some x else ρ i)=some y;rw[aac (by omega)];exact hy
 have hw0:w0.heap.size≤w.heap.size:=h.below.size
 have hold:∀i u y,W.h.get i=some u→u≠.dead→ρ i=some y→y.b<w.heap.size:=λi u y hu hd hy=>by
  obtain⟨o',I0,_,_⟩:=h.live i u y hu hd hy;exact(aao.1 I0).1
 refine⟨⟨C2,λi hi=>by show(if i=W.sz then some x else ρ i)=ρ i;rw[aac (by omega)],Nat.le_succ _⟩,?_,?_,?_,?_,?_⟩
 ·intro i y hy;show i<W.sz+1
  by_cases e:i=W.sz
  ·omega
  ·have:ρ i=some y:=by simpa[e]using hy
   have:=h.VF i y this;omega
 ·intro i u hu;show i<W.sz+1;simp only[CW.new,Tr.Bc]at hu
  split at hu
  ·omega
  ·have:=h.top i u hu;omega
 ·intro i u y hu hd hy;simp only[CW.new,Tr.Bc]at hu
  split at hu
  ·rename_i e
   cases hu
   have hy:some x=some y:=by simpa[e]using hy
   cases hy
   refine⟨o',?_,hr,λ_=>by omega,λhf=>by rw[hm]at hf;cases hf⟩;show(w.heap.push o')[x.b]?=_;rw[hb];simp
  ·rename_i e;have hy:ρ i=some y:=by simpa[e]using hy
   obtain⟨u',UQ,hru,ji⟩:=h.live i u y hu hd hy;refine⟨u',?_,hru.mono C2,ji⟩;have Ao:=(aao.1 UQ).1;show(w.heap.push o')[y.b]?=_;rw[acC,aac (by omega)];exact UQ
 ·intro i j u v y z hu s6 hv NU hy hz tr;simp only[CW.new,Tr.Bc]at hu hv
  by_cases ei:i=W.sz
  ·by_cases ej:j=W.sz
   ·omega
   ·simp only[aac ej]at hv hz;simp only[aad ei,aag]at hy;have Ao:=hold j v z hv (Am.ID NU) hz;subst hy;omega
  ·simp only[aac ei]at hu hy
   by_cases ej:j=W.sz
   ·simp only[aad ej,aag]at hz;have Ao:=hold i u y hu (Am.ID s6) hy;subst hz;omega
   ·simp only[aac ej]at hv hz;exact h.inj i j u v y z hu s6 hv NU hy hz tr
 ·exact⟨h.below.os,h.below.tape,h.below.output,by show w0.heap.size≤(w.heap.push o').size;rw[Array.size_push];omega,λk hk=>by
   show(w.heap.push o')[k]?=_
   rw[acC,aac (by omega)];exact h.below.block k hk⟩
theorem AU.A6(h:AU P w0 ρ W w){i:Nat}{o u:Am}{u':Obj}{x:Info}(ho:W.obj i=some o)(hd:o.mut=true)(hx:ρ i=some x)
  (hr:Iz P ρ x u u') (hm:u.mut=true:=by rfl):AU P w0 ρ (W.A6 i u) {w with heap:=w.heap.setIfInBounds x.b u'}:=by
 obtain⟨o',I0,_,ji,_⟩:=h.live i o x ho (Am.ID hd) hx;have ji:=ji hd;have Ao:=(aao.1 I0).1;have hi:=h.top i o ho
 refine⟨h.VF,?_,?_,?_,?_⟩
 ·intro j v hv;simp only[CW.A6,Tr.Bc]at hv
  split at hv
  ·show j<W.sz;omega
  ·exact h.top j v hv
 ·intro j v y hv NU hy;simp only[CW.A6,Tr.Bc]at hv
  split at hv
  ·rename_i e
   cases hv;subst e
   rw[hx]at hy;cases hy;refine⟨u',?_,hr,λ_=>ji,λhf=>by rw[hm]at hf;cases hf⟩;show(w.heap.setIfInBounds x.b u')[x.b]?=_;simp[Ao]
  ·rename_i e;obtain⟨v',Iu,hrv,s7⟩:=h.live j v y hv NU hy;refine⟨v',?_,hrv,s7⟩
   have Dg:x.b≠y.b:=λhb=>by
    cases j_:v.mut with
    |true=>exact e (h.inj j i v o y x hv j_ ho hd hy hx hb.symm)
    |false=>have:=s7.2 j_;omega
   show(w.heap.setIfInBounds x.b u')[y.b]?=_;rw[aa3 Dg];exact Iu
 ·intro j k v v' y z hv NU Iu fL hy hz tr
  have get:∀j v,(W.A6 i u).h.get j=some v→v.mut=true→∃v0,W.h.get j=some v0∧v0.mut=true:=λj v hv NU=>by
   simp only[CW.A6,Tr.Bc]at hv
   split at hv
   ·rename_i e;subst e;exact⟨o,ho,hd⟩
   ·exact⟨v,hv,NU⟩
  obtain⟨a,ha,had⟩:=get j v hv NU;obtain⟨b,hb,Zm⟩:=get k v' Iu fL;exact h.inj j k a b y z ha had hb Zm hy hz tr
 ·exact⟨h.below.os,h.below.tape,h.below.output,by show w0.heap.size≤(w.heap.setIfInBounds x.b u').size;rw[abA];exact h.below.size,λk hk=>by
   show(w.heap.setIfInBounds x.b u')[k]?=_
   rw[aa3 (by omega)];exact h.below.block k hk⟩
end
section
variable {P:Program}{w:World}{b:Nat}{c:Array Value}{e:TypeId}{fr:Nat×Nat}
theorem cell_of(hb:w.heap[b]?=some (.cells c e fr))(off:Nat):w.cell? ⟨b,off,none⟩=c[off]?:=by
 simp[World.cell?,hb]
theorem pq(hb:w.heap[b]?=some (.cells c e fr))(hf:NF fr c.size)(off:Nat)(h:off<c.size):w.frozen? ⟨b,off,none⟩=false:=by
 simp only[World.frozen?,hb];exact hf off h
theorem kB(hb:w.heap[b]?=some (.cells c e fr))(off:Nat)(v:Value) :
  w.setCell ⟨b,off,none⟩ v={w with heap:=w.heap.setIfInBounds b (.cells (c.setIfInBounds off v) e fr)}:=by
 have Ao:=(aao.1 hb).1;have hv:=(aao.1 hb).2;simp only[World.setCell,World.mk.injEq,and_self,and_true];apply Array.ext_getElem?;intro i;rw[Array.getElem?_modify,aaT]
 by_cases h:b=i
 ·subst h;simp[Ao,hv]
 ·rw[aac h,aac h]
theorem NZ(b off i:Nat):(⟨b,off,none⟩:Addr).add i=⟨b,off+i,none⟩:=by
 unfold Addr.add
 split
 ·rename_i h;simp[h]
 ·rfl
def DZ(c:Array Value):Nat→Nat→List Value
 |0,_=>[]
 |m+1,k=>c.getD k undef::DZ c m (k+1)
theorem I1(c:Array Value):∀m k,(DZ c m k).length=m
 |0,_=>rfl
 |m+1,k=>by simp[DZ,I1 c m]
theorem run_loadCellsFrom(hb:w.heap[b]?=some (.cells c e fr))(off:Nat):∀(n i:Nat) (acc:Array Value),off+i+n≤c.size→
  (loadCellsFrom ⟨b,off,none⟩ i n acc).run P w=.ok (acc++(DZ c n (off+i)).toArray) w:=by
 intro n
 induction n with
 |zero=>intro i acc _;simp[loadCellsFrom,DZ]
 | succ n ih=>
  intro i acc h
  have hc:c[off+i]?=some (c.getD (off+i) undef):=by
   have:off+i<c.size:=by omega
   simp[Array.getD,this]
  simp only[loadCellsFrom,aae,run_load,NZ,cell_of hb,hc,zC];rw[ih (i+1) _ (by omega)];simp only[DZ];congr 1;apply acE;simp[Nat.add_assoc]
theorem run_loadCells(hb:w.heap[b]?=some (.cells c e fr))(off n:Nat)(h:off+n≤c.size) :
  (loadCells ⟨b,off,none⟩ n).run P w=.ok (DZ c n off).toArray w:=by
 have:=run_loadCellsFrom (P:=P) hb off n 0 #[] (by omega)
 simpa[loadCells]using this
def G3(c:Array Value):Nat→List Value→Array Value
 |_,[]=>c
 |k,v::vs=>G3 (c.setIfInBounds k v) (k+1) vs
theorem HQ:∀(vs:List Value) (c:Array Value) (k:Nat),(G3 c k vs).size=c.size
 |[],_,_=>rfl
 |v::vs,c,k=>by simp[G3,HQ vs]
theorem UR:∀(vs:List Value) (c:Array Value) (k j:Nat),k+vs.length≤c.size→
  (G3 c k vs).getD j undef=if k≤j∧j<k+vs.length then vs.getD (j-k) undef else c.getD j undef:=by
 intro vs
 induction vs with
 |nil=>intro c k j _;simp only[G3,aaP,aa6];rw[aac (by omega)]
 | cons v vs ih=>
  intro c k j h;simp only[aap]at h;rw[G3,ih _ _ _ (by simp;omega)];simp only[aap]
  by_cases h1:k+1≤j∧j<k+1+vs.length
  ·rw[aad h1,aad (by omega)];obtain⟨m,rfl⟩:∃m,j=k+(m+1):=⟨j-k-1,by omega⟩
   have e1:k+(m+1)-(k+1)=m:=by omega
   have e2:k+(m+1)-k=m+1:=by omega
   rw[e1,e2];simp
  ·rw[aac h1]
   by_cases ej:j=k
   ·subst ej;have:j<c.size:=by omega
    simp[aal,this]
   ·rw[aac (by omega)];simp only[aal];rw[aa3 (by omega)]
theorem kC{v:Value}(h:BG v=true):v.oneCell'=true:=by cases v<;>simp_all [BG,Value.oneCell']
theorem F6(off:Nat):∀(vs:List Value) (i:Nat) (w:World) (c:Array Value),w.heap[b]?=some (.cells c e fr)→NF fr c.size→off+i+vs.length≤c.size→vs.all BG=true→
  (storeCells ⟨b,off,none⟩ vs i).run P w=.ok () {w with heap:=w.heap.setIfInBounds b (.cells (G3 c (off+i) vs) e fr)}:=by
 intro vs
 induction vs with
 | nil=>
  intro i w c hb _ _ _;have Ao:=(aao.1 hb).1;have hv:=(aao.1 hb).2;simp only[storeCells,aak,G3];congr 1
  have:w.heap.setIfInBounds b (.cells c e fr)=w.heap:=by
   apply Array.ext_getElem?;intro j;rw[aaT]
   by_cases h:b=j
   ·subst h;simp[Ao,hv]
   ·rw[aac h]
  rw[this]
 | cons v vs ih=>
  intro i w c hb kD h Bv;simp only[aap]at h;simp only[abp,dy]at Bv
  have hc:c[off+i]?=some (c.getD (off+i) undef):=by
   have:off+i<c.size:=by omega
   simp[Array.getD,this]
  have Ao:=(aao.1 hb).1;simp only[storeCells,aae,NZ];rw[run_store P w _ v _ (kC Bv.1)];simp only[cell_of hb,hc,pq hb kD (off+i) (by omega),aaM,abk,zC,kB hb];rw[ih (i+1) _ (c.setIfInBounds (off+i) v) (by simp[Ao]) (by simpa using kD) (by simp;omega) Bv.2];simp[G3,Nat.add_assoc]
theorem run_underlying (t:TypeId) (w:World):(underlying t).run P w=match P.underlying t with | some d=>.ok d w | none=>.halt (.stuck "no such type") w:=by
 simp only[underlying,aae,run_program,zC]
 cases P.underlying t<;>rfl
theorem AF{t:TypeId}{d:TypeDesc}(h:P.underlying t=some d)(w:World):(underlying t).run P w=.ok d w:=by rw[run_underlying,h]
theorem IT{t:TypeId}{i:TypeInfo}(h:P.info? t=some i)(w:World):(typeInfo t).run P w=.ok i w:=by
 simp only[typeInfo,aae,run_program,zC,h];rfl
theorem BH{t:TypeId}{n:Nat}(h:De P t=some n)(w:World):(sizeOf t).run P w=.ok n w:=by
 unfold De at h
 cases hi:P.info? t with
 |none=>simp[hi]at h
 |some i=>simp only[hi,abd,aag]at h;simp[sizeOf,IT hi,h]
theorem Bi{t:TypeId}{z:Value}(h:Hr P t=some z)(w:World):(zeroValue t).run P w=.ok z w:=by
 unfold Hr at h
 cases hi:P.info? t with
 |none=>simp[hi]at h
 |some i=>
  simp only[hi,acf,cond_eq_ite]at h
  split at h
  ·simp[zeroValue,IT hi,h]
  ·cases h
theorem F7{t:TypeId}{x:Bool}(h:agg? P t=some x)(w:World):(isAgg t).run P w=.ok x w:=by
 unfold agg? at h
 cases hd:P.underlying t with
 |none=>simp[hd]at h
 |some d=>
  simp only[hd,abd,aag]at h;subst h;simp only[isAgg,aae,AF hd,zC]
  cases d<;>rfl
end
section
variable {P:Program}{w0:World}{ρ:Bk}{W:CW}{w:World}
theorem MH(c:Array Value):∀(m k i:Nat),i<m→(DZ c m k).getD i undef=c.getD (k+i) undef
 |0,_,_,h=>by omega
 |m+1,k,0,_=>by simp[DZ]
 |m+1,k,i+1,h=>by
  have:=MH c m (k+1) i (by omega);simp only[DZ,ac0,this];congr 1;omega
theorem FY(c:Tr Value)(z:Array Value):∀(m k i:Nat),i<m→(BE c z m k).getD i undef=cellAt c z (k+i)
 |0,_,_,h=>by omega
 |m+1,k,0,_=>by simp[BE]
 |m+1,k,i+1,h=>by
  have:=FY c z m (k+1) i (by omega);simp only[BE,ac0,this];congr 1;omega
theorem Aw(c:Tr Value)(z:Array Value):∀m k,(BE c z m k).length=m
 |0,_=>rfl
 |m+1,k=>by simp[BE,Aw c z m]
theorem fM{c:Tr Value}{z:Array Value}{c':Array Value}{n o:Nat}(h:∀k,k<n→AK ρ (cellAt c z k) (c'.getD (k+o) undef))(m k:Nat)(hm:k+m≤n) :
  Ap ρ (BE c z m k) (DZ c' m (k+o)):=by
 refine⟨by rw[Aw,I1],λi hi=>?_⟩;rw[Aw]at hi;rw[FY _ _ _ _ _ hi,MH _ _ _ _ hi];have:=h (k+i) (by omega);have e:k+i+o=k+o+i:=by omega
 rwa[e]at this
theorem WU(c:Tr Value)(z:Array Value)(vs:List Value)(k j:Nat) :
  cellAt (c.AS k vs) z j=if k≤j∧j<k+vs.length then vs.getD (j-k) undef else cellAt c z j:=by
 unfold cellAt;rw[Tr.KL]
 by_cases h:k≤j∧j<k+vs.length
 ·rw[aad h,aad h];have:j-k<vs.length:=by omega
  simp[aaj,this]
 ·rw[aac h,aac h]
theorem Iz.write{fr:Nat×Nat}{x:Info}{c:Tr Value}{z:Array Value}{e:TypeId}{c':Array Value}{n:Nat}(h:Iz P ρ x (.cells c n z e) (.cells c' e fr)){vs vs':List Value}(hv:Ap ρ vs vs'){k:Nat}
  (hk:k+vs.length≤n):Iz P ρ x (.cells (c.AS k vs) n z e) (.cells (G3 c' (k+x.o) vs') e fr):=by
 cases h with
 | cells he hs ho hc hq=>
  refine .cells he (by rw[HQ];exact hs) ho (λj hj=>?_) (by rw[HQ];exact hq);rw[WU,UR _ _ _ _ (by rw[←hv.1];omega),←hv.1]
  by_cases h:k≤j∧j<k+vs.length
  ·rw[aad h,aad (by omega)];have e:j+x.o-(k+x.o)=j-k:=by omega
   rw[e];exact hv.2 _ (by omega)
  ·rw[aac h,aac (by omega)];exact hc j hj
theorem AU.cells(h:AU P w0 ρ W w){a a':Addr}(ha:MG ρ a a'){c:Tr Value}{n:Nat}{z:Array Value}{e:TypeId}(ho:W.obj a.block=some (.cells c n z e)) :
  ∃x c' fr,ρ a.block=some x∧a'=⟨x.b,a.off+x.o,none⟩∧w.heap[x.b]?=some (.cells c' e fr)∧NF fr c'.size∧Iz P ρ x (.cells c n z e) (.cells c' e fr)∧x.n=n∧c'.size=x.n'∧x.o+n≤x.n'∧
   (P.info? e).map (·.size)=some x.sz∧(∀k,k<n→AK ρ (cellAt c z k) (c'.getD (k+x.o) undef)):=by
 obtain⟨_,x,hx,rfl⟩:=ha;obtain⟨o',I0,hr⟩:=h.obj ho (by simp) hx rfl
 cases hr with
 |cells he hs kE hc hq=>exact⟨x,_,_,hx,rfl,I0,hq.1,.cells he hs kE hc hq,rfl,hs,kE,he,hc⟩
theorem AU.fixed(h:AU P w0 ρ W w){a a':Addr}(ha:MG ρ a a'){f:Nat→Value}{n:Nat}{e:TypeId}(ho:W.obj a.block=some (.fixed f n e)) :
  ∃x c' e' fr,ρ a.block=some x∧a'=⟨x.b,a.off+x.o,none⟩∧w.heap[x.b]?=some (.cells c' e' fr)∧x.n=n∧c'.size=x.n'∧x.o+n≤x.n'∧
   (P.info? e).map (·.size)=some x.sz∧(∀k,k<n→AK ρ (f k) (c'.getD (k+x.o) undef)):=by
 obtain⟨_,x,hx,rfl⟩:=ha;obtain⟨o',I0,hr⟩:=h.obj ho (by simp) hx rfl
 cases hr with
 |fixed he hs kE hc=>exact⟨x,_,_,_,hx,rfl,I0,rfl,hs,kE,he,hc⟩
theorem En(f:Nat→Value):∀m k,(FC f m k).length=m
 |0,_=>rfl
 |m+1,k=>by simp[FC,En f m]
theorem Na(f:Nat→Value):∀(m k i:Nat),i<m→(FC f m k).getD i undef=f (k+i)
 |0,_,_,h=>by omega
 |m+1,k,0,_=>rfl
 |m+1,k,i+1,h=>by
  have:=Na f m (k+1) i (by omega);simp only[FC,ac0,this];congr 1;omega
theorem US{f:Nat→Value}{c':Array Value}{n o:Nat}(h:∀k,k<n→AK ρ (f k) (c'.getD (k+o) undef))(m k:Nat)(hm:k+m≤n) :
  Ap ρ (FC f m k) (DZ c' m (k+o)) :=
 ⟨by rw[En,I1],λi hi=>by
  rw[En]at hi;rw[Na _ _ _ _ hi,MH _ _ _ _ hi];have:=h (k+i) (by omega);have e:k+i+o=k+o+i:=by omega
  rwa[e]at this⟩
theorem UT(h:AU P w0 ρ W w){t:TypeId}{a a':Addr}{v:Value}(ha:MG ρ a a')(hl:LS P t a W=some v) :
  ∃v',(loadVar t a').run P w=.ok v' w∧AK ρ v v':=by
 unfold LS at hl
 split at hl
 ·rename_i c n z e ho;obtain⟨x,c',fr,hx,rfl,hb,_,_,_,hs,kE,_,hc⟩:=h.cells ha ho
  split at hl
  ·rename_i kF
   split at hl
   ·rename_i m hm;rw[cond_eq_ite]at hl
    split at hl
    ·rename_i hle;have hle:=aam hle
     cases hl
     refine⟨.agg (DZ c' m (a.off+x.o)).toArray,?_,.fK (by simpa using fM hc m a.off hle)⟩;simp only[loadVar,aae,F7 kF,zC,aaA,BH hm];rw[run_loadCells hb _ _ (by omega)];rfl
    ·cases hl
   ·cases hl
  ·rename_i kF;rw[cond_eq_ite]at hl
   split at hl
   ·rename_i Ao;have Ao:a.off<n:=by have:=aam Ao;omega
    cases hl
    refine⟨c'.getD (a.off+x.o) undef,?_,hc _ Ao⟩
    have:c'[a.off+x.o]?=some (c'.getD (a.off+x.o) undef):=by
     have:a.off+x.o<c'.size:=by omega
     simp[Array.getD,this]
    simp only[loadVar,aae,F7 kF,zC,aaM,abk,run_load,cell_of hb,this]
   ·cases hl
  ·cases hl
 ·rename_i f n e ho;obtain⟨x,c',e',fr,hx,rfl,hb,_,hs,kE,_,hc⟩:=h.fixed ha ho
  split at hl
  ·rename_i kF
   split at hl
   ·rename_i m hm;rw[cond_eq_ite]at hl
    split at hl
    ·rename_i hle;have hle:=aam hle
     cases hl
     refine⟨.agg (DZ c' m (a.off+x.o)).toArray,?_,.fK (by simpa using US hc m a.off hle)⟩;simp only[loadVar,aae,F7 kF,zC,aaA,BH hm];rw[run_loadCells hb _ _ (by omega)];rfl
    ·cases hl
   ·cases hl
  ·rename_i kF;rw[cond_eq_ite]at hl
   split at hl
   ·rename_i Ao;have Ao:a.off<n:=by have:=aam Ao;omega
    cases hl
    refine⟨c'.getD (a.off+x.o) undef,?_,hc _ Ao⟩
    have:c'[a.off+x.o]?=some (c'.getD (a.off+x.o) undef):=by
     have:a.off+x.o<c'.size:=by omega
     simp[Array.getD,this]
    simp only[loadVar,aae,F7 kF,zC,aaM,abk,run_load,cell_of hb,this]
   ·cases hl
  ·cases hl
 ·cases hl
theorem px{v v':Value}(h:AK ρ v v')(hc:v.cells.toList.all BG=true):v'.cells.toList.all BG=true:=by
 have hl:=h.cells;rw[aax]at hc ⊢;intro y hy;obtain⟨i,hi,rfl⟩:=abV hy;have Jr:i<v.cells.toList.length:=hl.1▸hi;have:=hl.2 i Jr;simp only[aaj,ck hi,ck Jr,abc]at this;rw[this.one];exact hc _ (aaG Jr)
theorem Q6(h:AU P w0 ρ W w){t:TypeId}{a a':Addr}{v v':Value}(ha:MG ρ a a')(hv:AK ρ v v'){c:Tr Value}{n:Nat}{z:Array Value}{e:TypeId}{m:Nat}
  (ho:W.obj a.block=some (.cells c n z e)) (hm:De P t=some m) (Hs:v.cells.size=m) (hle:a.off+m≤n) (Nb:v.cells.toList.all BG=true) :
  ∃w',(storeVar t a' v').run P w=.ok () w'∧AU P w0 ρ (W.A6 a.block (.cells (c.AS a.off v.cells.toList) n z e)) w':=by
 obtain⟨x,c',fr,hx,rfl,hb,kD,hr,_,hs,kE,_,hc⟩:=h.cells ha ho;have hl:=hv.cells;have Oq:v'.cells.size=m:=by have:=hl.1;simp at this;omega
 refine⟨{w with heap:=w.heap.setIfInBounds x.b (.cells (G3 c' (a.off+x.o) v'.cells.toList) e fr)},?_,?_⟩
 ·simp only[storeVar,aae,BH hm,zC,Oq,ne_eq,not_true,abk];have:=F6 (P:=P) (a.off+x.o) v'.cells.toList 0 w c' hb kD (by simp;omega) (px hv Nb)
  simpa using this
 ·exact h.A6 ho rfl hx (hr.write hl (by simp;omega))
theorem bt(h:AU P w0 ρ W w){t:TypeId}{a a':Addr}{v v':Value}{W1:CW}(ha:MG ρ a a')(hv:AK ρ v v')(hl:Kv P t a v W=some W1) :
  ∃w',(storeVar t a' v').run P w=.ok () w'∧AU P w0 ρ W1 w':=by
 unfold Kv at hl
 split at hl
 ·rename_i c n z e ho
  split at hl
  ·rename_i cs
   split at hl
   ·rename_i m hm;rw[cond_eq_ite]at hl
    split at hl
    ·rename_i BM;simp only[dy]at BM
     cases hl
     exact Q6 h ha hv ho hm (aab BM.1.1) (aam BM.1.2) BM.2
    ·cases hl
   ·cases hl
  ·cases hl
  ·rename_i hna NI
   split at hl
   ·rename_i m hm;rw[cond_eq_ite]at hl
    split at hl
    ·rename_i BM;simp only[dy]at BM
     cases hl
     have Nb:BG v=true:=by cases v<;>first|rfl|exact(hna _ rfl).elim|exact(NI _ rfl).elim
     have Nc:v.cells=#[v]:=by cases v<;>first|rfl|exact(hna _ rfl).elim
     have O3:=aab BM.1;have Ao:a.off<n:=by have:=aam BM.2;omega
     have:=Q6 h ha hv ho hm (by rw[Nc];simp[O3]) (by omega) (by rw[Nc];simp[Nb]);rw[Nc]at this;exact this
    ·cases hl
   ·cases hl
 ·cases hl
end
def EX (P:Program):Prop:=∀ f fn,P.funcs[f]?=some fn→fn.body.isNone=true→(fn.name == "maps.clone")=true→∀ args w v w',(Extern.MapsClone.clone args).run P w=.ok v w'→(callFunc f args).run P w=.ok (.value v) w'
def ZP(P:Program):Prop:=(∀t z,Hr P t=some z→∃n,F4 n z=true)∧EX P
theorem ZP.rel{P:Program}(h:ZP P){t:TypeId}{z:Value}(hz:Hr P t=some z)(ρ:Bk):AK ρ z z:=let ⟨n,hn⟩:=h.1 t z hz;.Q2 ρ n z hn
inductive LW(ρ:Bk):Deferred→Deferred→Prop
 |fn {f:FuncId} {cap cap' args args':Array Value}:Ap ρ cap.toList cap'.toList→Ap ρ args.toList args'.toList→LW ρ ⟨.fn (.func f) cap,args⟩ ⟨.fn (.func f) cap',args'⟩
 |collected {r r':Nat}:NY ρ r r'→LW ρ ⟨.collected r,#[]⟩ ⟨.collected r',#[]⟩
theorem LW.mono{ρ ρ':Bk}{d d':Deferred}(h:LW ρ d d')(e:Ext ρ ρ'):LW ρ' d d':=by
 cases h with
 |fn a b=>exact .fn (a.mono e) (b.mono e)
 |collected a=>exact .collected (a.mono e)
inductive fN(P:Program)(w0:World)(ρ:Bk)(W:CW)(r:Result Next):BQ→Prop
 |value {v v':Value} {w:World}:r=.ok (.value v') w→AK ρ v v'→AU P w0 ρ W w→fN P w0 ρ W r (.value v)
 |skip {w:World}:r=.ok .skip w→AU P w0 ρ W w→fN P w0 ρ W r .skip
 |enter {f:FuncId} {args:List Value} {args':Array Value} {w:World}:r=(callFunc f args').run P w→Ap ρ args args'.toList→AU P w0 ρ W w→fN P w0 ρ W r (.enter f args)
 |round {l l':Nat} {args:List Value} {args':Array Value} {w:World}:r=(Instr.yield l' args').run P w→NY ρ l l'→Ap ρ args args'.toList→AU P w0 ρ W w→fN P w0 ρ W r (.round l args)
 |defer {d d':Deferred} {w:World}:r=.ok (.defer d') w→LW ρ d d'→AU P w0 ρ W w→fN P w0 ρ W r (.defer d)
 |recover {w:World}:r=.ok .recover w→AU P w0 ρ W w→fN P w0 ρ W r .recover
 |panic {v v':Value} {w:World}:r=.halt (.panic v') w→AK ρ v v'→AU P w0 ρ W w→fN P w0 ρ W r (.panic v)
def A3(P:Program)(w0:World)(ρ:Bk)(W:CW)(r:Result Next)(outs:List (BQ×CW)):Prop :=
 ∃n W1 ρ',(n,W1)∈outs∧Ef W ρ W1 ρ'∧fN P w0 ρ' W1 r n
section
variable {P:Program}{w0:World}{ρ:Bk}{W:CW}{w:World}
theorem A3.value(hw:AU P w0 ρ W w){r:Result Next}{v v':Value}(hr:r=.ok (.value v') w)(hv:AK ρ v v'):A3 P w0 ρ W r [(.value v,W)] :=
 ⟨_,_,ρ,dx.2 rfl,.refl _,.value hr hv hw⟩
def Mz(ρ:Bk):Option Value→Option Value→Prop
 |none,none=>True
 |some v,some v'=>AK ρ v v'
 |_,_=>False
theorem F8{x x':Option Value}{d y y' k:Nat}(h:bound x d y=some k)(hx:Mz ρ x x')(hy:y≤y') :
  (x=none∧x'=none∧k=d)∨(∃v',x'=some v'∧k≤y∧∀code (w:World),(Instr.sliceBound v' y' code).run P w=.ok k w):=by
 unfold bound at h
 split at h
 ·rename_i kk i;rw[cond_eq_ite]at h
  split at h
  ·rename_i hc;simp only[dy,decide_eq_true_eq]at hc
   cases h
   cases x' with
   |none=>exact hx.elim
   |some v'=>
    have hx:AK ρ (.int kk i) v':=hx
    cases hx
    right;refine⟨_,rfl,by omega,λcode w=>?_⟩;have:0≤i∧i≤(y':Int):=⟨hc.1,by omega⟩
    simp[Instr.sliceBound,asIntOf,this]
  ·cases h
 ·cases h
 ·cases h
  cases x' with
  |none=>exact .inl ⟨rfl,rfl,rfl⟩
  |some v'=>exact hx.elim
theorem Mz.map{f g:Operand→Value}(x:Option Operand)(h:∀y,x=some y→AK ρ (f y) (g y)):Mz ρ (x.map f) (x.map g):=by
 cases x with
 |none=>trivial
 |some y=>exact h y rfl
theorem AY{α β:Type}{o:Option α}{f:α→Option β}{b:β}(h:CS o f=some b):∃a,o=some a∧f a=some b:=by
 cases o with
 |none=>cases h
 |some a=>exact⟨a,rfl,h⟩
theorem MI(b:Bool){lo s8 hi Jr mx mx':Option Value}{len cap cap' m h l:Nat}(hm:bound mx cap cap=some m)(hh:bound hi len m=some h)(hl:bound lo 0 h=some l)
  (rl:Mz ρ lo s8) (rh:Mz ρ hi Jr) (rm:Mz ρ mx mx') (hc:cap≤cap') (hn:(mx.isSome&&hi.isNone)=false) :
  ∃m',(∀w:World,(Instr.sliceBounds b len cap' s8 Jr mx').run P w=.ok (l,h,m') w)∧((mx=none∧m'=cap'∧m=cap)∨(m'=m∧m≤cap))∧l≤h:=by
 have py:l≤h:=by
  rcases F8 (P:=P) hl rl (aaf _)with⟨_,_,rfl⟩|⟨_,_,h,_⟩
  ·exact aa7 _
  ·exact h
 rcases F8 (P:=P) hm rm hc with⟨rfl,rfl,rfl⟩|⟨v,rfl,AIS,hmr⟩
 ·refine⟨cap',λw=>?_,.inl ⟨rfl,rfl,rfl⟩,py⟩
  rcases F8 (P:=P) hh rh hc with⟨rfl,rfl,rfl⟩|⟨v2,rfl,_,hhr⟩
  ·rcases F8 (P:=P) hl rl (aaf _)with⟨rfl,rfl,rfl⟩|⟨v3,rfl,_,hlr⟩
   ·simp[Instr.sliceBounds]
   ·simp[Instr.sliceBounds,hlr]
  ·rcases F8 (P:=P) hl rl (aaf _)with⟨rfl,rfl,rfl⟩|⟨v3,rfl,_,hlr⟩
   ·simp[Instr.sliceBounds,hhr]
   ·simp[Instr.sliceBounds,hhr,hlr]
 ·have hms:mx.isSome=true:=by
   cases mx with
   |none=>exact rm.elim
   |some _=>rfl
  refine⟨m,λw=>?_,.inr ⟨rfl,AIS⟩,py⟩
  rcases F8 (P:=P) hh rh (aaf _)with⟨rfl,rfl,rfl⟩|⟨v2,rfl,_,hhr⟩
  ·simp[hms]at hn
  ·rcases F8 (P:=P) hl rl (aaf _)with⟨rfl,rfl,rfl⟩|⟨v3,rfl,_,hlr⟩
   ·simp[Instr.sliceBounds,hmr,hhr]
   ·simp[Instr.sliceBounds,hmr,hhr,hlr]
end
section
variable {P:Program}{w0:World}{ρ:Bk}{W:CW}{w:World}
theorem bu{t:TypeId}{n m:Nat}(h:De P t=some n)(k:(P.info? t).map (·.size)=some m):m=n:=by
 unfold De at h;rw[h]at k;cases k;rfl
theorem Q7{a a':Addr}(h:MG ρ a a')(k:Nat):MG ρ ⟨a.block,a.off+k,none⟩ (a'.add k):=by
 obtain⟨_,x,hx,rfl⟩:=h;refine⟨rfl,x,hx,?_⟩;rw[NZ];simp only[Addr.mk.injEq,and_true,true_and];omega
theorem Q9(a:Addr):a.add 0=a:=by simp[Addr.add]
theorem b9(hw:AU P w0 ρ W w){t:TypeId}{x x' v:Value}{lo s8 hi Jr mx mx':Option Value}(h:NX P W t x lo hi mx=some v)(hx:AK ρ x x')
  (rl:Mz ρ lo s8) (rh:Mz ρ hi Jr) (rm:Mz ρ mx mx'):∃v',(Instr.sliceAt t x' s8 Jr mx').run P w=.ok v' w∧AK ρ v v':=by
 unfold NX at h
 split at h
 ·rename_i elem a len cap ht;obtain⟨m,hm,h⟩:=AY h;obtain⟨hh,K2,h⟩:=AY h;obtain⟨l,hl,h⟩:=AY h;rw[cond_eq_ite]at h
  split at h
  ·cases h
  rename_i BM;simp only[aaQ,aaC,not_or,Bool.not_eq_true,Bool.not_eq_false]at BM;obtain⟨⟨AB0,hle⟩,MJ⟩:=BM;have hle:=aam hle;obtain⟨s,hs,h⟩:=AY h
  cases h
  have run:∀(a':Option Addr) (cap':Nat),cap≤cap'→∃m',(Instr.sliceAt t (.slice a' len cap') s8 Jr mx').run P w=.ok (.slice (if m'=l then a' else a'.map (·.add (l*s))) (hh-l) (m'-l)) w∧((mx=none∧m'=cap'∧m=cap)∨(m'=m∧m≤cap))∧l≤hh:=by
   intro a' cap' hc;obtain⟨m',hr,BD,py⟩:=MI (P:=P) true hm K2 hl rl rh rm hc AB0;refine⟨m',?_,BD,py⟩;simp only[Instr.sliceAt,aae,AF ht,zC,Instr.slice,hr,BH hs,aak]
  cases hx with
  |fJ=>
   obtain⟨m',hr,BD,py⟩:=run none cap (aaf _);refine⟨_,hr,?_⟩;have:m'=m:=by rcases BD with⟨_,h1,h2⟩|⟨h1,_⟩<;>omega
   subst this;simp only[Option.map_none,ite_self,cond_eq_ite];exact .fJ _ _
  | @slice a a' n c c' ha hc=>
   have FO:cap≤c':=by
    rcases hc with rfl|⟨_,_,_,_,_,h⟩
    ·exact aaf _
    ·exact h
   obtain⟨m',hr,BD,py⟩:=run (some a') c' FO;refine⟨_,hr,?_⟩
   have AFB:mx=none→c'=cap∨∃y,ρ a.block=some y∧0<s∧y.sz=s∧a.off+cap*s=y.n∧a.off+y.o+c'*s=y.n':=by
    intro kG
    rcases hc with rfl|⟨y,hy,PW,h1,h2,_⟩
    ·exact .inl rfl
    ·right;subst kG;simp only[abL,ME,ha.1,abY]at MJ
     split at MJ
     ·rename_i cc nn zz ee ho;have:=aab (MJ.resolve_left (by simp));subst this;obtain⟨y',c2,_,hy',_,_,_,_,_,_,_,he,_⟩:=hw.cells ha ho;rw[hy]at hy';cases hy';have:=bu hs he;rw[this]at h1 h2 PW;exact⟨y,hy,PW,this,h1,h2⟩
     ·rename_i ff nn ee ho;have:=aab (MJ.resolve_left (by simp));subst this;obtain⟨y',_,_,_,hy',_,_,_,_,_,he,_⟩:=hw.fixed ha ho;rw[hy]at hy';cases hy';have:=bu hs he;rw[this]at h1 h2 PW;exact⟨y,hy,PW,this,h1,h2⟩
     ·simp at MJ
   by_cases e:m=l
   ·have ehl:hh=l:=by omega
    subst ehl;simp only[cond_eq_ite,abz,e,aaA,abB];obtain⟨y,hy,rfl⟩:=ha.2
    by_cases em:m'=hh
    ·subst em;simp only[aaA,abB];exact .K1 ha.1 hy rfl rfl (.inl rfl)
    ·rw[aac em]
     rcases BD with⟨kG,e1,e2⟩|⟨h1,_⟩
     ·rcases AFB kG with h1|⟨y',hy',PW,Hs,h1,h2⟩
      ·omega
      ·rw[hy]at hy';cases hy';simp only[abd,NZ];refine .K1 ha.1 hy rfl rfl (.inr ⟨by omega,?_⟩);rw[Hs];obtain⟨d,hd⟩:∃d,m'=hh+d:=⟨m'-hh,by omega⟩
       have e3:m'-hh=d:=by omega
       rw[e3];rw[←e1,hd,abu]at h2;show a.off+y.o+hh*s+d*s=y.n';omega
     ·omega
   ·have hlm:l<m:=by omega
    have em:m'≠l:=by rcases BD with⟨_,h1,h2⟩|⟨h1,_⟩<;>omega
    simp only[cond_eq_ite,abz,e,abk,em,abd];refine .slice _ (Q7 ha _) ?_
    rcases BD with⟨kG,rfl,rfl⟩|⟨rfl,_⟩
    ·rcases AFB kG with rfl|⟨y,hy,PW,Hs,h1,h2⟩
     ·exact .inl rfl
     ·right
      refine⟨y,hy,by omega,?_,?_,by omega⟩
      ·rw[Hs];obtain⟨d,rfl⟩:∃d,m=l+d:=⟨m-l,by omega⟩
       have:l+d-l=d:=by omega
       rw[this];rw[abu]at h1;show a.off+l*s+d*s=y.n;omega
      ·rw[Hs];obtain⟨d,rfl⟩:∃d,m'=l+d:=⟨m'-l,by omega⟩
       have:l+d-l=d:=by omega
       rw[this];rw[abu]at h2;show a.off+l*s+y.o+d*s=y.n';omega
    ·exact .inl rfl
  | @K1 a a' c' y hq hy hb I9 hc=>
   obtain⟨m',hr,BD,py⟩:=run (some a') c' (aa7 _);refine⟨_,hr,?_⟩;have nb:m=0:=by rcases BD with⟨_,h1,h2⟩|⟨h1,h2⟩<;>omega
   subst nb;have hh0:hh=0:=by omega
   subst hh0;have hl0:l=0:=by omega
   subst hl0;simp only[cond_eq_ite,abz,aaA,acQ,abl,abd,Q9,ite_self];refine .K1 hq hy hb I9 ?_
   rcases BD with⟨_,rfl,_⟩|⟨rfl,_⟩
   ·exact hc
   ·exact .inl rfl
  | @JR a a' hq=>
   obtain⟨m',hr,BD,py⟩:=run (some a') 0 (aaf _);refine⟨_,hr,?_⟩;have nb:m=0:=by rcases BD with⟨_,h1,h2⟩|⟨h1,h2⟩<;>omega
   subst nb;have hh0:hh=0:=by omega
   subst hh0;have hl0:l=0:=by omega
   subst hl0;simp only[cond_eq_ite,abz,aaA,acQ,abl,abd,Q9,ite_self];have AIT:m'=0:=by rcases BD with⟨_,h1,_⟩|⟨h1,_⟩<;>omega
   subst AIT;exact .JR hq
 ·rename_i n elem a ht;obtain⟨m,hm,h⟩:=AY h;obtain⟨hh,K2,h⟩:=AY h;obtain⟨l,hl,h⟩:=AY h;rw[cond_eq_ite]at h
  split at h
  ·cases h
  rename_i BM;simp only[aaQ,aaC,not_or,Bool.not_eq_true,Bool.not_eq_false]at BM;obtain⟨s,hs,h⟩:=AY h
  cases h
  cases hx with
  | @ptr a a' ha=>
   obtain⟨m',hr,BD,py⟩:=MI (P:=P) false hm K2 hl rl rh rm (aaf _) BM.1;have:m'=m:=by rcases BD with⟨_,h1,h2⟩|⟨h1,_⟩<;>omega
   subst this
   refine⟨.slice (some (if m'=l then a' else a'.add (l*s))) (hh-l) (m'-l),?_,?_⟩
   ·simp only[Instr.sliceAt,aae,AF ht,zC,Instr.sureAddr,aak,hr,BH hs]
   ·simp only[cond_eq_ite,abz]
    by_cases e:m'=l
    ·rw[aad e,aad e];exact .slice _ ha (.inl rfl)
    ·rw[aac e,aac e];exact .slice _ (Q7 ha _) (.inl rfl)
 ·cases h
end
section
variable {P:Program}{w0:World}{ρ:Bk}{W:CW}{w:World}{o:Oper}{e e':Operand→Value}{outs:List (BQ×CW)}
theorem FF{x:Option Value}(h:(match x with|some v=>some [(BQ.value v,W)]|none=>none)=some outs):∃v,x=some v∧outs=[(.value v,W)]:=by
 cases x with
 |none=>cases h
 |some v=>cases h;exact⟨v,rfl,rfl⟩
theorem JS{x:Option (Value×CW)}(h:(match x with|some (v,W)=>some [(BQ.value v,W)]|none=>none)=some outs):∃v W1,x=some (v,W1)∧outs=[(.value v,W1)]:=by
 cases x with
 |none=>cases h
 |some v=>obtain⟨v,W1⟩:=v;cases h;exact⟨v,W1,rfl,rfl⟩
theorem ng{x:Option CW}(h:(match x with|some W=>some [(BQ.skip,W)]|none=>none)=some outs):∃W1,x=some W1∧outs=[(.skip,W1)]:=by
 cases x with
 |none=>cases h
 |some W1=>cases h;exact⟨W1,rfl,rfl⟩
theorem A9{s:Sem Value}{v:Value}{w w':World}(hs:s.run P w=.ok v w'):(do let x←s;pure (Next.value x):Sem Next).run P w=.ok (.value v) w':=by simp[hs]
theorem kH{s:Sem Unit}{w w':World}(hs:s.run P w=.ok () w'):(do s;pure Next.skip:Sem Next).run P w=.ok .skip w':=by simp[hs]
theorem nh{x:Operand}(ho:o.op=.move x∨o.op=.assign x)(h:BF P o e W=some outs)(hw:AU P w0 ρ W w)(he:AK ρ (e x) (e' x)) :
  A3 P w0 ρ W ((execOp e' o).run P w) outs:=by
 rcases ho with ho|ho<;>
 ·simp only[BF,ho]at h
  cases h
  exact .value hw (by simp only[execOp,ho,aak]) he
theorem zI{c a b:Operand}(ho:o.op=.pick c a b)(h:BF P o e W=some outs)(hw:AU P w0 ρ W w)(hc:AK ρ (e c) (e' c))(ha:AK ρ (e a) (e' a))(hb:AK ρ (e b) (e' b)) :
  A3 P w0 ρ W ((execOp e' o).run P w) outs:=by
 simp only[BF,ho]at h
 split at h
 ·rename_i b0 zJ
  cases h
  rw[zJ]at hc;generalize FO:e' c=vc at hc
  cases hc
  have hr:(execOp e' o).run P w=.ok (.value (if b0=true then e' a else e' b)) w:=by
   simp[execOp,ho,FO,asBool]
  refine .value hw hr ?_
  cases b0
  ·simpa using hb
  ·simpa using ha
 ·cases h
theorem zK{t:TypeId}{a:Operand}(ho:o.op=.load t a)(h:BF P o e W=some outs)(hw:AU P w0 ρ W w)(ha:AK ρ (e a) (e' a)) :
  A3 P w0 ρ W ((execOp e' o).run P w) outs:=by
 simp only[BF,ho]at h;obtain⟨v,hv,rfl⟩:=FF h
 split at hv
 ·rename_i p hp;rw[hp]at ha;generalize FO:e' a=va at ha
  cases ha with
  |ptr ha=>
   obtain⟨v',hr,Iu⟩:=UT hw ha hv;refine .value hw ?_ Iu;simp only[execOp,ho,FO];exact A9 (by simpa[Instr.loadAt,Instr.sureAddr]using hr)
 ·cases hv
theorem pz{t:TypeId}{a:Addr}{v:Value}{W1:CW}(h:Kv P t a v W=some W1):W.sz≤W1.sz:=by
 unfold Kv at h
 repeat' (first|(cases h;done)|(cases h;exact aaf _)|(rw[cond_eq_ite]at h)|split at h)
theorem tu{t:TypeId}{a x:Operand}(ho:o.op=.store t a x)(h:BF P o e W=some outs)(hw:AU P w0 ρ W w)(ha:AK ρ (e a) (e' a))(hx:AK ρ (e x) (e' x)) :
  A3 P w0 ρ W ((execOp e' o).run P w) outs:=by
 simp only[BF,ho]at h;obtain⟨W1,hv,rfl⟩:=ng h
 split at hv
 ·rename_i p hp;rw[hp]at ha;generalize FO:e' a=va at ha
  cases ha with
  |ptr ha=>
   obtain⟨w',hr,I_⟩:=bt hw ha hx hv;refine⟨_,_,ρ,dx.2 rfl,.refl _ (pz hv),.skip (w:=w') ?_ I_⟩;simp only[execOp,ho,FO];exact kH (by simpa[Instr.storeAt,Instr.sureAddr]using hr)
 ·cases hv
theorem fO{x:Operand}(ho:o.op=.nilCheck x)(h:BF P o e W=some outs)(hw:AU P w0 ρ W w)(hx:AK ρ (e x) (e' x)) :
  A3 P w0 ρ W ((execOp e' o).run P w) outs:=by
 simp only[BF,ho]at h;obtain⟨v,hv,rfl⟩:=FF h;generalize hc:e x=vx at*;generalize FO:e' x=UU at*
 split at hv<;>cases hv<;>cases hx
 ·rename_i h1;exact .value hw (by simp only[execOp,ho,FO,aak]) (.ptr h1)
 ·rename_i h1;exact .value hw (by simp only[execOp,ho,FO,aak]) (.iface _ h1)
 ·rename_i h1 h2 h3 h4 h5
  cases h1
  exact .value hw (by simp only[execOp,ho,FO,aak]) (.func (.func _) h2 h3 h4 h5)
 ·rename_i h1 h2 h3 h4 h5
  cases h1 with
  |yield hb=>exact .value hw (by simp only[execOp,ho,FO,aak]) (.func (.yield hb) h2 h3 h4 h5)
theorem Q_(hw:AU P w0 ρ W w){c:Tr Value}{z:Array Value}{n:Nat}{t:TypeId}{sz:Nat}{c':Array Value}(hs:De P t=some sz)(hn:c'.size=n)
  (hc:∀k,k<n→AK ρ (cellAt c z k) (c'.getD k undef)) :
  ∃ρ',Ef W ρ (W.new (.cells c n z t)) ρ'∧ρ' W.sz=some ⟨w.heap.size,0,sz,n,n⟩∧AU P w0 ρ' (W.new (.cells c n z t)) {w with heap:=w.heap.push (.cells c' t)}∧MG ρ' ⟨W.sz,0,none⟩ ⟨w.heap.size,0,none⟩:=by
 have C2:Ext ρ (λi=>if i=W.sz then some ⟨w.heap.size,0,sz,n,n⟩else ρ i):=λi y hy=>by
  have:=hw.VF i y hy;show(if i=W.sz then _ else ρ i)=some y;rw[aac (by omega)];exact hy
 have:=hw.new (o:=.cells c n z t) (o':=.cells c' t) ⟨w.heap.size,0,sz,n,n⟩ rfl (by
  exact .cells hs hn (by simp) (λk hk=>(hc k hk).mono C2) ⟨NF.zero _,λ_=>⟨rfl,rfl⟩⟩)
 exact⟨_,this.1,by simp,this.2,⟨rfl,⟨w.heap.size,0,sz,n,n⟩,by simp,by simp⟩⟩
theorem B6(vs:List Value)(z:Array Value)(k:Nat)(h:k<vs.length):cellAt (Tr.nil.AS 0 vs) z k=vs.getD k undef:=by
 rw[WU];simp[h]
theorem AB1{t:TypeId}{x:Operand}(ho:o.op=.box t x)(h:BF P o e W=some outs)(hw:AU P w0 ρ W w)(hx:AK ρ (e x) (e' x)) :
  A3 P w0 ρ W ((execOp e' o).run P w) outs:=by
 simp only[BF,ho,VU]at h
 split at h
 ·rename_i sz hs
  cases h
  have hl:=hx.cells
  obtain⟨ρ',C2,_,I_,ha⟩:=Q_ hw (c:=Tr.nil.AS 0 (e x).cells.toList) (z:=#[]) (n:=(e x).cells.size) (c':=(e' x).cells) hs (by simpa using hl.1.symm) (λk hk=>by
   rw[B6 _ _ _ (by simpa using hk)];have:=hl.2 k (by simpa using hk)
   simpa[aal,aaj]using this)
  refine⟨_,_,ρ',dx.2 rfl,C2,.value (w:={w with heap:=w.heap.push (.cells (e' x).cells t)}) ?_ (.ptr ha) I_⟩;simp only[execOp,ho];exact A9 (by simp[Instr.box,newVar,newRow])
 ·cases h
theorem tw(hz:ZP P){t:TypeId}(ho:o.op=.alloc t)(h:BF P o e W=some outs)(hw:AU P w0 ρ W w) :
  A3 P w0 ρ W ((execOp e' o).run P w) outs:=by
 simp only[BF,ho]at h
 split at h
 ·rename_i z MD
  split at h
  ·rename_i sz hs
   cases h
   obtain⟨ρ',C2,_,I_,ha⟩:=Q_ hw (c:=.nil) (z:=z.cells) (n:=z.cells.size) (c':=z.cells) hs rfl (λk hk=>by
    have hc:=(hz.rel MD ρ).cells.2 k (by simpa using hk);have:cellAt .nil z.cells k=z.cells.getD k undef:=by simp[cellAt,Tr.get_nil,acg hk]
    rw[this]
    simpa[aal,aaj]using hc)
   refine⟨_,_,ρ',dx.2 rfl,C2,.value (w:={w with heap:=w.heap.push (.cells z.cells t)}) ?_ (.ptr ha) I_⟩;simp only[execOp,ho];exact A9 (by simp[Instr.alloc,Bi MD,newVar,newRow])
  ·cases h
 ·cases h
theorem zM{u:UnOp}{t:TypeId}{x:Operand}(ho:o.op=.unOp u t x)(h:BF P o e W=some outs)(hw:AU P w0 ρ W w)(hx:AK ρ (e x) (e' x)) :
  A3 P w0 ρ W ((execOp e' o).run P w) outs:=by
 cases u<;>simp only[BF,ho]at h<;>first|(cases h;done)|skip
 all_goals
  obtain⟨v,hv,rfl⟩:=FF h
  split at hv
  ·rename_i hc
   cases hv
   rw[hc]at hx;generalize FO:e' x=UU at hx
   cases hx
   refine .value hw ?_ (by constructor);simp only[execOp,ho,FO];exact A9 (by simp[Op.unary,Op.intArith])
  ·cases hv
theorem Sy{t:TypeId}{x:Operand}(ho:o.op=.makeInterface t x)(h:BF P o e W=some outs)(hw:AU P w0 ρ W w)(hx:AK ρ (e x) (e' x)) :
  A3 P w0 ρ W ((execOp e' o).run P w) outs:=by
 simp only[BF,ho]at h;obtain⟨v,hv,rfl⟩:=FF h
 split at hv
 ·cases hv
 ·cases hv
 ·rename_i NV Nd
  cases hv
  refine .value hw ?_ (.iface _ hx);simp only[execOp,ho];refine A9 ?_
  cases hu:P.underlying t with
  |none=>exact(Nd hu).elim
  |some d=>
   simp only[Instr.makeInterface,aae,AF hu,zC]
   cases d<;>first|rfl|exact(NV _ hu).elim
theorem kI{x:Operand}{i:Nat}(ho:o.op=.extract x i)(h:BF P o e W=some outs)(hw:AU P w0 ρ W w)(hx:AK ρ (e x) (e' x)) :
  A3 P w0 ρ W ((execOp e' o).run P w) outs:=by
 simp only[BF,ho]at h;obtain⟨v,hv,rfl⟩:=FF h
 split at hv
 ·rename_i vs hc;rw[hc]at hx;generalize FO:e' x=UU at hx;obtain⟨vs',rfl,hl⟩:=hx.pn;obtain⟨y,hy,hr⟩:=hl.get (x:=v) (i:=i) (by simpa using hv);have hy:vs'[i]?=some y:=by simpa using hy
  refine .value hw ?_ hr;simp only[execOp,ho,FO];exact A9 (by simp[Instr.extract,hy])
 ·cases hv
end
section
variable {P:Program}{w0:World}{ρ:Bk}{W:CW}{w:World}{o:Oper}{e e':Operand→Value}{outs:List (BQ×CW)}
theorem kJ{op:BinOp}{k:IntKind}{a b:Int}{v:Value}{t:TypeId}(h:Oo op k a b=some v)(w:World):(binOp op t (.int k a) (.int k b)).run P w=.ok v w∧AK ρ v v:=by
 cases op<;>simp only[Oo]at h
 case quo=>
  rw[cond_eq_ite]at h
  split at h
  ·cases h
  ·rename_i hb
   cases h
   have:¬b=0:=by simpa using hb
   exact⟨by simp[binOp,Op.intDiv,this],.int _ _⟩
 case rem=>
  rw[cond_eq_ite]at h
  split at h
  ·cases h
  ·rename_i hb
   cases h
   have:¬b=0:=by simpa using hb
   exact⟨by simp[binOp,Op.intDiv,this],.int _ _⟩
 case and=>cases h;exact⟨by simp only[binOp,ne_eq,not_true_eq_false,abk,Op.intBits,aak],.int _ _⟩
 case or=>cases h;exact⟨by simp only[binOp,ne_eq,not_true_eq_false,abk,Op.intBits,aak],.int _ _⟩
 case xor=>cases h;exact⟨by simp only[binOp,ne_eq,not_true_eq_false,abk,Op.intBits,aak],.int _ _⟩
 case andNot=>cases h;exact⟨by simp only[binOp,ne_eq,not_true_eq_false,abk,Op.intBits,aak],.int _ _⟩
 all_goals first
  |(cases h;done)
  |(cases h;exact⟨by simp[binOp,Op.intArith],.int _ _⟩)
  |(cases h;exact⟨by simp[binOp,Op.intCmp],.bool _⟩)
theorem kK:∀(x y:List UInt8),Y2 x y=(x==y)
 |[],[]=>rfl
 |[],_::_=>rfl
 |_::_,[]=>rfl
 | a::x,b::y=>by
  have h1:Nat.beq a.toNat b.toNat=(a==b):=by
   rw[abm];simp only[abz,beq_iff_eq];exact⟨λh=>ac1.1 h,λh=>by rw[h]⟩
  simp only[Y2,kK x y,h1,List.cons_beq_cons]
theorem tx:∀(x y:List UInt8),Hu x y=Op.bytesLess x y
 |[],[]=>rfl
 |[],_::_=>rfl
 |_::_,[]=>rfl
 | a::x,b::y=>by
  have h1:Nat.beq a.toNat b.toNat=(a==b):=by
   rw[abm];simp only[abz,beq_iff_eq];exact⟨λh=>ac1.1 h,λh=>by rw[h]⟩
  have h2:Nat.blt a.toNat b.toNat=decide (a<b):=by
   rw[abm];simp only[Nat.blt_eq,decide_eq_true_eq];exact UInt8.lt_iff_toNat_lt.symm
  simp only[Hu,tx x y,h1,h2,Op.bytesLess]
theorem ni(a:ByteArray):sb a=a.toList:=(ByteArray.toList_eq a).symm
theorem S1{a b:ByteArray}:Y2 (sb a) (sb b)=(a.toList==b.toList):=by rw[kK,ni,ni]
theorem p6{a b:ByteArray}:Hu (sb a) (sb b)=Op.bytesLess a.toList b.toList:=by rw[tx,ni,ni]
theorem LX{a b:ByteArray}(h:Y2 (sb a) (sb b)=true):a=b:=by
 rw[kK]at h;have h:a.data.toList=b.data.toList:=by simpa[sb]using h
 cases a;cases b
 exact ab8 ByteArray.mk (acE h)
theorem kL{op:BinOp}{a b:ByteArray}{v:Value}{t:TypeId}(h:ABs op a b=some v)(w:World):(binOp op t (.string a) (.string b)).run P w=.ok v w∧AK ρ v v:=by
 cases op<;>simp only[ABs]at h<;>first
  |(cases h;done)
  |(cases h;exact⟨by simp only[binOp,Op.stringOp,aak,S1,p6],.bool _⟩)
  |skip
 rw[cond_eq_ite]at h
 split at h
 ·rename_i hle;have hle:=aam hle
  cases h
  refine⟨?_,.string _⟩;show(Op.stringOp .add a b).run P w=_;rw[run_string_add_sum (P:=P) w a b hle];congr 2
 ·cases h
theorem S7{d:TypeDesc}{t:TypeId}{x y x' y':Value}{b:Bool}(ht:P.underlying t=some d)(h:zE d x y=some b)(hx:AK ρ x x')(hy:AK ρ y y')(w:World)(n:Nat) :
  (Op.equalIn (n+1) t x' y').run P w=.ok b w:=by
 rw[Op.equalIn];simp only[aae,AF ht,zC];unfold zE at h;split at h<;>first|(cases h;done)|skip
 all_goals
  cases h
  cases hx<;>cases hy<;>rfl
theorem IE(t:TypeId)(x y:Value):Op.equal t x y=Op.equalIn (9999+1) t x y:=rfl
theorem LY{t:TypeId}{xs QU:Array Value}{off:Nat}{v:Value}(h:UM P t xs off=some v)(hx:Ap ρ xs.toList QU.toList)(w:World):∃v',(part t QU off).run P w=.ok v' w∧AK ρ v v':=by
 unfold UM at h
 split at h
 ·rename_i m ha hm
  cases h
  refine⟨.agg (QU.extract off (off+m)),by simp only[part,aae,F7 ha,zC,aaA,BH hm,aak],.fK ?_⟩;refine⟨by simp;have:=hx.1;simp at this;rw[this],λi hi=>?_⟩;have hs:xs.size=QU.size:=by simpa using hx.1
  simp at hi;have:=hx.2 (off+i) (by simp;omega);simp only[aaj,aba]at this ⊢;rw[acm,acm,aad (by omega),aad (by omega)];exact this
 ·rename_i ha;obtain⟨y,hy,hv⟩:=hx.get (i:=off) (x:=v) (by simpa using h);have hy:QU[off]?=some y:=by simpa using hy
  exact⟨y,by simp only[part,aae,F7 ha,zC,aaM,abk,hy,aak],hv⟩
 ·cases h
theorem fP{eq:TypeId→Value→Value→Option Bool}{n:Nat}(hq:∀t x y b x' y',eq t x y=some b→AK ρ x x'→AK ρ y y'→∀w:World,(Op.equalIn n t x' y').run P w=.ok b w)
  {xs ys QU VX:Array Value} (hx:Ap ρ xs.toList QU.toList) (hy:Ap ρ ys.toList VX.toList) (w:World):∀(fs:List Field) (b:Bool),fD P eq xs ys fs=some b→(Op.eqFields n QU VX fs).run P w=.ok b w:=by
 intro fs
 induction fs with
 |nil=>intro b h;cases h;simp[Op.eqFields]
 | cons f fs ih=>
  intro b h;simp only[fD,cond_eq_ite]at h
  split at h
  ·rename_i hn; have hn:f.name="_":=by simpa using hn
   simp only[Op.eqFields,hn,ne_eq,not_true_eq_false,abk];exact ih b h
  ·rename_i hn; have hn:f.name≠"_":=by simpa using hn
   split at h
   ·rename_i u v hu hv;obtain⟨u',UQ,ru⟩:=LY hu hx w;obtain⟨v',Iu,rv⟩:=LY hv hy w;simp only[Op.eqFields,aad hn,aae,UQ,Iu,zC]
    split at h
    ·rename_i he;rw[hq _ _ _ _ _ _ he ru rv w];simp only[zC,aav,aaM,abk];exact ih b h
    ·rename_i he
     cases h
     rw[hq _ _ _ _ _ _ he ru rv w];simp
    ·cases h
   ·cases h
theorem UW(t:TypeId)(x y:Operand)(a b:Value):∀op,(op=BinOp.eql∨op=.neq)→(eqGuard op t x y a b)=(match a,b with
  | .nilIface,.nilIface=>
   if((match x with| .const _=>true|_=>false)||(match y with| .const _=>true|_=>false))=true then pure ()else do
   if ←Op.eqGuardIn Op.maxDepth t a b then unsupported (.noEntry "binop/eql: two nil values of an interface type with methods, neither of them the literal nil")
  | .agg _,.agg _=>do
   if !(←program).eqGuardType (←program).depth t then return
   if ←Op.eqGuardIn Op.maxDepth t a b then unsupported (.noEntry "binop/eql: two nil values of an interface type with methods, in a part of a struct or an array")
  |_,_=>pure ()):=by
 rintro op (rfl|rfl)<;>rfl
theorem tz(x y:Operand):(isConst x||isConst y)=true→((match x with| .const _=>true|_=>false)||(match y with| .const _=>true|_=>false))=true:=by
 cases x<;>cases y<;>intro h<;>first|rfl|cases h
theorem E0{op:BinOp}{t:TypeId}{x y:Operand}{a b:Value}(KA:op=.eql∨op=.neq)(h1:∀u v,¬(a=.agg u∧b=.agg v))(h2:¬(a=.nilIface∧b=.nilIface)∨(isConst x||isConst y)=true)(w:World) :
  (eqGuard op t x y a b).run P w=.ok () w:=by
 rw[UW t x y a b op KA]
 split
 ·rcases h2 with h2|h2
  ·exact(h2 ⟨rfl,rfl⟩).elim
  ·rw[aad (tz x y h2)];rfl
 ·exact(h1 _ _ ⟨rfl,rfl⟩).elim
 ·rfl
theorem IU{op:BinOp}{t:TypeId}{x y:Operand}{a b:Value}(h:op≠.eql)(k:op≠.neq)(w:World):(eqGuard op t x y a b).run P w=.ok () w:=by
 cases op<;>first|rfl|exact(h rfl).elim|exact(k rfl).elim
theorem Zn{d:TypeDesc}{x y x' y':Value}{b:Bool}(h:zE d x y=some b)(hx:AK ρ x x')(hy:AK ρ y y') :
  (∀u v,¬(x'=.agg u∧y'=.agg v))∧¬(x'=.nilIface∧y'=.nilIface):=by
 unfold zE at h;split at h<;>first|(cases h;done)|skip
 all_goals
  cases hx<;>cases hy<;>exact⟨λu v h=>by simp at h,λh=>by simp at h⟩
theorem Zo{d:TypeDesc}{t:TypeId}{x y x' y':Value}{b:Bool}(h:zE d x y=some b)(hx:AK ρ x x')(hy:AK ρ y y') :
  binOp .eql t x' y'=(do pure (.bool (←Op.equal t x' y')))∧binOp .neq t x' y'=(do pure (.bool (!(←Op.equal t x' y')))):=by
 unfold zE at h;split at h<;>first|(cases h;done)|skip
 all_goals
  cases hx<;>cases hy<;>exact⟨rfl,rfl⟩
theorem p9{eq:Value→Value→Option Bool}{elem:TypeId}{n m:Nat}(hq:∀x y b x' y',eq x y=some b→AK ρ x x'→AK ρ y y'→∀w:World,(Op.equalIn n elem x' y').run P w=.ok b w)
  {xs ys QU VX:Array Value} (hx:Ap ρ xs.toList QU.toList) (hy:Ap ρ ys.toList VX.toList) (w:World):∀(k i:Nat) (b:Bool),nY P eq elem m xs ys k i=some b→
   (forIn (List.range' i k) ((none,()):Option Bool×Unit) (λj _=>do
    if(!(←Op.equalIn n elem (←part elem QU (j*m)) (←part elem VX (j*m))))=true then pure (ForInStep.done (some false,()))else pure (ForInStep.yield (none,()))):Sem (Option Bool×Unit)).run P w=.ok (if b then(none,())else(some false,())) w:=by
 intro k
 induction k with
 |zero=>intro i b h;cases h;simp
 | succ k ih=>
  intro i b h;simp only[nY]at h
  split at h
  ·rename_i u v hu hv;obtain⟨u',UQ,ru⟩:=LY hu hx w;obtain⟨v',Iu,rv⟩:=LY hv hy w;simp only[List.range'_succ,List.forIn_cons,aae,UQ,Iu,zC]
   split at h
   ·rename_i he;rw[hq _ _ _ _ _ he ru rv w];simp only[zC,aav,aaM,abk,aak];exact ih (i+1) b h
   ·rename_i he
    cases h
    rw[hq _ _ _ _ _ he ru rv w];simp
   ·cases h
  ·cases h
theorem PX:∀(n:Nat) (t:TypeId) (x y:Value) (b:Bool) (x' y':Value),fE P n t x y=some b→AK ρ x x'→AK ρ y y'→∀(m:Nat),n≤m→∀w:World,(Op.equalIn m t x' y').run P w=.ok b w:=by
 intro n
 induction n with
 |zero=>intro t x y b x' y' h;cases h
 | succ n ih=>
  intro t x y b x' y' h hx hy m hm w;obtain⟨m,rfl⟩:∃k,m=k+1:=⟨m-1,by omega⟩
  have hm:n≤m:=by omega
  simp only[fE]at h
  split at h
  ·cases h
  rename_i d hd
  split at h
  ·rename_i fs xs ys;rw[cond_eq_ite]at h
   split at h
   ·cases h
   ·rename_i hs;have hs:P.stoodInHeld t=false:=by simpa using hs
    obtain⟨QU,rfl,rx⟩:=hx.GP;obtain⟨VX,rfl,ry⟩:=hy.GP;have hf:P.fieldsOf t=fs:=by simp[Program.fieldsOf,hd]
    rw[run_equalIn_struct (P:=P) w m t QU VX (by rw[hf];exact hd) hs,hf];exact fP (λt x y b x' y' h1 h2 h3 w=>ih t x y b x' y' h1 h2 h3 m hm w) rx ry w _ _ h
  ·rename_i len elem xs ys;obtain⟨QU,rfl,rx⟩:=hx.GP;obtain⟨VX,rfl,ry⟩:=hy.GP
   split at h
   ·rename_i s hs;have:=p9 (m:=s) (λx y b x' y' h1 h2 h3 w=>ih elem x y b x' y' h1 h2 h3 m hm w) rx ry w len 0 b h;rw[Op.equalIn];simp only[aae,AF hd,zC,BH hs,Std.Legacy.Range.forIn_eq_forIn_range',Std.Legacy.Range.size,acQ,Nat.add_sub_cancel,Nat.div_one];rw[this]
    cases b<;>simp
   ·cases h
  ·rename_i k1 a k2 b2;rw[cond_eq_ite]at h
   split at h
   ·rename_i hk;have hk:k1=k2:=by simpa using hk
    subst hk
    cases h;cases hx;cases hy
    rw[Op.equalIn];simp only[aae,AF hd,zC,aaA,aak]
   ·cases h
  ·rename_i a b2
   cases h;cases hx;cases hy
   rw[Op.equalIn];simp only[aae,AF hd,zC,aak,S1,beq_toListBytes]
  ·exact S7 hd h hx hy w m
theorem UX{op:BinOp}{t:TypeId}{x y:Operand}{xs ys:Array Value}(KA:op=.eql∨op=.neq)(hg:P.eqGuardType P.depth t=false)(w:World) :
  (eqGuard op t x y (.agg xs) (.agg ys)).run P w=.ok () w:=by
 rw[UW t x y _ _ op KA];simp only[aae,run_program,zC,hg,aaY,aaA,aak]
theorem Zp(t:TypeId)(xs ys:Array Value):binOp .eql t (.agg xs) (.agg ys)=(do pure (.bool (←Op.equal t (.agg xs) (.agg ys))))∧binOp .neq t (.agg xs) (.agg ys)=(do pure (.bool (!(←Op.equal t (.agg xs) (.agg ys))))):=⟨rfl,rfl⟩
theorem UY{t:TypeId}{m:Array (String×TypeId)}(ht:P.underlying t=some (.interface m))(n:Nat)(w:World):(Op.equalIn (n+1) t .nilIface .nilIface).run P w=.ok true w:=by
 rw[Op.equalIn];simp only[aae,AF ht,zC,aak]
theorem Zq(t:TypeId):binOp .eql t .nilIface .nilIface=(do pure (.bool (←Op.equal t .nilIface .nilIface)))∧binOp .neq t .nilIface .nilIface=(do pure (.bool (!(←Op.equal t .nilIface .nilIface)))):=⟨rfl,rfl⟩
theorem kM{op:BinOp}{t:TypeId}{x y:Operand}{vx vy UU vy' v:Value}(h:CF P op t (isConst x||isConst y) vx vy=some v)(hx:AK ρ vx UU)(hy:AK ρ vy vy')(w:World) :
  ∃v',(do eqGuard op t x y UU vy';binOp op t UU vy':Sem Value).run P w=.ok v' w∧AK ρ v v':=by
 unfold CF at h
 split at h
 ·rw[cond_eq_ite]at h
  split at h
  ·cases h
  ·rename_i hb
   cases h
   cases hx;cases hy
   simp only[decide_eq_true_eq]at hb;exact⟨_,by simp only[aae,IU (op:=.shl) (by simp) (by simp),zC,binOp,Op.shift,hb,abk,aak],.int _ _⟩
 ·rw[cond_eq_ite]at h
  split at h
  ·cases h
  ·rename_i hb
   cases h
   cases hx;cases hy
   simp only[decide_eq_true_eq]at hb;exact⟨_,by simp only[aae,IU (op:=.shr) (by simp) (by simp),zC,binOp,Op.shift,hb,abk,aak],.int _ _⟩
 ·rename_i k a k' b h1 h2;rw[cond_eq_ite]at h
  split at h
  ·rename_i hk;have hk:k=k':=by simpa using hk
   subst hk
   cases hx;cases hy
   obtain⟨hr,hv⟩:=kJ (P:=P) (ρ:=ρ) (t:=t) h w;refine⟨v,?_,hv⟩
   have hg:(eqGuard op t x y (.int k a) (.int k b)).run P w=.ok () w:=by
    by_cases e1:op=.eql
    ·exact E0 (.inl e1) (λu v h=>by simp at h) (.inl λh=>by simp at h) w
    ·by_cases e2:op=.neq
     ·exact E0 (.inr e2) (λu v h=>by simp at h) (.inl λh=>by simp at h) w
     ·exact IU e1 e2 w
   simp only[aae,hg,zC,hr]
  ·cases h
 ·rename_i a b
  cases hx;cases hy
  obtain⟨hr,hv⟩:=kL (P:=P) (ρ:=ρ) (t:=t) h w;refine⟨v,?_,hv⟩
  have hg:(eqGuard op t x y (.string a) (.string b)).run P w=.ok () w:=by
   by_cases e1:op=.eql
   ·exact E0 (.inl e1) (λu v h=>by simp at h) (.inl λh=>by simp at h) w
   ·by_cases e2:op=.neq
    ·exact E0 (.inr e2) (λu v h=>by simp at h) (.inl λh=>by simp at h) w
    ·exact IU e1 e2 w
  simp only[aae,hg,zC,hr]
 ·rw[cond_eq_ite]at h
  split at h
  ·cases h
  ·rename_i hg;have hg:P.eqGuardType P.depth t=false:=by simpa using hg
   rw[aaw]at h;obtain⟨b,hb,rfl⟩:=h;obtain⟨QU,rfl,_⟩:=hx.GP;obtain⟨VX,rfl,_⟩:=hy.GP;refine⟨.bool b,?_,.bool _⟩;simp only[aae,UX (.inl rfl) hg,zC,(Zp t QU VX).1,IE,PX 20 _ _ _ _ _ _ hb hx hy 10000 (by omega),aak]
 ·rw[cond_eq_ite]at h
  split at h
  ·cases h
  ·rename_i hg;have hg:P.eqGuardType P.depth t=false:=by simpa using hg
   rw[aaw]at h;obtain⟨b,hb,rfl⟩:=h;obtain⟨QU,rfl,_⟩:=hx.GP;obtain⟨VX,rfl,_⟩:=hy.GP;refine⟨.bool (!b),?_,.bool _⟩;simp only[aae,UX (.inr rfl) hg,zC,(Zp t QU VX).2,IE,PX 20 _ _ _ _ _ _ hb hx hy 10000 (by omega),aak]
 ·split at h
  ·rename_i m hm;rw[cond_eq_ite]at h
   split at h
   ·rename_i hc
    cases h
    cases hx;cases hy
    refine⟨.bool true,?_,.bool _⟩;simp only[aae,E0 (a:=.nilIface) (b:=.nilIface) (.inl rfl) (λu v h=>by simp at h) (.inr hc),zC,(Zq t).1,IE,UY hm,aak]
   ·cases h
  ·cases h
 ·split at h
  ·rename_i m hm;rw[cond_eq_ite]at h
   split at h
   ·rename_i hc
    cases h
    cases hx;cases hy
    refine⟨.bool false,?_,.bool _⟩;simp only[aae,E0 (a:=.nilIface) (b:=.nilIface) (.inr rfl) (λu v h=>by simp at h) (.inr hc),zC,(Zq t).2,IE,UY hm,aak];rfl
   ·cases h
  ·cases h
 ·split at h
  ·rename_i d hd;rw[aaw]at h;obtain⟨b,hb,rfl⟩:=h;obtain⟨s1,s2⟩:=Zn hb hx hy;refine⟨.bool b,?_,.bool _⟩;simp only[aae,E0 (.inl rfl) s1 (.inl s2),zC,(Zo (t:=t) hb hx hy).1,IE,S7 hd hb hx hy,aak]
  ·cases h
 ·split at h
  ·rename_i d hd;rw[aaw]at h;obtain⟨b,hb,rfl⟩:=h;obtain⟨s1,s2⟩:=Zn hb hx hy;refine⟨.bool (!b),?_,.bool _⟩;simp only[aae,E0 (.inr rfl) s1 (.inl s2),zC,(Zo (t:=t) hb hx hy).2,IE,S7 hd hb hx hy,aak]
  ·cases h
 ·cases h
theorem t_{op:BinOp}{t t2:TypeId}{x y:Operand}(ho:o.op=.binOp op t x y t2)(h:BF P o e W=some outs)(hw:AU P w0 ρ W w)(hx:AK ρ (e x) (e' x))(hy:AK ρ (e y) (e' y)) :
  A3 P w0 ρ W ((execOp e' o).run P w) outs:=by
 simp only[BF,ho]at h;obtain⟨v,hv,rfl⟩:=FF h;obtain⟨v',hr,Iu⟩:=kM hv hx hy w;refine .value hw ?_ Iu;simp only[execOp,ho];exact A9 hr
end
section
variable {P:Program}{w0:World}{ρ:Bk}{W:CW}{w:World}{o:Oper}{e e':Operand→Value}{outs:List (BQ×CW)}
theorem Ap.set{c c':Array Value}(h:Ap ρ c.toList c'.toList){v v':Value}(hv:AK ρ v v')(i:Nat):Ap ρ (c.setIfInBounds i v).toList (c'.setIfInBounds i v').toList:=by
 rw[Ap.arr]at h ⊢;refine⟨by simp[h.1],λj hj=>?_⟩;rw[abA]at hj;have hj':j<c'.size:=h.1▸hj;have h2:=h.2 j hj;simp only[aal]at h2 ⊢;rw[aaT,aaT]
 by_cases e:i=j
 ·rw[aad e,aad e,aad (by omega),aad (by omega)];exact hv
 ·rw[aac e,aac e];exact h2
theorem Y_(off:Nat):∀(vs vs':List Value) (k:Nat) (c c':Array Value),Ap ρ vs vs'→Ap ρ c.toList c'.toList→
  Ap ρ ((vs.zipIdx k).foldl (λcs (p:Value×Nat)=>cs.setIfInBounds (off+p.2) p.1) c).toList ((vs'.zipIdx k).foldl (λcs (p:Value×Nat)=>cs.setIfInBounds (off+p.2) p.1) c').toList:=by
 intro vs
 induction vs with
 |nil=>
  intro vs' k c c' h hc
  cases vs' with
  |nil=>exact hc
  |cons y ys=>have:=h.1;simp at this
 | cons x xs ih=>
  intro vs' k c c' h hc
  cases vs' with
  |nil=>have:=h.1;simp at this
  |cons y ys=>
   simp only[List.zipIdx_cons,abe];exact ih ys (k+1) _ _ h.tail (hc.set h.head _)
inductive b_(ρ:Bk):List (Nat×Value)→List (Nat×Value)→Prop
 |nil:b_ ρ [] []
 |cons (i:Nat) {v v':Value} {xs ys:List (Nat×Value)}:AK ρ v v'→b_ ρ xs ys→b_ ρ ((i,v)::xs) ((i,v')::ys)
theorem b_.map(xs:List (Nat×Operand))(h:∀p,p∈xs→AK ρ (e p.2) (e' p.2)):b_ ρ (xs.map λ(i,x)=>(i,e x)) (xs.map λ(i,x)=>(i,e' x)):=by
 induction xs with
 |nil=>exact .nil
 |cons p xs ih=>exact .cons _ (h p (by simp)) (ih λq hq=>h q (by simp[hq]))
theorem WV(place:Nat→Option (Nat×Nat)):∀{xs ys:List (Nat×Value)},b_ ρ xs ys→∀{c c' r:Array Value},Ap ρ c.toList c'.toList→Instr.fill place c xs=some r→
  ∃r',Instr.fill place c' ys=some r'∧Ap ρ r.toList r'.toList:=by
 intro xs ys h
 induction h with
 |nil=>
  intro c c' r hc hr;simp only[Instr.fill,aag]at hr;subst hr;exact⟨c',rfl,hc⟩
 | @cons i v v' xs ys hv hp ih=>
  intro c c' r hc hr;rw[Instr.fill]at hr ⊢
  cases kN:place i with
  |none=>rw[kN]at hr;cases hr
  |some q=>
   obtain⟨off,size⟩:=q;rw[kN]at hr;simp only at hr ⊢;have Nc:=hv.cells;have e1:v'.cells.size=v.cells.size:=by have:=Nc.1;simpa using this.symm
   have e2:c'.size=c.size:=by have:=hc.1;simpa using this.symm
   rw[e1,e2]
   split at hr
   ·cases hr
   ·rename_i BM;rw[aac BM];refine ih ?_ hr;rw[←ac5,←ac5,Array.toList_zipIdx,Array.toList_zipIdx];exact Y_ off _ _ 0 _ _ Nc hc
theorem fQ{fs:List Field}{pl:List (Nat×Nat)}(h:(fs.mapM λf=>(De P f.type).map λs=>(f.offset,s))=some pl)(w:World) :
  (fs.mapM λf=>(do pure (f.offset,←sizeOf f.type):Sem (Nat×Nat))).run P w=.ok pl w:=by
 induction fs generalizing pl with
 |nil=>simp only[List.mapM_nil,Option.pure_def,aag]at h;subst h;simp
 | cons f fs ih=>
  rw[acN]at h
  cases hs:De P f.type with
  |none=>simp[hs]at h
  | some s=>
   simp only[hs,abd,Option.bind_eq_bind,acf]at h
   cases hr:(fs.mapM λf=>(De P f.type).map λs=>(f.offset,s))with
   |none=>simp[hr]at h
   |some pl2=>
    simp only[hr,acf,Option.pure_def,aag]at h;subst h;rw[acN];simp only[aae,BH hs,zC,aak,ih hr]
theorem uA(hz:ZP P){t:TypeId}{parts:Array (Nat×Operand)}(ho:o.op=.build t parts)(h:BF P o e W=some outs)(hw:AU P w0 ρ W w)(hp:∀p,p∈parts.toList→AK ρ (e p.2) (e' p.2)) :
  A3 P w0 ρ W ((execOp e' o).run P w) outs:=by
 simp only[BF,ho]at h;obtain⟨v,hv,rfl⟩:=FF h
 split at hv
 ·rename_i z fields MD ht
  split at hv
  ·rename_i PU kN;rw[aaw]at hv;obtain⟨r,hr,rfl⟩:=hv;obtain⟨r',KM,CG⟩:=WV _ (b_.map (e:=e) (e':=e') parts.toList hp) (hz.rel MD ρ).cells hr;refine .value hw (v':=.agg r') ?_ (.fK CG);simp only[execOp,ho];refine A9 ?_
   have hm:(fields.mapM λf=>(do pure (f.offset,←sizeOf f.type):Sem (Nat×Nat))).run P w=.ok PU.toArray w:=by
    have:=fQ kN w;rw[←Array.toArray_toList (xs:=fields),List.mapM_toArray];simp only[Sem.run_map,this,zC]
   simp only[Instr.build,aae,Bi MD,zC,AF ht,hm];have:(λi:Nat=>PU.toArray[i]?)=(λi:Nat=>PU[i]?):=by funext i;simp
   rw[this,ach,KM];rfl
  ·cases hv
 ·rename_i z n elem MD ht
  split at hv
  ·rename_i s hs;rw[aaw]at hv;obtain⟨r,hr,rfl⟩:=hv;obtain⟨r',KM,CG⟩:=WV _ (b_.map (e:=e) (e':=e') parts.toList hp) (hz.rel MD ρ).cells hr;refine .value hw (v':=.agg r') ?_ (.fK CG);simp only[execOp,ho];refine A9 ?_;simp only[Instr.build,aae,Bi MD,zC,AF ht,BH hs];rw[ach,KM];rfl
  ·cases hv
 ·cases hv
theorem OR(hz:ZP P){t:TypeId}{z:Value}(MD:Hr P t=some z)(n:Nat)(hn:n=0∨0<z.cells.size)(k:Nat)(hk:k<n) :
  AK ρ (cellAt .nil z.cells k) (((Array.range n).map (z.cells[· %z.cells.size]!)).getD k undef):=by
 have PW:0<z.cells.size:=by omega
 have Ao:k%z.cells.size<z.cells.size:=Nat.mod_lt _ PW;have h1:cellAt .nil z.cells k=z.cells.getD (k%z.cells.size) undef:=rfl
 have h2:((Array.range n).map (z.cells[· %z.cells.size]!)).getD k undef=z.cells.getD (k%z.cells.size) undef:=by
  simp[aal,hk,Ao]
 rw[h1,h2];have hc:=(hz.rel MD ρ).cells.2 (k%z.cells.size) (by simpa using Ao)
 simpa[aal,aaj]using hc
theorem Nf(hz:ZP P){t:TypeId}{len:Nat}{parts:Array (Nat×Operand)}(ho:o.op=.buildSlice t len parts){v:Value}{W W1:CW}(h:BF P o e W=some [(.value v,W1)])(hp:∀p,p∈parts.toList→AK ρ (e p.2) (e' p.2)) :
  ∃(cs r':Array Value) (elem:TypeId) (s:Nat),De P elem=some s∧v=.slice (some ⟨W.sz,0,none⟩) len len∧W1=W.new (.cells (Tr.nil.AS 0 cs.toList) cs.size #[] elem)∧Ap ρ cs.toList r'.toList∧
   ∀w,(execOp e' o).run P w=.ok (.value (.slice (some ⟨w.heap.size,0,none⟩) len len)) {w with heap:=w.heap.push (.cells r' elem)}:=by
 simp only[BF,ho]at h;obtain⟨v',ZA,hv,he⟩:=JS h;simp only[abK,aar,BQ.value.injEq,and_true]at he;obtain⟨rfl,rfl⟩:=he
 split at hv
 ·rename_i elem ht;obtain⟨s,hs,hv⟩:=AY hv;obtain⟨z,MD,hv⟩:=AY hv;rw[cond_eq_ite]at hv
  split at hv
  ·rename_i BM;simp only[dy]at BM;have hle:=aam BM.1;have Hs:=aab BM.2
   split at hv
   ·rename_i cs AFC;simp only[aag,aar]at hv;obtain⟨rfl,rfl⟩:=hv
    have hzero:len*s=0∨0<z.cells.size:=by
     rw[Hs]
     rcases abM s with h0|h0
     ·left;rw[h0];rfl
     ·exact .inr h0
    have AFD:Ap ρ ((BE .nil z.cells (len*s) 0).toArray).toList ((Array.range (len*s)).map (z.cells[· %z.cells.size]!)).toList:=by
     refine⟨by simp[Aw],λi hi=>?_⟩;have hi:i<len*s:=by simpa[Aw]using hi
     have:=OR (ρ:=ρ) hz MD (len*s) hzero i hi;have e1:=FY .nil z.cells (len*s) 0 i hi;rw[aa0]at e1;simp only[e1];rw[aal,←aba]at this;rw[aaj];exact this
    obtain⟨r',KM,CG⟩:=WV _ (b_.map (e:=e) (e':=e') parts.toList hp) AFD AFC;refine⟨cs,r',elem,s,hs,rfl,rfl,CG,λw=>?_⟩;simp only[execOp,ho];refine A9 ?_;have S9:¬len*s>2^24:=by omega
    have kO:∀f g:Nat→Value,len*s=0→(Array.range (len*s)).map f=(Array.range (len*s)).map g:=λf g h0=>by simp[h0]
    simp only[Instr.buildSlice,aae,AF ht,zC,BH hs];rw[aac S9]
    by_cases h0:len*s=0
    ·rw[aad h0];simp only[aae,aak,zC];rw[kO _ (z.cells[· %z.cells.size]!) h0,ach,KM];simp[newRow]
    ·rw[aac h0];simp only[aae,Bi MD,aak,zC];rw[ach,KM];simp[newRow]
   ·cases hv
  ·cases hv
 ·cases hv
theorem ZB(hz:ZP P){t:TypeId}{len:Nat}{parts:Array (Nat×Operand)}(ho:o.op=.buildSlice t len parts)(h:BF P o e W=some outs)(hw:AU P w0 ρ W w)(hp:∀p,p∈parts.toList→AK ρ (e p.2) (e' p.2)) :
  A3 P w0 ρ W ((execOp e' o).run P w) outs:=by
 have h2:=h;simp only[BF,ho]at h2;obtain⟨v,W1,_,rfl⟩:=JS h2;obtain⟨cs,r',elem,s,hs,rfl,rfl,CG,HR⟩:=Nf hz ho h hp
 obtain⟨ρ',C2,_,I_,ha⟩:=Q_ hw (c:=Tr.nil.AS 0 cs.toList) (z:=#[]) (n:=cs.size) (c':=r') hs (by simpa using CG.1.symm) (λk hk=>by
  rw[B6 _ _ _ (by simpa using hk)];have:=CG.2 k (by simpa using hk)
  simpa[aal,aaj]using this)
 exact⟨_,_,ρ',dx.2 rfl,C2,.value (w:={w with heap:=w.heap.push (.cells r' elem)}) (HR w) (.slice _ ha (.inl rfl)) I_⟩
theorem O4{t elem:TypeId}{k1 k2:IntKind}{ln cp:Int}{s:Nat}{z:Value}(ht:P.underlying t=some (.slice elem))(hs:De P elem=some s)(MD:Hr P elem=some z)(c1:0≤ln)(c2:ln≤cp)(c3:cp≤2000000)
  (c4:(P.info? elem).map (·.bytes)|>.getD 0|>(·≤1024)) (w:World) :
  (Instr.makeSlice t (.int k1 ln) (.int k2 cp)).run P w=.ok (.slice (some ⟨w.heap.size,0,none⟩) ln.toNat cp.toNat) {w with heap:=w.heap.push (.cells ((Array.range (cp.toNat*s)).map (z.cells[· %z.cells.size]!)) elem)}:=by
 obtain⟨info,fR⟩:∃i,P.info? elem=some i:=by
  unfold De at hs
  cases hi:P.info? elem with
  |none=>simp[hi]at hs
  |some i=>exact⟨i,rfl⟩
 have hb:info.bytes≤1024:=by simpa[fR]using c4
 have w1:IntKind.i64.wrap ln=ln:=by unfold IntKind.wrap;simp[IntKind.bits,IntKind.signed];omega
 have w2:IntKind.i64.wrap cp=cp:=by unfold IntKind.wrap;simp[IntKind.bits,IntKind.signed];omega
 have S9:(info.bytes:Int)*cp≤2^48:=by
  have h1:(info.bytes:Int)*cp≤1024*cp:=Int.mul_le_mul_of_nonneg_right (by omega) (by omega);omega
 have t1:(decide (cp<0)||decide ((info.bytes:Int)*cp>2^48))=false:=by simp;omega
 simp only[Instr.makeSlice,aae,AF ht,zC,asInt,asIntOf,aak,IT fR,w1,w2,aaQ,decide_eq_true_eq];rw[aac (by omega)];simp only[aae,run_askRoom,zC,BH hs];have kO:∀f g:Nat→Value,cp.toNat*s=0→(Array.range (cp.toNat*s)).map f=(Array.range (cp.toNat*s)).map g:=λf g h0=>by simp[h0]
 by_cases h0:cp.toNat*s=0
 ·rw[aad h0];simp only[aae,aak,zC];rw[kO _ (z.cells[· %z.cells.size]!) h0];simp[newRow]
 ·rw[aac h0];simp only[aae,Bi MD,aak,zC,newRow,run_newObj]
theorem cA(hz:ZP P){t:TypeId}{l c:Operand}(ho:o.op=.makeSlice t l c)(h:BF P o e W=some outs)(hw:AU P w0 ρ W w)(hl:AK ρ (e l) (e' l))(hc:AK ρ (e c) (e' c)) :
  A3 P w0 ρ W ((execOp e' o).run P w) outs:=by
 simp only[BF,ho]at h;obtain⟨v,W1,hv,rfl⟩:=JS h
 split at hv
 ·rename_i elem k1 ln k2 cp ht h1 h2;rw[h1]at hl;rw[h2]at hc;generalize e1:e' l=vl at hl;generalize e2:e' c=vc at hc
  cases hl
  cases hc
  obtain⟨s,hs,hv⟩:=AY hv;obtain⟨z,MD,hv⟩:=AY hv;rw[cond_eq_ite]at hv
  split at hv
  ·rename_i BM;simp only[dy,decide_eq_true_eq]at BM;obtain⟨⟨⟨⟨⟨c1,c2⟩,c3⟩,c4⟩,c5⟩,c6⟩:=BM;have c4:=aam c4;have c5:=aab c5;have c6:0<s:=by have:=aam c6;omega
   simp only[aag,aar]at hv;obtain⟨rfl,rfl⟩:=hv;obtain⟨ρ',C2,_,I_,ha⟩:=Q_ hw (c:=.nil) (z:=z.cells) (n:=cp.toNat*s) (c':=(Array.range (cp.toNat*s)).map (z.cells[· %z.cells.size]!)) hs (by simp) (λk hk=>OR hz MD _ (.inr (by omega)) k hk);refine⟨_,_,ρ',dx.2 rfl,C2,.value (w:={w with heap:=w.heap.push (.cells ((Array.range (cp.toNat*s)).map (z.cells[· %z.cells.size]!)) elem)}) ?_ (.slice _ ha (.inl rfl)) I_⟩;simp only[execOp,ho,e1,e2];exact A9 (O4 ht hs MD c1 c2 c3 c4 w)
  ·cases hv
 ·cases hv
end
section
variable {P:Program}{w0:World}{ρ:Bk}{W:CW}{w:World}{o:Oper}{e e':Operand→Value}{outs:List (BQ×CW)}
theorem fS{f:FuncId}{first cap:Array Operand}(ho:o.op=.makeFunc (.func f) first cap)(h:BF P o e W=some outs)(hw:AU P w0 ρ W w)
  (hf:∀x,x∈first.toList→AK ρ (e x) (e' x)) (hc:∀x,x∈cap.toList→AK ρ (e x) (e' x)):A3 P w0 ρ W ((execOp e' o).run P w) outs:=by
 simp only[BF,ho]at h
 cases h
 have h1:=Ap.arr.1 (by simpa using Ap.map (ρ:=ρ) first.toList e e' hf:Ap ρ (first.map e).toList (first.map e').toList);have h2:=Ap.arr.1 (by simpa using Ap.map (ρ:=ρ) cap.toList e e' hc:Ap ρ (cap.map e).toList (cap.map e').toList);refine .value hw ?_ (.func (.func f) h1.1 h1.2 h2.1 h2.2);simp only[execOp,ho];exact A9 (by simp[Instr.makeFunc])
theorem kP{t:TypeId}(ho:o.op=.makeMap t none)(h:BF P o e W=some outs)(hw:AU P w0 ρ W w):A3 P w0 ρ W ((execOp e' o).run P w) outs:=by
 simp only[BF,ho]at h
 cases h
 obtain⟨C2,I_⟩:=hw.new (o:=.map [] 0) (o':=.map #[] 0) ⟨w.heap.size,0,0,0,0⟩ rfl (.map rfl trivial);refine⟨_,_,_,dx.2 rfl,C2,.value (v':=.map (some w.heap.size)) (w:={w with heap:=w.heap.push (.map #[] 0)}) ?_ (.map ⟨⟨w.heap.size,0,0,0,0⟩,by simp,rfl⟩) I_⟩;simp only[execOp,ho];exact A9 (by simp[Instr.makeMap])
theorem cB{t:TypeId}{x:Operand}{i:Nat}(ho:o.op=.fieldAddr t x i)(h:BF P o e W=some outs)(hw:AU P w0 ρ W w)(hx:AK ρ (e x) (e' x)) :
  A3 P w0 ρ W ((execOp e' o).run P w) outs:=by
 simp only[BF,ho]at h;obtain⟨v,hv,rfl⟩:=FF h
 split at hv
 ·rename_i fs a ht hc;rw[hc]at hx;generalize FO:e' x=UU at hx
  cases hx with
  | @ptr _ a' ha=>
   split at hv
   ·rename_i fd jj
    split at hv
    ·rename_i m hm;rw[cond_eq_ite]at hv
     split at hv
     ·cases hv
     ·rename_i nb;have nb:m≠0:=by simpa using nb
      cases hv
      refine .value hw (v':=.pointer (some (a'.add fd.offset))) ?_ (.ptr (Q7 ha _));simp only[execOp,ho,FO];refine A9 ?_;simp only[Instr.fieldAt,aae,AF ht,zC,jj,Instr.sureAddr,aak,fieldPlace,BH hm,aac nb]
    ·cases hv
   ·cases hv
 ·cases hv
theorem Ap.extract{c c':Array Value}(h:Ap ρ c.toList c'.toList)(i j:Nat):Ap ρ (c.extract i j).toList (c'.extract i j).toList:=by
 rw[Ap.arr]at h ⊢;refine⟨by simp[h.1],λk hk=>?_⟩;have hk:k<min j c.size-i:=by simpa using hk
 have h2:=h.2 (i+k) (by omega);have l1:i+k<c.size:=by omega
 have l2:i+k<c'.size:=by omega
 simp only[aal]at h2 ⊢;have g1:(c.extract i j)[k]?=c[i+k]?:=by rw[acm,aad (by omega)]
 have g2:(c'.extract i j)[k]?=c'[i+k]?:=by rw[acm,aad (by omega)]
 rw[g1,g2];exact h2
theorem fT{t:TypeId}{cs jk:Array Value}{off:Nat}{v:Value}(hl:Ap ρ cs.toList jk.toList)
  (h:(agg? P t=some true∧∃m,De P t=some m∧v=.agg (cs.extract off (off+m)))∨(agg? P t=some false∧cs[off]?=some v)) :
  ∃v',(part t jk off).run P w=.ok v' w∧AK ρ v v':=by
 rcases h with⟨ha,m,hm,rfl⟩|⟨ha,hv⟩
 ·refine⟨.agg (jk.extract off (off+m)),?_,.fK (hl.extract _ _)⟩;simp only[part,aae,F7 ha,zC,aaA,BH hm,aak]
 ·obtain⟨y,hy,hr⟩:=hl.get (x:=v) (i:=off) (by simpa using hv);have hy:jk[off]?=some y:=by simpa using hy
  refine⟨y,?_,hr⟩;simp only[part,aae,F7 ha,zC,aaM,abk,hy,aak]
theorem uB{t:TypeId}{x:Operand}{i:Nat}(ho:o.op=.field t x i)(h:BF P o e W=some outs)(hw:AU P w0 ρ W w)(hx:AK ρ (e x) (e' x)) :
  A3 P w0 ρ W ((execOp e' o).run P w) outs:=by
 simp only[BF,ho]at h;obtain⟨v,hv,rfl⟩:=FF h
 split at hv
 ·rename_i fs cs ht hc;rw[hc]at hx;generalize FO:e' x=UU at hx;obtain⟨jk,rfl,hl⟩:=hx.GP
  split at hv
  ·rename_i fd jj
   obtain⟨v',hr,Iu⟩:=fT (P:=P) (w:=w) (t:=fd.type) (off:=fd.offset) (v:=v) hl (by
    split at hv
    ·rename_i m ha hm
     cases hv
     exact .inl ⟨ha,m,hm,rfl⟩
    ·rename_i ha;exact .inr ⟨ha,hv⟩
    ·cases hv)
   refine .value hw ?_ Iu;simp only[execOp,ho,FO];refine A9 ?_;simp only[Instr.field,aae,AF ht,zC,jj,asAgg,aak,hr]
  ·cases hv
 ·cases hv
theorem cC{t:TypeId}{x ix:Operand}(ho:o.op=.indexAddr t x ix)(h:BF P o e W=some outs)(hw:AU P w0 ρ W w)(hx:AK ρ (e x) (e' x))(hi:AK ρ (e ix) (e' ix)) :
  A3 P w0 ρ W ((execOp e' o).run P w) outs:=by
 simp only[BF,ho]at h;obtain⟨v,hv,rfl⟩:=FF h
 split at hv
 ·rename_i k i uC;rw[uC]at hi;generalize FO:e' ix=vi' at hi
  cases hi
  split at hv
  ·rename_i len elem a ht hc;rw[hc]at hx;generalize SZ:e' x=UU at hx
   cases hx with
   | @ptr _ a' ha=>
    obtain⟨s,hs,hv⟩:=AY hv;rw[cond_eq_ite]at hv
    split at hv
    ·rename_i BM;simp only[dy,decide_eq_true_eq]at BM
     cases hv
     refine .value hw (v':=.pointer (some (a'.add (i.toNat*s)))) ?_ (.ptr (Q7 ha _));simp only[execOp,ho,FO,SZ];refine A9 ?_;simp only[Instr.indexAt,aae,asIntOf,aak,zC,AF ht,Instr.sureAddr,aad BM,BH hs]
    ·cases hv
  ·rename_i elem a len cp ht hc;rw[hc]at hx;generalize SZ:e' x=UU at hx
   have:∃a' c',UU=.slice (some a') len c'∧(len=0∨MG ρ a a'):=by
    cases hx with
    |slice _ ha _=>exact⟨_,_,rfl,.inr ha⟩
    |K1 _ _ _ _ _=>exact⟨_,_,rfl,.inl rfl⟩
    |JR _=>exact⟨_,_,rfl,.inl rfl⟩
   obtain⟨a',c',rfl,VY⟩:=this;obtain⟨s,hs,hv⟩:=AY hv;rw[cond_eq_ite]at hv
   split at hv
   ·rename_i BM;simp only[dy,decide_eq_true_eq]at BM
    cases hv
    have ha:MG ρ a a':=VY.resolve_left (by omega);refine .value hw (v':=.pointer (some (a'.add (i.toNat*s)))) ?_ (.ptr (Q7 ha _));simp only[execOp,ho,FO,SZ];refine A9 ?_;simp only[Instr.indexAt,aae,asIntOf,aak,zC,AF ht,aad BM,BH hs]
   ·cases hv
  ·cases hv
 ·cases hv
theorem uD{t:TypeId}{x ix:Operand}(ho:o.op=.index t x ix)(h:BF P o e W=some outs)(hw:AU P w0 ρ W w)(hx:AK ρ (e x) (e' x))(hi:AK ρ (e ix) (e' ix)) :
  A3 P w0 ρ W ((execOp e' o).run P w) outs:=by
 simp only[BF,ho]at h;obtain⟨v,hv,rfl⟩:=FF h
 split at hv
 ·rename_i k i uC;rw[uC]at hi;generalize FO:e' ix=vi' at hi
  cases hi
  split at hv
  ·rename_i len elem cs ht hc;rw[hc]at hx;generalize SZ:e' x=UU at hx;obtain⟨jk,rfl,hl⟩:=hx.GP;rw[cond_eq_ite]at hv
   split at hv
   ·rename_i BM;simp only[dy,decide_eq_true_eq]at BM
    have:∃m,De P elem=some m∧((agg? P elem=some true∧∃n,De P elem=some n∧v=.agg (cs.extract (i.toNat*m) (i.toNat*m+n)))∨(agg? P elem=some false∧cs[i.toNat*m]?=some v)):=by
     split at hv
     ·rename_i m ha hm
      cases hv
      exact⟨m,hm,.inl ⟨ha,m,hm,rfl⟩⟩
     ·rename_i m ha hm;exact⟨m,hm,.inr ⟨ha,hv⟩⟩
     ·cases hv
    obtain⟨m,hm,hp⟩:=this;obtain⟨v',hr,Iu⟩:=fT (P:=P) (w:=w) hl hp;refine .value hw ?_ Iu;simp only[execOp,ho,FO,SZ];refine A9 ?_;simp only[Instr.index,aae,asIntOf,aak,zC,AF ht,aad BM,BH hm,hr]
   ·cases hv
  ·rename_i s ht hc;rw[hc]at hx;generalize SZ:e' x=UU at hx
   cases hx
   rw[cond_eq_ite]at hv
   split at hv
   ·rename_i BM;have BM:0≤i:=by simpa using BM
    cases hs:s[i.toNat]? with
    |none=>rw[hs]at hv;cases hv
    |some b=>
     rw[hs]at hv
     cases hv
     refine .value hw ?_ (.int _ _);simp only[execOp,ho,FO,SZ];refine A9 ?_;simp only[Instr.index,aae,asIntOf,aak,zC,AF ht,aad BM,hs]
   ·cases hv
  ·cases hv
 ·cases hv
theorem uE{t:TypeId}{x:Operand}{lo hi mx:Option Operand}(ho:o.op=.slice t x lo hi mx)(h:BF P o e W=some outs)(hw:AU P w0 ρ W w)(hx:AK ρ (e x) (e' x))
  (hl:∀y,lo=some y→AK ρ (e y) (e' y)) (hh:∀y,hi=some y→AK ρ (e y) (e' y)) (hm:∀y,mx=some y→AK ρ (e y) (e' y)):A3 P w0 ρ W ((execOp e' o).run P w) outs:=by
 simp only[BF,ho]at h;obtain⟨v,hv,rfl⟩:=FF h;have rl:=Mz.map (ρ:=ρ) (f:=e) (g:=e') lo hl;have rh:=Mz.map (ρ:=ρ) (f:=e) (g:=e') hi hh;have rm:=Mz.map (ρ:=ρ) (f:=e) (g:=e') mx hm
 split at hv
 ·rename_i s ht hc;rw[hc]at hx;generalize SZ:e' x=UU at hx
  cases hx
  obtain⟨h',hh',hv⟩:=AY hv;obtain⟨l',Y3,hv⟩:=AY hv;rw[cond_eq_ite]at hv
  split at hv
  ·cases hv
  ·rename_i kG
   cases hv
   have kG:mx=none:=by cases mx<;>simp_all
   subst kG;have hb:=MI (P:=P) (ρ:=ρ) (mx:=none) (mx':=none) (cap:=s.size) (cap':=s.size) (m:=s.size) false rfl hh' Y3 rl rh trivial (aaf _) (by simp);obtain⟨m',hr,_,_⟩:=hb;refine .value hw ?_ (.string _);simp only[execOp,ho,SZ];refine A9 ?_;simp only[Instr.sliceAt,aae,AF ht,zC,Instr.slice,Option.map_none,abL,aaM,abk,aak,hr]
 ·obtain⟨v',hr,Iu⟩:=b9 hw hv hx rl rh rm;refine .value hw ?_ Iu;simp only[execOp,ho];exact A9 hr
theorem ZC(hz:ZP P){x:Operand}{xt t:TypeId}{ok:Bool}(ho:o.op=.typeAssert x xt t ok)(h:BF P o e W=some outs)(hw:AU P w0 ρ W w)(hx:AK ρ (e x) (e' x)) :
  A3 P w0 ρ W ((execOp e' o).run P w) outs:=by
 simp only[BF,ho]at h;obtain⟨v,hv,rfl⟩:=FF h
 split at hv
 ·cases hv
 ·rename_i d u y h1 h2 hce;have hc:P.underlying t=some d:=by first|exact h1|exact h2
  have ht:∀m,d=.interface m→False:=by first|exact h1|exact h2
  rw[hce]at hx;generalize SZ:e' x=UU at hx
  cases hx with
  | @iface _ _ y' hy=>
   rw[cond_eq_ite]at hv;have Dg:∀m,d≠.interface m:=λm hm=>ht m hm
   have run:∀{v':Value},((t=u∧v'=(if ok=true then .tuple #[y',.bool true]else y'))∨(t≠u∧ok=true∧∃z,Hr P t=some z∧v'=.tuple #[z,.bool false]))→
     (Instr.typeAssert (.iface u y') xt t ok).run P w=.ok v' w:=by
    intro v' hr;simp only[Instr.typeAssert,aae,AF hc,zC]
    rcases hr with⟨Zr,rfl⟩|⟨Zr,rfl,z,MD,rfl⟩
    ·cases d<;>first|(exact(Dg _ rfl).elim)|(simp[Zr])
    ·cases d<;>first|(exact(Dg _ rfl).elim)|(simp[abW Zr,Bi MD])
   split at hv
   ·rename_i Zr;have Zr:t=u:=by simpa using Zr
    cases hv
    refine .value hw (v':=if ok=true then .tuple #[y',.bool true]else y') ?_ ?_
    ·simp only[execOp,ho,SZ];exact A9 (run (.inl ⟨Zr,rfl⟩))
    ·cases ok
     ·simpa using hy
     ·simp only[cond_true,aaA];exact .tuple' (.cons hy (.cons (.bool _) (.nil _)))
   ·rename_i Zr;have Zr:¬t=u:=by simpa using Zr
    cases ok
    ·cases hv
    ·simp only[cond_true]at hv;rw[aaw]at hv;obtain⟨z,MD,rfl⟩:=hv;refine .value hw (v':=.tuple #[z,.bool false]) ?_ (.tuple' (.cons (hz.rel MD ρ) (.cons (.bool _) (.nil _))));simp only[execOp,ho,SZ];exact A9 (run (.inr ⟨Zr,rfl,z,MD,rfl⟩))
 ·cases hv
theorem uF{x:Operand}(ho:o.op=.panic x)(h:BF P o e W=some outs)(hw:AU P w0 ρ W w)(hx:AK ρ (e x) (e' x)):A3 P w0 ρ W ((execOp e' o).run P w) outs:=by
 simp only[BF,ho]at h
 split at h
 ·rename_i t y hc
  cases h
  rw[hc]at hx;generalize SZ:e' x=UU at hx
  cases hx with
  | @iface _ _ y' hy=>
   refine⟨_,_,ρ,dx.2 rfl,.refl _,.panic (v':=.iface t y') (w:=w) ?_ (.iface _ hy) hw⟩;simp[execOp,ho,SZ,Instr.panic]
 ·cases h
theorem uG{c:Call}{f:Operand}(ho:o.op=.defer c)(hf:c.callee=.value f)(h:BF P o e W=some outs)(hw:AU P w0 ρ W w)(hx:AK ρ (e f) (e' f))
  (ha:∀x,x∈c.args.toList→AK ρ (e x) (e' x)):A3 P w0 ρ W ((execOp e' o).run P w) outs:=by
 simp only[BF,ho,hf]at h;have DC:Ap ρ (c.args.map e).toList (c.args.map e').toList:=by simpa using Ap.map (ρ:=ρ) c.args.toList e e' ha
 split at h
 ·rename_i fn first cap hc
  cases h
  rw[hc]at hx;generalize SZ:e' f=UU at hx
  cases hx with
  | @func _ f' _ x' _ y' cD h1 h2 h3 h4=>
   cases cD
   refine⟨_,_,ρ,dx.2 rfl,.refl _,.defer (w:=w) (d':={target:=.fn (.func fn) y',args:=x'++c.args.map e'}) ?_ (.fn ?_ ?_) hw⟩
   ·simp only[execOp,ho,resolve,hf,SZ,Deferred.ofValue,aae,aak,zC]
   ·exact Ap.arr.2 ⟨h3,h4⟩
   ·have e1:=Ap.arr.2 ⟨h1,h2⟩
    simpa using e1.append DC
 ·cases h
end
section
variable {P:Program}{w0:World}{ρ:Bk}{W:CW}{w:World}{o:Oper}{e e':Operand→Value}{outs:List (BQ×CW)}
theorem Ar{r:Nat}{u:Obj}(h:w.heap[r]?=some u)(hc:∀c e z,u≠.cells c e z):(getObj r).run P w=.ok u w:=by
 cases u<;>first|exact(hc _ _ _ rfl).elim|simp[getObj,Sem.run,h]
theorem DK{r:Nat}{u:Obj}(h:w.heap[r]?=some u)(hc:∀c e z,u≠.cells c e z)(v:Obj):(setObj r v).run P w=.ok () {w with heap:=w.heap.setIfInBounds r v}:=by
 cases u<;>first|exact(hc _ _ _ rfl).elim|simp[setObj,Sem.run,h]
theorem fU{d:TypeDesc}{k k' v v':Value}{b:Bool}(h:Instr.sameNow d k v=some b)(hk:AK ρ k k')(hv:AK ρ v v'):Instr.sameNow d k' v'=some b:=by
 unfold Instr.sameNow at h ⊢;split at h<;>first|(cases h;done)|skip
 all_goals
  cases hk
  cases hv
  exact h
theorem fV{d:TypeDesc}{k k':Value}(hk:AK ρ k k'):∀{es CO:List MapEntry},Bx ρ es CO→∀{i:Nat} {r:Option (Nat×Value)},Instr.findNow d k es i=some r→
  ∃r',Instr.findNow d k' CO i=some r'∧((r=none∧r'=none)∨∃j v v' en,r=some (j,v)∧r'=some (j,v')∧AK ρ v v'∧i≤j∧CO[j-i]?=some en∧Instr.sameNow d k' en.key=some true):=by
 intro es
 induction es with
 |nil=>
  intro CO uH i r h
  cases CO with
  |nil=>simp only[Instr.findNow,aag]at h;subst h;exact⟨none,rfl,.inl ⟨rfl,rfl⟩⟩
  |cons _ _=>exact uH.elim
 | cons en es ih=>
  intro CO uH i r h
  cases CO with
  |nil=>exact uH.elim
  | cons ed CO=>
   obtain⟨h1,h2⟩:=uH
   cases h1 with
   | @mk k1 v1 zN jl born hkk ZD=>
    rw[Instr.findNow]at h ⊢;simp only at h ⊢
    cases hs:Instr.sameNow d k k1 with
    |none=>rw[hs]at h;cases h
    | some b=>
     have Oq:=fU hs hk hkk;rw[hs]at h;rw[Oq]
     cases b with
     |true=>
      cases h
      exact⟨_,rfl,.inr ⟨i,v1,jl,⟨zN,jl,born⟩,rfl,rfl,ZD,aaf _,by simp,Oq⟩⟩
     |false=>
      obtain⟨r',KM,BD⟩:=ih h2 h;refine⟨r',KM,BD.imp id ?_⟩;rintro⟨j,v,v',en2,e1,e2,e3,e4,e5,e6⟩;refine⟨j,v,v',en2,e1,e2,e3,by omega,?_,e6⟩;have:j-i=(j-(i+1))+1:=by omega
      rw[this];simpa using e5
theorem fW{d:TypeDesc}{k v:Value}(h:Instr.sameNow d k v=some true):Instr.sameBits 10000 v k=true:=by
 unfold Instr.sameNow at h
 split at h<;>first|(cases h;done)|skip
 ·rename_i k1 a k2 b
  split at h
  ·rename_i hk;subst hk;have:a=b:=by simpa using h
   subst this;simp[Instr.sameBits]
  ·cases h
 ·rename_i a b;have h:(a==b)=true:=by simpa using h
  have:a=b:=by
   cases a;cases b
   have h:(_==_)=true:=h;exact ab8 ByteArray.mk (Array.eq_of_isEqv _ _ (show Array.isEqv _ _ (λa b=>a==b)=true from h))
  subst this;exact h
 ·rename_i a b;have:a=b:=by simpa using h
  subst this;simp[Instr.sameBits]
theorem cE{b:Bool}{t:TypeId}{d:TypeDesc}{k:Value}(hu:P.underlying t=some d)(hs:Jh d=true)(w:World):(Instr.checkKey b 10000 t k).run P w=.ok () w:=by
 rw[Instr.checkKey];simp only[aae,AF hu,zC]
 cases d<;>first|(cases hs;done)|rfl
theorem uI(d:TypeDesc)(k v:Value):O1 d k v=Instr.sameNow d k v:=by
 unfold O1
 split
 ·rename_i a b;simp only[Instr.sameNow,S1,beq_toListBytes]
 ·rfl
theorem UZ(d:TypeDesc)(k:Value):∀(es:List MapEntry) (i:Nat),LR d k es i=Instr.findNow d k es i
 |[],_=>rfl
 |e::es,i=>by simp only[LR,Instr.findNow,uI,UZ d k es];rfl
theorem WW{x y x' y':Value}(h:PT x y=true)(hx:AK ρ x x')(hy:AK ρ y y'):x'=y'∧∀n,Instr.sameBits n y' x'=true:=by
 unfold PT at h
 split at h
 ·simp only[dy,decide_eq_true_eq]at h;obtain⟨rfl,rfl⟩:=h
  cases hx;cases hy
  exact⟨rfl,λn=>by cases n<;>simp[Instr.sameBits]⟩
 ·have:=LX h;subst this
  cases hx;cases hy
  exact⟨rfl,λn=>by cases n<;>simp[Instr.sameBits,beq_toListBytes]⟩
 ·have:=eq_of_beq h;subst this
  cases hx;cases hy
  exact⟨rfl,λn=>by cases n<;>simp[Instr.sameBits]⟩
 ·cases h
theorem RA:∀{xs ys QU VX:List Value},QW xs ys=true→Ap ρ xs QU→Ap ρ ys VX→QU=VX∧∀n,((VX.zip QU).all λ(x,y)=>Instr.sameBits n x y)=true
 |[],[],QU,VX,_,hx,hy=>by
  have h1:QU=[]:=aaF.1 hx.1.symm;have h2:VX=[]:=aaF.1 hy.1.symm;subst h1 h2;exact⟨rfl,λ_=>rfl⟩
 |x::xs,y::ys,[],_,_,hx,_=>by have:=hx.1;simp at this
 |x::xs,y::ys,_::_,[],_,_,hy=>by have:=hy.1;simp at this
 |x::xs,y::ys,x'::QU,y'::VX,h,hx,hy=>by
  simp only[QW,dy]at h;obtain⟨e1,e2⟩:=WW h.1 hx.head hy.head;obtain⟨e3,e4⟩:=RA h.2 hx.tail hy.tail;exact⟨by rw[e1,e3],λn=>by simp only[abj,abp,e2 n,e4 n,ab9]⟩
 |[],_::_,_,_,h,_,_=>by cases h
 |_::_,[],_,_,h,_,_=>by cases h
theorem fX{k v k' v':Value}(h:bg k v=true)(hk:AK ρ k k')(hv:AK ρ v v'):Instr.sameBits 10000 v' k'=true:=by
 unfold bg at h
 split at h
 ·obtain⟨QU,rfl,hx⟩:=hk.GP;obtain⟨VX,rfl,hy⟩:=hv.GP;obtain⟨e1,e2⟩:=RA h hx hy;have e:QU=VX:=acE e1;rw[show(10000:Nat)=9999+1 from rfl,Instr.sameBits];rw[e2 9999,e];simp
 ·cases h
theorem VG{b:Bool}{n:Nat}{cs jk:Array Value}(hc:Ap ρ cs.toList jk.toList)(w:World):∀(fs:List Field),
  (fs.all fun f=>!(f.name == "_") && (match P.underlying f.type with | some d=>Jh d | none=>false) && (UM P f.type cs f.offset).isSome)=true →
  (forIn fs PUnit.unit (λf _=>do
   if f.name≠"_" then do Instr.checkKey b (n+1) f.type (←part f.type jk f.offset); pure (ForInStep.yield PUnit.unit) else pure (ForInStep.yield PUnit.unit)):Sem PUnit).run P w=.ok PUnit.unit w:=by
 intro fs
 induction fs with
 |nil=>intro _;simp
 | cons f fs ih=>
  intro h; simp only [List.all_cons,Bool.and_eq_true] at h; obtain ⟨⟨⟨h1,h2⟩,h3⟩,h4⟩:=h; have hn:f.name≠"_":=by simpa using h1
  obtain⟨v,hv⟩:=aa8.1 h3;obtain⟨v',Iu,_⟩:=LY hv hc w
  have LM:(Instr.checkKey b (n+1) f.type v').run P w=.ok () w:=by
   split at h2
   ·rename_i d hd;rw[Instr.checkKey];simp only[aae,AF hd,zC]
    cases d<;>first|(cases h2;done)|rfl
   ·cases h2
  simp only[List.forIn_cons,aad hn,aae,Iu,zC,LM,aak];exact ih h4
theorem p_{t:TypeId}{k k':Value}(hk:AK ρ k k'):∀{es CO:List MapEntry},Bx ρ es CO→∀{i:Nat} {r:Option (Nat×Value)},fF P t k es i=some r→
  ∃r',(∀w:World,(Instr.findAsking t k' CO i).run P w=.ok r' w)∧((r=none∧r'=none)∨∃j v v' en,r=some (j,v)∧r'=some (j,v')∧AK ρ v v'∧i≤j∧CO[j-i]?=some en∧Instr.sameBits 10000 en.key k'=true):=by
 intro es
 induction es with
 | nil=>
  intro CO he i r h
  cases CO with
  |cons=>exact he.elim
  |nil=>
   simp only[fF,aag]at h;subst h;exact⟨none,λw=>by simp[Instr.findAsking],.inl ⟨rfl,rfl⟩⟩
 | cons en es ih=>
  intro CO he i r h
  cases CO with
  |nil=>exact he.elim
  | cons ed CO=>
   obtain⟨h1,h2⟩:=he
   cases h1 with
   | @mk k1 v1 zN jl b hkk ZD=>
    simp only[fF]at h
    have run:∀(b:Bool),fE P 20 t k k1=some b→∀w:World,(Op.equal t k' zN).run P w=.ok b w:=λb hb w=>by
     rw[IE];exact PX 20 _ _ _ _ _ _ hb hk hkk 10000 (by omega) w
    split at h
    ·rename_i WX;rw[cond_eq_ite]at h
     split at h
     ·rename_i AFE
      cases h
      refine⟨some (i,jl),λw=>by simp only[Instr.findAsking,aae,run true WX,zC,aaA,aak],.inr ⟨i,v1,jl,_,rfl,rfl,ZD,aaf _,by simp;rfl,?_⟩⟩;exact fX AFE hk hkk
     ·cases h
    ·rename_i WX;obtain⟨r',KM,BD⟩:=ih h2 h;refine⟨r',λw=>by simp only[Instr.findAsking,aae,run false WX,zC,aaM,abk,KM],BD.imp id ?_⟩;rintro⟨j,v,v',en,e1,e2,e3,e4,e5,e6⟩;refine⟨j,v,v',en,e1,e2,e3,by omega,?_,e6⟩;have:j-i=(j-(i+1))+1:=by omega
     rw[this];simpa using e5
    ·cases h
theorem Ng{t:TypeId}{k k':Value}{es CO:List MapEntry}{r:Option (Nat×Value)}(h:O2 P t k es=some r)(hk:AK ρ k k')(he:Bx ρ es CO) :
  ∃r',(∀(b:Bool) (w:World),(Instr.checkKey b 10000 t k').run P w=.ok () w)∧(∀w:World,(Instr.findKey t k' CO).run P w=.ok r' w)∧
   ((r=none∧r'=none)∨∃j v v' en,r=some (j,v)∧r'=some (j,v')∧AK ρ v v'∧CO[j]?=some en∧Instr.sameBits 10000 en.key k'=true):=by
 unfold O2 at h
 cases hd:P.underlying t with
 |none=>rw[hd]at h;cases h
 | some d=>
  rw[hd]at h;simp only[cond_eq_ite]at h
  split at h
  ·rename_i hs;rw[UZ]at h;obtain⟨r',KM,BD⟩:=fV hk he h
   refine⟨r',λb w=>cE hd hs w,λw=>?_,BD.imp id ?_⟩
   ·simp only[Instr.findKey,aae,AF hd,zC,KM,aak]
   ·rintro⟨j,v,v',en,e1,e2,e3,_,e5,e6⟩;exact⟨j,v,v',en,e1,e2,e3,by simpa using e5,fW e6⟩
  ·split at h
   ·rename_i hf;unfold nZ at hf;rw[hd]at hf
    split at hf
    ·rename_i fs cs eh
     cases eh
     simp only[dy]at hf;obtain⟨zO,uJ⟩:=hf;obtain⟨jk,rfl,hc⟩:=hk.GP;obtain⟨r',KM,BD⟩:=p_ hk he h
     refine⟨r',λb w=>?_,λw=>?_,BD.imp id ?_⟩
     ·have:=VG (P:=P) (b:=b) (n:=9998) hc w fs.toList uJ;rw[show(10000:Nat)=9999+1 from rfl,Instr.checkKey];simp only[aae,AF hd,zC];rw[←Array.forIn_toList,this];rfl
     ·have AIU:Instr.findNow (.struct fs) (.agg jk) CO 0=(match CO with|[]=>some none|_::_=>none):=by
       cases CO with
       |nil=>rfl
       |cons e CO=>simp[Instr.findNow,Instr.sameNow]
      simp only[Instr.findKey,aae,AF hd,zC,AIU]
      cases CO with
      |nil=>have:=KM w;simpa[Instr.findAsking]using this
      |cons e CO=>exact KM w
     ·rintro⟨j,v,v',en,e1,e2,e3,_,e5,e6⟩;exact⟨j,v,v',en,e1,e2,e3,by simpa using e5,e6⟩
    ·cases hf
   ·cases h
theorem AU.Ui(h:AU P w0 ρ W w){r r':Nat}(hr:NY ρ r r'){es:List MapEntry}{Ez:Nat}(ho:W.obj r=some (.map es Ez)) :
  ∃x CO,ρ r=some x∧r'=x.b∧x.o=0∧w.heap[r']?=some (.map CO Ez)∧Bx ρ es CO.toList:=by
 obtain⟨x,hx,rfl⟩:=hr;obtain⟨o',I0,hr⟩:=h.obj ho (by simp) hx rfl
 cases hr with
 |map h1 h2=>exact⟨x,_,hx,rfl,h1,I0,h2⟩
theorem qA(hz:ZP P){t:TypeId}{x k:Operand}{ok:Bool}(ho:o.op=.lookup t x k ok)(h:BF P o e W=some outs)(hw:AU P w0 ρ W w)(hx:AK ρ (e x) (e' x))(hk:AK ρ (e k) (e' k)) :
  A3 P w0 ρ W ((execOp e' o).run P w) outs:=by
 simp only[BF,ho]at h;obtain⟨v,hv,rfl⟩:=FF h
 split at hv
 ·rename_i kt elem ht;obtain⟨z,MD,hv⟩:=AY hv;obtain⟨es,uH,hv⟩:=AY hv;obtain⟨r,hr,hv⟩:=AY hv
  have:∃CO:Array MapEntry,Bx ρ es CO.toList∧((e' x=.map none∧CO=#[])∨∃r Ez,e' x=.map (some r)∧w.heap[r]?=some (.map CO Ez)):=by
   generalize e' x=UU at*
   split at uH
   ·rename_i hc;rw[hc]at hx
    cases hx
    cases uH
    exact⟨#[],trivial,.inl ⟨rfl,rfl⟩⟩
   ·rename_i r0 hc;rw[hc]at hx
    cases hx with
    | map hb=>
     split at uH
     ·rename_i es0 Ez BY
      cases uH
      obtain⟨x,CO,_,_,_,hh,CG⟩:=hw.Ui hb BY;exact⟨CO,CG,.inr ⟨_,_,rfl,hh⟩⟩
     ·cases uH
   ·cases uH
  obtain⟨CO,CG,AB2⟩:=this;obtain⟨r',LM,KN,BD⟩:=Ng hr hk CG
  have HR:∀y:Value×Bool,((r'=none∧y=(z,false))∨∃j,r'=some (j,y.1)∧y.2=true)→
    (Instr.lookup t (e' x) (e' k) ok).run P w=.ok (if ok then .tuple #[y.1,.bool y.2]else y.1) w:=by
   intro y hy
   rcases AB2 with⟨hc,rfl⟩|⟨r,Ez,hc,hh⟩<;>rcases hy with⟨rfl,rfl⟩|⟨j,rfl,h2⟩
   ·simp only[Instr.lookup,aae,AF ht,zC,hc,aak,LM,KN,Bi MD]
   ·simp only[Instr.lookup,aae,AF ht,zC,hc,aak,LM,KN,h2]
   ·simp only[Instr.lookup,aae,AF ht,zC,hc,Ar hh (by simp),aak,LM,KN,Bi MD]
   ·simp only[Instr.lookup,aae,AF ht,zC,hc,Ar hh (by simp),aak,LM,KN,h2]
  rcases BD with⟨rfl,rfl⟩|⟨j,x1,x1',en,rfl,rfl,ym,_,_⟩
  ·cases hv
   refine .value hw ?_ ?_ (v':=if ok then .tuple #[z,.bool false]else z)
   ·simp only[execOp,ho];exact A9 (HR (z,false) (.inl ⟨rfl,rfl⟩))
   ·cases ok
    ·exact hz.rel MD ρ
    ·exact .tuple' (.cons (hz.rel MD ρ) (.cons (.bool _) (.nil _)))
  ·cases hv
   refine .value hw ?_ ?_ (v':=if ok then .tuple #[x1',.bool true]else x1')
   ·simp only[execOp,ho];exact A9 (HR (x1',true) (.inr ⟨j,rfl,rfl⟩))
   ·cases ok
    ·exact ym
    ·exact .tuple' (.cons ym (.cons (.bool _) (.nil _)))
 ·cases hv
theorem Bx.push:∀{es CO:List MapEntry},Bx ρ es CO→∀{a b:MapEntry},bp ρ a b→Bx ρ (es++[a]) (CO++[b])
 |[],[],_,_,_,h=>⟨h,trivial⟩
 |_::_,_::_,h,_,_,k=>⟨h.1,h.2.push k⟩
 |[],_::_,h,_,_,_=>h.elim
 |_::_,[],h,_,_,_=>h.elim
theorem Bx.KI:∀{es CO:List MapEntry},Bx ρ es CO→∀{v v' k k':Value},AK ρ v v'→AK ρ k k'→∀i,Bx ρ (KI v k i es) (CO.modify i λen=>{en with key:=k',val:=v'})
 |[],[],_,_,_,_,_,_,_,i=>by cases i<;>simp[Ce.KI,Bx]
 |en::es,ed::CO,h,_,_,_,_,hv,hk,0=>by
  cases h.1 with
  |mk b _ _=>simp only[Ce.KI,List.modify_zero_cons];exact⟨.mk b hk hv,h.2⟩
 |en::es,ed::CO,h,_,_,_,_,hv,hk,i+1=>by
  simp only[Ce.KI,List.modify_succ_cons];exact⟨h.1,Bx.KI h.2 hv hk i⟩
 |[],_::_,h,_,_,_,_,_,_,_=>h.elim
 |_::_,[],h,_,_,_,_,_,_,_=>h.elim
theorem Bx.MF:∀{es CO:List MapEntry},Bx ρ es CO→∀i,Bx ρ (MF i es) (CO.eraseIdx i)
 |[],[],_,i=>by cases i<;>simp[Ce.MF,Bx]
 |en::es,ed::CO,h,0=>by simp only[Ce.MF,List.eraseIdx_cons_zero];exact h.2
 |en::es,ed::CO,h,i+1=>by simp only[Ce.MF,List.eraseIdx_cons_succ];exact⟨h.1,Bx.MF h.2 i⟩
 |[],_::_,h,_=>h.elim
 |_::_,[],h,_=>h.elim
theorem Bx.length:∀{es CO:List MapEntry},Bx ρ es CO→es.length=CO.length
 |[],[],_=>rfl
 |_::_,_::_,h=>by simp[Bx.length h.2]
 |[],_::_,h=>h.elim
 |_::_,[],h=>h.elim
theorem RB{t:TypeId}{m k x:Operand}(ho:o.op=.mapUpdate t m k x∨o.op=.insert t m k x)(h:BF P o e W=some outs)(hw:AU P w0 ρ W w)(hm:AK ρ (e m) (e' m))(hk:AK ρ (e k) (e' k))(hx:AK ρ (e x) (e' x)) :
  A3 P w0 ρ W ((execOp e' o).run P w) outs:=by
 rcases ho with ho|ho
 all_goals
  simp only[BF,ho]at h;obtain⟨W1,hv,rfl⟩:=ng h
  split at hv
  ·rename_i kt elem r ht hc;rw[hc]at hm;generalize FO:e' m=vm' at hm
   cases hm with
   | @map _ r' hb=>
    split at hv
    ·rename_i es Ez BY;obtain⟨y,CO,hy,rfl,nj,hh,CG⟩:=hw.Ui hb BY;obtain⟨f,hf,hv⟩:=AY hv;obtain⟨r',LM,KN,BD⟩:=Ng hf hk CG
     rcases BD with⟨rfl,rfl⟩|⟨j,x1,x1',en,rfl,rfl,ym,FN,O5⟩
     ·cases hv
      refine⟨_,_,ρ,dx.2 rfl,.refl _,.skip (w:={w with heap:=w.heap.setIfInBounds y.b (.map (CO.push {key:=e' k,val:=e' x,born:=Ez}) (Ez+1))}) ?_ ?_⟩
      ·simp only[execOp,ho,FO];refine kH ?_;simp only[Instr.mapUpdate,aae,AF ht,zC,Ar hh (by simp),LM,KN,DK hh (by simp)]
      ·refine hw.A6 BY rfl hy (.map nj ?_);rw[Array.toList_push];exact CG.push (.mk Ez hk hx)
     ·cases hv
      refine⟨_,_,ρ,dx.2 rfl,.refl _,.skip (w:={w with heap:=w.heap.setIfInBounds y.b (.map (CO.modify j λen=>{en with key:=e' k,val:=e' x}) Ez)}) ?_ ?_⟩
      ·simp only[execOp,ho,FO];refine kH ?_;have AB3:CO[j]?=some en:=by simpa using FN
       simp only[Instr.mapUpdate,aae,AF ht,zC,Ar hh (by simp),LM,KN,Instr.keyThatStays,AB3,abd,abc,O5,aaA,aak,DK hh (by simp)]
      ·refine hw.A6 BY rfl hy (.map nj ?_);rw[Array.toList_modify];exact CG.KI hx hk j
    ·cases hv
  ·cases hv
theorem uK{t:TypeId}{x:Operand}(ho:o.op=.range t x)(h:BF P o e W=some outs)(hw:AU P w0 ρ W w)(hx:AK ρ (e x) (e' x)) :
  A3 P w0 ρ W ((execOp e' o).run P w) outs:=by
 simp only[BF,ho]at h;obtain⟨v,W1,hv,rfl⟩:=JS h;generalize FO:e' x=UU at*
 split at hv
 ·rename_i kt elem ht hc;rw[hc]at hx
  cases hx
  simp only[aag,aar]at hv;obtain⟨rfl,rfl⟩:=hv;obtain⟨C2,I_⟩:=hw.new (o:=.iter none 0 [] 0) (o':=.mapIter none 0 #[] 0) ⟨w.heap.size,0,0,0,0⟩ rfl (.Q5 rfl);refine⟨_,_,_,dx.2 rfl,C2,.value (v':=.pointer (some ⟨w.heap.size,0,none⟩)) (w:={w with heap:=w.heap.push (.mapIter none 0 #[] 0)}) ?_ (.ptr ⟨rfl,⟨w.heap.size,0,0,0,0⟩,by simp,by simp⟩) I_⟩;simp only[execOp,ho,FO];refine A9 ?_;simp[Instr.range,AF ht]
 ·rename_i kt elem r ht hc;rw[hc]at hx
  cases hx with
  | @map _ r' hb=>
   split at hv
   ·rename_i es Ez BY;simp only[aag,aar]at hv;obtain⟨rfl,rfl⟩:=hv;obtain⟨y,CO,hy,rfl,nj,hh,CG⟩:=hw.Ui hb BY;have Ao:=hw.VF r y hy;obtain⟨C2,I_⟩:=hw.new (o:=.iter (some r) Ez [] Ez) (o':=.mapIter (some y.b) Ez [].toArray Ez) ⟨w.heap.size,0,0,0,0⟩ rfl (.iter rfl ⟨y,by simp[show r≠W.sz by omega,hy],rfl⟩);refine⟨_,_,_,dx.2 rfl,C2,.value (v':=.pointer (some ⟨w.heap.size,0,none⟩)) (w:={w with heap:=w.heap.push (.mapIter (some y.b) Ez [].toArray Ez)}) ?_ (.ptr ⟨rfl,⟨w.heap.size,0,0,0,0⟩,by simp,by simp⟩) I_⟩;simp only[execOp,ho,FO];refine A9 ?_;simp[Instr.range,AF ht,Ar hh (by simp)]
   ·cases hv
 ·cases hv
theorem Bx.filter(p:Nat→Bool):∀{es CO:List MapEntry},Bx ρ es CO→Bx ρ (es.filter λe=>p e.born) (CO.filter λe=>p e.born)
 |[],[],_=>trivial
 | en::es,ed::CO,h=>by
  cases h.1 with
  |mk b hk hv=>
   simp only[List.filter_cons]
   cases p b
   ·simpa using Bx.filter p h.2
   ·simpa using⟨.mk b hk hv,Bx.filter p h.2⟩
 |[],_::_,h=>h.elim
 |_::_,[],h=>h.elim
theorem Bx.append:∀{es CO us us':List MapEntry},Bx ρ es CO→Bx ρ us us'→Bx ρ (es++us) (CO++us')
 |[],[],_,_,_,h=>h
 |_::_,_::_,_,_,h,k=>⟨h.1,h.2.append k⟩
 |[],_::_,_,_,h,_=>h.elim
 |_::_,[],_,_,h,_=>h.elim
theorem Bx.get:∀{es CO:List MapEntry},Bx ρ es CO→∀{i:Nat} {b:MapEntry},CO[i]?=some b→∃a,es[i]?=some a∧bp ρ a b
 |[],[],_,i,_,h=>by simp at h
 |a::es,a'::CO,h,0,b,hb=>by simp at hb;subst hb;exact⟨a,rfl,h.1⟩
 |_::es,_::CO,h,i+1,b,hb=>by simpa using Bx.get h.2 (by simpa using hb)
 |[],_::_,h,_,_,_=>h.elim
 |_::_,[],h,_,_,_=>h.elim
theorem Bx.all(p:Nat→Bool):∀{es CO:List MapEntry},Bx ρ es CO→(es.all λe=>p e.born)=(CO.all λe=>p e.born)
 |[],[],_=>rfl
 |en::es,ed::CO,h=>by cases h.1 with|mk b _ _=>simp only[abp,Bx.all p h.2]
 |[],_::_,h=>h.elim
 |_::_,[],h=>h.elim
theorem AU.uL(h:AU P w0 ρ W w){a a':Addr}(ha:MG ρ a a'){m s l:Nat}{seen:List Nat}(ho:W.obj a.block=some (.iter (some m) s seen l)) :
  ∃x m',ρ a.block=some x∧a'=⟨x.b,a.off,none⟩∧x.o=0∧NY ρ m m'∧w.heap[x.b]?=some (.mapIter (some m') s seen.toArray l):=by
 obtain⟨_,x,hx,rfl⟩:=ha;obtain⟨o',I0,hr⟩:=h.obj ho (by simp) hx rfl
 cases hr with
 |iter h1 h2=>exact⟨x,_,hx,by rw[h1];rfl,h1,h2,I0⟩
theorem Bx.find(n:Nat):∀{es CO:List MapEntry},Bx ρ es CO→∀{a:MapEntry},es.find? (λe=>Nat.beq e.born n)=some a→∃b,CO.find? (λe=>e.born==n)=some b∧bp ρ a b
 |[],[],_,_,h=>by simp at h
 |en::es,ed::CO,h,a,ha=>by
  have hb:ed.born=en.born:=by cases h.1 with|mk b _ _=>rfl
  rw[List.find?_cons]at ha ⊢;rw[hb];have e1:Nat.beq en.born n=(en.born==n):=by rw[abm];simp
  rw[e1]at ha
  cases hx:(en.born==n)
  ·rw[hx]at ha;exact Bx.find n h.2 ha
  ·rw[hx]at ha;cases ha;exact⟨ed,rfl,h.1⟩
 |[],_::_,h,_,_=>h.elim
 |_::_,[],h,_,_=>h.elim
theorem uM{x:Operand}(ho:o.op=.entry x)(h:BF P o e W=some outs)(hw:AU P w0 ρ W w)(hx:AK ρ (e x) (e' x)):A3 P w0 ρ W ((execOp e' o).run P w) outs:=by
 simp only[BF,ho]at h;obtain⟨v,hv,rfl⟩:=FF h;generalize FO:e' x=UU at*
 split at hv
 ·rename_i a hc;rw[hc]at hx
  cases hx with
  | @ptr _ a' ha=>
   rw[cond_eq_ite]at hv
   split at hv
   ·cases hv
   rename_i VH;have VH:a.off=0:=by simpa using VH
   split at hv
   ·rename_i r since seen VV BY;obtain⟨y,m',hy,rfl,_,hm,hh⟩:=hw.uL ha BY
    split at hv
    ·rename_i st es Ez Uj uN;obtain⟨y2,CO,hy2,rfl,_,hh2,CG⟩:=hw.Ui hm uN;rw[cond_eq_ite]at hv
     split at hv
     ·rename_i AB4;have AB4:=aab AB4;subst AB4;rw[aaw]at hv;obtain⟨en,FN,rfl⟩:=hv;obtain⟨ed,AB3,hr⟩:=CG.find st FN;have hf:CO.find? (λe=>e.born==st)=some ed:=by rw[←Array.find?_toList];exact AB3
      have hl:seen.toArray.back?=some st:=by simpa[Array.back?_eq_getElem?,List.getLast?_eq_getElem?]using Uj
      refine .value hw (v':=.tuple #[ed.key,ed.val]) ?_ ?_
      ·simp only[execOp,ho,FO];refine A9 ?_;simp[Instr.entry,VH,Ar hh (by simp),Ar hh2 (by simp),hl,hf]
      ·cases hr with
       |mk b h1 h2=>exact .tuple' (.cons h1 (.cons h2 (.nil _)))
     ·cases hv
    ·cases hv
   ·cases hv
 ·cases hv
theorem qB{es CO:List MapEntry}(h:Bx ρ es CO)(since:Nat)(seen:List Nat){c:Option MapEntry}(hc:c∈UN CO since seen) :
  ∃c0,c0∈UN es since seen∧((c0=none∧c=none)∨∃a b,c0=some a∧c=some b∧bp ρ a b):=by
 unfold UN at hc ⊢;have hl:=h.filter (λb=>!seen.contains b);have ho:=hl.filter (λb=>decide (b<since));have hn:=hl.filter (λb=>!decide (b<since));simp only[aaB,aaU]at hc
 rcases hc with hc|⟨b,hb,rfl⟩
 ·have hlen:=ho.length
  refine⟨none,?_,?_⟩
  ·simp only[aaB];left
   cases hx:(List.filter (λe=>decide (e.born<since)) (List.filter (λe=>!seen.contains e.born) CO))with
   |nil=>
    rw[hx]at hlen;have:(List.filter (λe=>decide (e.born<since)) (List.filter (λe=>!seen.contains e.born) es))=[]:=aaF.1 (by simpa using hlen);rw[this];simp
   |cons y ys=>rw[hx]at hc;simp at hc
  ·left;refine⟨rfl,?_⟩;rw[cond_eq_ite]at hc
   split at hc
   ·simpa using hc
   ·simp at hc
 ·rw[←aaB]at hb;obtain⟨i,hi,hbi⟩:=abV hb;obtain⟨a,ha,hr⟩:=(ho.append hn).get (i:=i) (b:=b) (by rw[ck hi,hbi]);refine⟨some a,?_,.inr ⟨a,b,rfl,rfl,hr⟩⟩;simp only[aaB];right;exact ab_ (aai ha)
theorem zP{x:Operand}(ho:o.op=.next x false)(h:BF P o e W=some outs)(hw:AU P w0 ρ W w)(hx:AK ρ (e x) (e' x)):A3 P w0 ρ W ((execOp e' o).run P w) outs:=by
 simp only[BF,ho]at h;generalize FO:e' x=UU at*
 split at h
 ·rename_i a hc;rw[hc]at hx
  cases hx with
  | @ptr _ a' ha=>
   rw[cond_eq_ite]at h
   split at h
   ·cases h
   rename_i VH;have VH:a.off=0:=by simpa using VH
   split at h
   ·rename_i s1 s2 s3 BY
    cases h
    obtain⟨_,y,hy,rfl⟩:=ha;obtain⟨o',I0,hr⟩:=hw.obj BY (by simp) hy rfl
    cases hr with
    |Q5 h0=>
     refine .value hw ?_ (.tuple' (.cons (.bool _) (.nil _))) (v':=.tuple #[.bool false]);simp only[execOp,ho,FO];refine A9 ?_;simp[Instr.next,VH,h0,Ar I0 (by simp)]
   ·rename_i r since seen last BY;obtain⟨y,m',hy,rfl,nj,hm,hh⟩:=hw.uL ha BY
    split at h
    ·rename_i es Ez uN;obtain⟨y2,CO,hy2,rfl,_,hh2,CG⟩:=hw.Ui hm uN;rw[cond_eq_ite]at h
     split at h
     ·cases h
     ·rename_i BM;simp only[aag]at h;subst h
      have uO:(!seen.toArray.isEmpty&& !CO.isEmpty&&CO.all (λe=>decide (e.born≥last)))=false:=by
       have e1:seen.toArray.isEmpty=seen.isEmpty:=by cases seen<;>rfl
       have e2:CO.isEmpty=es.isEmpty:=by
        have:=CG.length
        cases es with
        |nil=>have:CO.size=0:=(by simpa using this.symm);simp[Array.isEmpty,this]
        |cons y ys=>have:CO.size=ys.length+1:=(by simpa using this.symm);simp[Array.isEmpty,this]
       have e3:CO.all (λe=>decide (e.born≥last))=es.all (λe=>!decide (e.born<last)):=by
        rw[←Array.all_toList,CG.all (λb=>!decide (b<last))];congr 1;funext en
        by_cases hb:en.born<last
        ·simp[hb]
        ·simp[hb];omega
       rw[e1,e2,e3]
       simpa using BM
      generalize hC:((if((CO.filter λe=>!seen.toArray.contains e.born).filter λe=>decide (e.born<since)).isEmpty then #[none]else #[])++(((CO.filter λe=>!seen.toArray.contains e.born).filter λe=>decide (e.born<since))++((CO.filter λe=>!seen.toArray.contains e.born).filter λe=>decide (e.born≥since))).map some:Array (Option MapEntry))=C
      have uP:C.toList=UN CO.toList since seen:=by
       have e1:∀n:Nat,seen.toArray.contains n=seen.contains n:=λn=>by simp
       have e2:(λe:MapEntry=>!decide (e.born<since))=(λe:MapEntry=>decide (e.born≥since)):=by
        funext en
        by_cases hb:en.born<since
        ·simp[hb]
        ·simp[hb];omega
       rw[←hC];simp only[UN,e1,e2,Array.toList_append,ach,Array.toList_filter,cond_eq_ite];congr 1;have e3:∀A:Array MapEntry,A.isEmpty=A.toList.isEmpty:=λA=>by rw[abm];simp[Array.isEmpty_iff]
       rw[e3];simp only[Array.toList_filter];split<;>rfl
      have PW:0<C.size:=by
       rw[←abF,uP];unfold UN
       cases hx:(List.filter (λe=>decide (e.born<since)) (List.filter (λe=>!seen.contains e.born) CO.toList))with
       |nil=>simp only[hx,List.isEmpty_nil,cond_true,aah,aap];omega
       |cons y ys=>simp only[hx,aah,aau,aap];omega
      obtain⟨i,w2,Ic,hi,Fq,uQ⟩:∃i w2,(choose (.mapNext C.size)).run P w=.ok i w2∧i<C.size∧AU P w0 ρ W w2∧w2.heap=w.heap:=by
       rw[run_choose]
       split
       ·exact⟨0,w,rfl,PW,hw,rfl⟩
       ·exact⟨_,_,rfl,by simp only[Question.cut];exact Nat.mod_lt _ PW,hw.drew _,rfl⟩
      have uC:C[i]?=some C[i]:=by simp[hi]
      obtain⟨c0,hc0,BD⟩:=qB (c:=C[i]) CG since seen (by rw[←uP];simp);rw[←uQ]at hh hh2
      rcases BD with⟨rfl,hcn⟩|⟨en,ed,rfl,hcn,hr⟩
      ·refine⟨.value (.tuple #[.bool false]),W,ρ,?_,.refl _,.value (v':=.tuple #[.bool false]) (w:=w2) ?_ (.tuple' (.cons (.bool _) (.nil _))) Fq⟩
       ·exact aaU.2 ⟨none,hc0,rfl⟩
       ·simp only[execOp,ho,FO];refine A9 ?_;rw[hcn]at uC;rw[uQ]at hh hh2;simp only[Instr.next,VH,aae,Ar hh (by simp),Ar hh2 (by simp),zC,uO,hC,Ic,uC,aak,aaM,abk]
      ·refine⟨.value (.tuple #[.bool true,en.key,en.val]),W.A6 a.block (.iter (some r) since (seen++[en.born]) Ez),ρ,?_,.refl _,
        .value (v':=.tuple #[.bool true,ed.key,ed.val]) (w:={w2 with heap:=w2.heap.setIfInBounds y.b (.mapIter (some y2.b) since (seen++[en.born]).toArray Ez)}) ?_ ?_ (Fq.A6 BY rfl hy (.iter nj hm))⟩
       ·exact aaU.2 ⟨some en,hc0,rfl⟩
       ·simp only[execOp,ho,FO];refine A9 ?_;rw[hcn]at uC;have AFF:ed.born=en.born:=by cases hr with|mk b _ _=>rfl
        have uR:=DK (P:=P) hh (by simp) (.mapIter (some y2.b) since (seen++[en.born]).toArray Ez);rw[uQ]at hh hh2;have AFG:seen.toArray.push en.born=(seen++[en.born]).toArray:=by simp
        simp only[Instr.next,VH,aae,Ar hh (by simp),Ar hh2 (by simp),zC,uO,hC,Ic,uC,AFF,AFG,uR,aak,aaM,abk]
       ·cases hr with
        |mk b h1 h2=>exact .tuple' (.cons (.bool _) (.cons h1 (.cons h2 (.nil _))))
    ·cases h
   ·cases h
 ·cases h
end
section
variable {P:Program}{w0:World}{ρ:Bk}{W:CW}{w:World}{o:Oper}{e e':Operand→Value}{outs:List (BQ×CW)}
theorem AK.HD{a:Option Addr}{n c:Nat}{v:Value}(h:AK ρ (.slice a n c) v):∃a' c',v=.slice a' n c'∧((a=none∧a'=none∧c'=c)∨∃b b',a=some b∧a'=some b'∧
  ((MG ρ b b'∧Sw ρ b c c')∨(n=0∧c=0∧b.spot=none∧∃x,ρ b.block=some x∧b'.block=x.b∧b'.spot=none∧(c'=0∨(0<x.sz∧b'.off+c'*x.sz=x.n')))∨(n=0∧c=0∧c'=0∧b.spot=some 0))):=by
 cases h with
 |fJ=>exact⟨_,_,rfl,.inl ⟨rfl,rfl,rfl⟩⟩
 |slice _ ha hc=>exact⟨_,_,rfl,.inr ⟨_,_,rfl,rfl,.inl ⟨ha,hc⟩⟩⟩
 |K1 h0 h1 h2 h3 h4=>exact⟨_,_,rfl,.inr ⟨_,_,rfl,rfl,.inr (.inl ⟨rfl,rfl,h0,_,h1,h2,h3,h4⟩)⟩⟩
 |JR h0=>exact⟨_,_,rfl,.inr ⟨_,_,rfl,rfl,.inr (.inr ⟨rfl,rfl,rfl,h0⟩)⟩⟩
theorem Nh(a:Addr)(w:World):(loadCells a 0).run P w=.ok #[] w:=by simp[loadCells,loadCellsFrom]
theorem MK(hw:AU P w0 ρ W w){b:Option Addr}{n c k size:Nat}{v:Value}{l:List Value}(hv:AK ρ (.slice b n c) v)(hk:k≤n)(h:FD b (k*size) W=some l) :
  ∃l':Array Value,(∀d,(Builtin.firstCells size k v).run P {w with drawn:=d}=.ok l' {w with drawn:=d})∧Ap ρ l l'.toList:=by
 obtain⟨a',c',rfl,BD⟩:=hv.HD
 rcases BD with⟨rfl,rfl,_⟩|⟨b,b',rfl,rfl,BD⟩
 ·cases h
  exact⟨#[],λ_=>rfl,.nil _⟩
 ·simp only[FD,cond_eq_ite]at h
  split at h
  ·rename_i h0;have h0:=aab h0
   cases h
   refine⟨#[],?_,.nil _⟩;intro d;simp only[Builtin.firstCells,h0];exact Nh _ _
  rename_i h0;have h0:k*size≠0:=λhh=>h0 (by rw[hh];rfl);have uS:k≠0:=λhh=>h0 (by rw[hh];omega)
  have ha:MG ρ b b':=by
   rcases BD with⟨ha,_⟩|⟨h1,_⟩|⟨h1,_⟩
   ·exact ha
   ·omega
   ·omega
  split at h
  ·rename_i cc kk zz ee BY
   split at h
   ·rename_i hle;have hle:=aam hle
    cases h
    obtain⟨x,c2,fr,hx,rfl,hb,_,_,hn,hs,kE,_,hc⟩:=hw.cells ha BY;refine⟨(DZ c2 (k*size) (b.off+x.o)).toArray,?_,by simpa using fM hc (k*size) b.off hle⟩;intro d;simp only[Builtin.firstCells];exact run_loadCells (w:={w with drawn:=d}) hb _ _ (by omega)
   ·cases h
  ·rename_i ff kk ee BY
   split at h
   ·rename_i hle;have hle:=aam hle
    cases h
    obtain⟨x,c2,_,fr,hx,rfl,hb,hn,hs,kE,_,hc⟩:=hw.fixed ha BY;refine⟨(DZ c2 (k*size) (b.off+x.o)).toArray,?_,by simpa using US hc (k*size) b.off hle⟩;intro d;simp only[Builtin.firstCells];exact run_loadCells (w:={w with drawn:=d}) hb _ _ (by omega)
   ·cases h
  ·cases h
theorem Zs(hw:AU P w0 ρ W w){x x':Value}{n k size:Nat}{l:List Value}(hx:AK ρ x x')(hn:j6 x=some n)(hk:k≤n)(h:Ia x k size W=some l) :
  ∃l':Array Value,(∀d,(Builtin.firstCells size k x').run P {w with drawn:=d}=.ok l' {w with drawn:=d})∧Ap ρ l l'.toList∧∀w:World,(Builtin.lenOf x').run P w=.ok n w:=by
 unfold j6 at hn
 split at hn
 ·rename_i b m c
  cases hn
  simp only[Ia]at h;obtain⟨l',h1,h2⟩:=MK hw hx hk h;obtain⟨b',c',rfl,_⟩:=hx.HD;exact⟨l',h1,h2,λ_=>rfl⟩
 ·rename_i s
  cases hn
  cases hx
  simp only[Ia,cond_eq_ite]at h
  split at h
  ·cases h
   refine⟨(s.extract 0 k).data.map λb=>.int .u8 b.toNat,λd=>rfl,?_,λ_=>rfl⟩
   have:((s.extract 0 k).data.map λb=>Value.int .u8 b.toNat).toList=C_ ((sb s).take k):=by
    simp[C_,sb,ByteArray.data_extract]
   rw[this];exact Ap.map (ρ:=ρ) _ (λb:UInt8=>Value.int .u8 b.toNat) (λb:UInt8=>Value.int .u8 b.toNat) (λ_ _=>.int _ _)
  ·cases h
 ·cases hn
theorem Ap.cF:∀{xs ys:List Value},Ap ρ xs ys→xs.all BG=true→ys.all BG=true
 |[],[],_,_=>rfl
 |x::xs,y::ys,h,hx=>by
  simp only[abp,dy]at hx ⊢;exact⟨by rw[h.head.one];exact hx.1,Ap.cF h.tail hx.2⟩
 |[],_::_,h,_=>by have:=h.1;simp at this
 |_::_,[],h,_=>by have:=h.1;simp at this
theorem AU.kill(h:AU P w0 ρ W w){i:Nat}{o:Am}(ho:W.obj i=some o):AU P w0 ρ (W.A6 i .dead) w:=by
 have get:∀j v,(W.A6 i .dead).h.get j=some v→v≠.dead→W.h.get j=some v∧j≠i:=λj v hv NU=>by
  simp only[CW.A6,Tr.Bc]at hv
  split at hv
  ·cases hv;exact(NU rfl).elim
  ·rename_i e;exact⟨hv,e⟩
 refine⟨h.VF,?_,?_,?_,h.below⟩
 ·intro j v hv;simp only[CW.A6,Tr.Bc]at hv
  split at hv
  ·rename_i e;subst e;exact h.top j o ho
  ·exact h.top j v hv
 ·intro j v y hv NU hy;exact h.live j v y (get j v hv NU).1 NU hy
 ·intro j k u v y z hu s6 hv NU hy hz tr;exact h.inj j k u v y z (get j u hu (Am.ID s6)).1 s6 (get k v hv (Am.ID NU)).1 NU hy hz tr
theorem AU.rename(h:AU P w0 ρ W w){i:Nat}{o u:Am}{u':Obj}{x y:Info}(ho:W.obj i=some o)(hd:o.mut=true)(hx:ρ i=some x)(hb:y.b=x.b)
  (hr:Iz P (λi=>if i=W.sz then some y else ρ i) y u u') (hm:u.mut=true:=by rfl) :
  Ef W ρ ((W.A6 i .dead).new u) (λi=>if i=W.sz then some y else ρ i)∧AU P w0 (λi=>if i=W.sz then some y else ρ i) ((W.A6 i .dead).new u) {w with heap:=w.heap.setIfInBounds x.b u'}:=by
 obtain⟨o',I0,_,ji,_⟩:=h.live i o x ho (Am.ID hd) hx;have ji:=ji hd;have Ao:=(aao.1 I0).1;have hi:=h.top i o ho
 have C2:Ext ρ (λi=>if i=W.sz then some y else ρ i):=λj z hz=>by
  have:=h.VF j z hz;show(if j=W.sz then some y else ρ j)=some z;rw[aac (by omega)];exact hz
 have get:∀j v,((W.A6 i .dead).new u).h.get j=some v→v≠.dead→(j=W.sz∧v=u)∨(j≠W.sz∧j≠i∧W.h.get j=some v):=λj v hv NU=>by
  simp only[CW.new,CW.A6,Tr.Bc]at hv
  split at hv
  ·rename_i e;cases hv;exact .inl ⟨e,rfl⟩
  ·rename_i e
   split at hv
   ·cases hv;exact(NU rfl).elim
   ·rename_i e2;exact .inr ⟨e,e2,hv⟩
 refine⟨⟨C2,λj hj=>by show(if j=W.sz then some y else ρ j)=ρ j;rw[aac (by omega)],Nat.le_succ _⟩,?_,?_,?_,?_,?_⟩
 ·intro j z hz;show j<W.sz+1
  by_cases e:j=W.sz
  ·omega
  ·have:ρ j=some z:=by simpa[e]using hz
   have:=h.VF j z this;omega
 ·intro j v hv;show j<W.sz+1;simp only[CW.new,CW.A6,Tr.Bc]at hv
  split at hv
  ·rename_i e;have e:j=W.sz:=e;omega
  ·split at hv
   ·omega
   ·have:=h.top j v hv;omega
 ·intro j v z hv NU hz
  rcases get j v hv NU with⟨rfl,rfl⟩|⟨e1,e2,hg⟩
  ·have hz:some y=some z:=by simpa using hz
   cases hz
   refine⟨u',?_,hr,λ_=>by rw[hb];exact ji,λhf=>by rw[hm]at hf;cases hf⟩;show(w.heap.setIfInBounds x.b u')[y.b]?=_;rw[hb];simp[Ao]
  ·have hz:ρ j=some z:=by simpa[e1]using hz
   obtain⟨v',Iu,hrv,s7⟩:=h.live j v z hg NU hz;refine⟨v',?_,hrv.mono C2,s7⟩
   have Dg:x.b≠z.b:=λO6=>by
    cases j_:v.mut with
    |true=>exact e2 (h.inj j i v o z x hg j_ ho hd hz hx O6.symm)
    |false=>have:=s7.2 j_;omega
   show(w.heap.setIfInBounds x.b u')[z.b]?=_;rw[aa3 Dg];exact Iu
 ·intro j k v v' z z' hv NU Iu fL hz hz' MD
  rcases get j v hv (Am.ID NU)with⟨rfl,rfl⟩|⟨e1,e2,hg⟩<;>rcases get k v' Iu (Am.ID fL)with⟨rfl,rfl⟩|⟨f1,f2,hg'⟩
  ·rfl
  ·simp only[aaA,aag]at hz;simp only[aac f1]at hz';subst hz;exact(f2 (h.inj k i v' o z' x hg' fL ho hd hz' hx (by rw[←MD,hb]))).elim
  ·simp only[aaA,aag]at hz';simp only[aac e1]at hz;subst hz';exact(e2 (h.inj j i v o z x hg NU ho hd hz hx (by rw[MD,hb]))).elim
  ·simp only[aac e1]at hz;simp only[aac f1]at hz';exact h.inj j k v v' z z' hg NU hg' fL hz hz' MD
 ·exact⟨h.below.os,h.below.tape,h.below.output,by show w0.heap.size≤(w.heap.setIfInBounds x.b u').size;rw[abA];exact h.below.size,λk hk=>by
   show(w.heap.setIfInBounds x.b u')[k]?=_
   rw[aa3 (by omega)];exact h.below.block k hk⟩
theorem Zt(m:Nat):∀(r c:Nat),c≤m+m/4+200→Builtin.growBy m r c≤m+m/4+200
 |0,c,h=>h
 |r+1,c,h=>by
  rw[Builtin.growBy]
  split
  ·exact h
  ·exact Zt m r _ (by omega)
theorem nextslicecap_le(m c:Nat)(h:c<m):Builtin.nextslicecap m c≤2*m+200:=by
 unfold Builtin.nextslicecap
 split
 ·omega
 ·split
  ·omega
  ·have:=Zt m 4 c (by omega);omega
theorem kQ(w:World){ts:Array TypeId}{t u ty:TypeId}{elem:TypeId}{size:Nat}{z:Value}{info:TypeInfo}{base:Option Addr}{sLen sCap n:Nat}{x:Value}{news:Array Value}
  (h0:ts[0]?=some t) (h1:ts[1]?=some u) (hu:JH P u=true) (ht:P.underlying t=some (.slice elem)) (hs:De P elem=some size) (hz:Hr P elem=some z)
  (hi:P.info? elem=some info) (hb:info.bytes≤1024) (hn:sLen+n≤1000000)
  (HS:∀d,(Builtin.firstCells size n x).run P {w with drawn:=d}=.ok news {w with drawn:=d}) (hlen:∀w:World,(Builtin.lenOf x).run P w=.ok n w) :
  (sLen+n≤sCap→(Builtin.append_ ts ty #[.slice base sLen sCap,x]).run P w=
   (do
       if let some a:=base then storeCells (a.add (sLen*size)) news.toList
       pure (.slice base (sLen+n) sCap):Sem Value).run P w)∧
  (sCap<sLen+n→∀old:Array Value,(∀d,(Builtin.firstCells size sLen (.slice base sLen sCap)).run P {w with drawn:=d}=.ok old {w with drawn:=d})→
   ∃nc d,sLen+n≤nc∧(Builtin.append_ ts ty #[.slice base sLen sCap,x]).run P w=
    .ok (.slice (some ⟨w.heap.size,0,none⟩) (sLen+n) nc) {w with drawn:=d,heap:=w.heap.push (.cells (old++news++Builtin.zeroCells z.cells (nc-(sLen+n))) elem)}):=by
 refine⟨λhle=>?_,λAo old hold=>?_⟩
 ·cases hd:P.underlying u with
  |none=>simp[JH,hd]at hu
  | some d=>
   cases d<;>first|(simp[JH,hd]at hu;done)|skip
   all_goals
    simp only[Builtin.append_,h0,h1,acp,acd,ace,aae,AF ht,AF hd,zC,BH hs,aak,aaM,abk,hlen,aad hle,aaY,aaA,HS w.drawn]
    cases base<;>rfl
 ·have hnc:Builtin.nextslicecap (sLen+n) sCap*info.bytes≤2^48:=by
   have h2:=nextslicecap_le (sLen+n) sCap Ao
   calc Builtin.nextslicecap (sLen+n) sCap*info.bytes≤2000200*1024:=adb (by omega) hb
    _≤2^48:=by decide
  refine⟨sLen+n+(w.tape w.drawn (.appendCap (sLen+n) sCap elem))%(2^63-(sLen+n)),w.drawn+1,by omega,?_⟩
  have S9:¬((sLen+n:Nat):Int)>IntKind.i64.max:=by
   have:IntKind.i64.max=9223372036854775807:=by decide
   omega
  have Ie:¬Builtin.nextslicecap (sLen+n) sCap*info.bytes>2^48:=by omega
  cases hd:P.underlying u with
  |none=>simp[JH,hd]at hu
  | some d=>
   cases d<;>first|(simp[JH,hd]at hu;done)|skip
   all_goals
    simp only[Builtin.append_,h0,h1,acp,acd,ace,aae,AF ht,AF hd,zC,BH hs,aak,aaM,abk,hlen,aac (Nat.not_le.2 Ao),aaY,aaA,IT hi,S9,false_and,Ie,run_choose,Question.forced,run_askRoom,Question.cut,Bi hz];have e1:=hold (w.drawn+1);have e2:=HS (w.drawn+1);simp only[e1,e2,zC,Bi hz,newRow,aae,run_newObj,aak]
theorem Uk{old news:List Value}{old' FP rest:Array Value}(h1:Ap ρ old old'.toList)(h2:Ap ρ news FP.toList)(k:Nat)(hk:k<old.length+news.length) :
  AK ρ (cellAt (Tr.nil.AS 0 (old++news)) #[] k) ((old'++FP++rest).getD (k+0) undef):=by
 rw[B6 _ _ _ (by simpa using hk)];have h:=(h1.append h2).2 k (by simpa using hk);have hl:=(h1.append h2).1;have s_:k<(old'.toList++FP.toList).length:=by rw[←hl];simpa using hk
 rw[aaj (l:=old'.toList++FP.toList)]at h
 have e:(old'++FP++rest).getD (k+0) undef=((old'.toList++FP.toList)[k]?).getD undef:=by
  rw[aal,←aba];simp only[Array.toList_append,aa6];rw[aat s_]
 rw[e];exact h
theorem Ni(z:Array Value)(n:Nat):(Builtin.zeroCells z n).size=n*z.size:=by simp[Builtin.zeroCells]
theorem ZE(hw:AU P w0 ρ W w){ts:Array TypeId}{t u ty:TypeId}{s s' x x' v:Value}{W1:CW}(h0:ts[0]?=some t)(h1:ts[1]?=some u)(hu:JH P u=true)
  (h:HN P t s x W=some (v,W1)) (hs:AK ρ s s') (hx:AK ρ x x') :
  ∃v' w' ρ',Ef W ρ W1 ρ'∧(Builtin.append_ ts ty #[s',x']).run P w=.ok v' w'∧AK ρ' v v'∧AU P w0 ρ' W1 w':=by
 unfold HN at h
 split at h
 ·rename_i elem base sLen sCap n ht qC;obtain⟨size,Hs,h'⟩:=AY h;clear h;obtain⟨z,MD,h⟩:=AY h';clear h';obtain⟨news,HS,h'⟩:=AY h;clear h;have h:=h';clear h';rw[cond_eq_ite]at h;split at h
  rotate_left
  ·cases h
  rename_i BM;simp only[dy]at BM;obtain⟨⟨⟨⟨⟨c1,c2⟩,c3⟩,c4⟩,c5⟩,c6⟩:=BM;have c2:=aab c2;have c3:0<size:=by have:=aam c3;omega
  have c4:=aab c4;have c5:=aam c5;have c6:=aam c6
  obtain⟨info,fR⟩:∃i,P.info? elem=some i:=by
   unfold De at Hs
   cases hi:P.info? elem with
   |none=>simp[hi]at Hs
   |some i=>exact⟨i,rfl⟩
  have hb:info.bytes≤1024:=by simpa[fR]using c6
  have MJ:(P.info? elem).map (·.size)=some size:=Hs;obtain⟨FP,ZF,CG,AFH⟩:=Zs hw hx qC (aaf n) HS;have zQ:=hs;obtain⟨O7,JJ,rfl,BD⟩:=hs.HD;obtain⟨R1,R2⟩:=kQ (P:=P) (ty:=ty) (base:=O7) (sLen:=sLen) (sCap:=JJ) w h0 h1 hu ht Hs MD fR hb c5 ZF AFH;have ABM:FP.size=n*size:=by have:=CG.1;simp at this;omega
  have Ie:sCap≤JJ:=by
   rcases BD with⟨_,_,h⟩|⟨b,b',_,_,⟨_,h⟩|⟨_,h,_⟩|⟨_,h,_⟩⟩
   ·omega
   ·rcases h with h|⟨_,_,_,_,_,h⟩<;>omega
   ·omega
   ·omega
  rw[cond_eq_ite]at h
  split at h
  ·rename_i hle;have hle:=aam hle;have R1:=R1 (by omega);rw[cond_eq_ite]at h
   split at h
   ·rename_i VI;have VI:n=0:=aab VI;subst VI;simp only[aag,aar]at h;obtain⟨rfl,rfl⟩:=h;refine⟨.slice O7 sLen JJ,w,ρ,.refl _,?_,zQ,hw⟩;rw[R1]
    have:FP.toList=[]:=by
     have:FP.size=0:=by omega
     simpa using this
    rw[this]
    cases O7<;>simp[storeCells]
   ·rename_i VI;have VI:n≠0:=λh=>VI (by rw[h];rfl)
    rcases BD with⟨rfl,rfl,rfl⟩|⟨b,b',rfl,rfl,BD⟩
    ·simp only[aag,aar]at h;obtain⟨rfl,rfl⟩:=h;exact⟨.slice none (sLen+n) JJ,w,ρ,.refl _,by rw[R1];simp,.fJ _ _,hw⟩
    ·rcases BD with⟨ha,hc⟩|⟨_,h0',_⟩|⟨_,h0',_⟩
     ·simp only at h
      split at h
      ·rename_i c m zz e BY;rw[cond_eq_ite]at h
       split at h
       ·rename_i zR;have zR:=aam zR;simp only[aag,aar]at h;obtain⟨rfl,rfl⟩:=h;obtain⟨x,fY,fr,fZ,rfl,qD,kD,hr,hn,kR,kE,_,FO⟩:=hw.cells ha BY;have Fq:=hw.A6 BY rfl fZ (hr.write (vs:=news) (vs':=FP.toList) CG (k:=b.off+sLen*size) (by omega));refine⟨_,_,ρ,.refl _,?_,.slice _ ha hc,Fq⟩;rw[R1];simp only[aae,NZ];rw[F6 (P:=P) (b.off+x.o+sLen*size) FP.toList 0 w fY qD kD (by simp;omega) (CG.cF c1)];simp only[zC,aak,aa6];have:b.off+x.o+sLen*size=b.off+sLen*size+x.o:=by omega
        rw[this]
       ·cases h
      ·cases h
     ·omega
     ·omega
  ·rename_i hle
   have hle:sCap<sLen+n:=by
    have:¬sLen+n≤sCap:=λhh=>hle (aan hh);omega
   have cG:sLen=0→(∀d,(Builtin.firstCells size sLen (.slice O7 sLen JJ)).run P {w with drawn:=d}=.ok #[] {w with drawn:=d})→JJ<sLen+n→
     v=.slice (some ⟨W.sz,0,none⟩) (sLen+n) (sLen+n)→W1=W.new (.cells (Tr.nil.AS 0 news) ((sLen+n)*size) #[] elem)→
     ∃v' w' ρ',Ef W ρ W1 ρ'∧(Builtin.append_ ts ty #[.slice O7 sLen JJ,x']).run P w=.ok v' w'∧AK ρ' v v'∧AU P w0 ρ' W1 w':=by
    intro VZ hold Ao hv hW;subst hv hW VZ;obtain⟨nc,d,hnc,HR⟩:=R2 Ao #[] hold;have Eg:=hw.drew d
    have AB5:((#[]:Array Value)++FP++Builtin.zeroCells z.cells (nc-(0+n))).size=nc*size:=by
     simp only[Array.size_append,Ni,ABM,c4,acK,aaP];obtain⟨k,rfl⟩:∃k,nc=0+n+k:=⟨nc-(0+n),by omega⟩
     have:0+n+k-(0+n)=k:=by omega
     rw[this,abu,aa0 n];omega
    have C2:Ext ρ (λi=>if i=W.sz then some ⟨w.heap.size,0,size,(0+n)*size,nc*size⟩else ρ i):=λi y hy=>by
     have:=hw.VF i y hy;show(if i=W.sz then _ else ρ i)=some y;rw[aac (by omega)];exact hy
    obtain⟨hg,Fq⟩:=Eg.new (o:=.cells (Tr.nil.AS 0 news) ((0+n)*size) #[] elem) (o':=.cells (#[]++FP++Builtin.zeroCells z.cells (nc-(0+n))) elem (0,0))
     ⟨w.heap.size,0,size,(0+n)*size,nc*size⟩ rfl (by
      refine .cells MJ AB5 ?_ (λk hk=>?_) ⟨NF.zero _,λh=>(h rfl).elim⟩
      ·simp only[aa0];exact aaN _ (by omega)
      ·have:=Uk (ρ:=ρ) (old:=[]) (old':=#[]) (rest:=Builtin.zeroCells z.cells (nc-(0+n))) (.nil _) CG k (by simp[c2];simpa using hk)
       exact this.mono C2)
    refine⟨_,_,_,hg,HR,?_,Fq⟩;refine .slice _ ⟨rfl,⟨w.heap.size,0,size,(0+n)*size,nc*size⟩,by simp,by simp⟩ (.inr ⟨⟨w.heap.size,0,size,(0+n)*size,nc*size⟩,by simp,c3,by simp,by simp,hnc⟩)
   rcases BD with⟨rfl,rfl,rfl⟩|⟨b,b',rfl,rfl,BD⟩
   ·simp only[cond_eq_ite]at h
    split at h
    ·rename_i VZ;have VZ:=aab VZ;simp only[aag,aar]at h;obtain⟨hv,hW⟩:=h;exact cG VZ (λ_=>rfl) (by omega) hv.symm hW.symm
    ·cases h
   ·simp only[cond_eq_ite]at h
    split at h
    ·rename_i I9
     split at h
     ·rename_i VZ;simp only[dy]at VZ;have WY:=aab VZ.1;have Ul:=aab VZ.2;simp only[aag,aar]at h;obtain⟨hv,hW⟩:=h
      have hc0:JJ=0:=by
       rcases BD with⟨ha,_⟩|⟨_,_,hq,_⟩|⟨_,_,h1,_⟩
       ·rw[ha.1]at I9;cases I9
       ·rw[hq]at I9;cases I9
       ·exact h1
      refine cG WY (λd=>?_) (by omega) hv.symm hW.symm;rw[WY];simp only[Builtin.firstCells,abl];exact Nh _ _
     ·cases h
    rename_i I9
    have BD:(MG ρ b b'∧Sw ρ b sCap JJ)∨(sLen=0∧sCap=0∧∃x,ρ b.block=some x∧b'.block=x.b∧b'.spot=none∧(JJ=0∨(0<x.sz∧b'.off+JJ*x.sz=x.n'))):=by
     rcases BD with h1|⟨h1,h2,_,h3⟩|⟨_,_,_,h1⟩
     ·exact .inl h1
     ·exact .inr ⟨h1,h2,h3⟩
     ·rw[h1]at I9;exact(I9 rfl).elim
    clear cG;split at h
    rotate_left
    ·cases h
    rename_i c m zz e BY;split at h
    rotate_left
    ·cases h
    rename_i BM;simp only[dy]at BM;have zR:=aam BM.1;have hee:=aab BM.2;subst hee;simp only[aag,aar]at h;obtain⟨rfl,rfl⟩:=h
    obtain⟨x,fY,q,fr,fZ,hq,qD,kD,hr,kR,VH,Nc⟩:∃x fY q fr,ρ b.block=some x∧b'=⟨x.b,q,none⟩∧w.heap[x.b]?=some (.cells fY e fr)∧NF fr fY.size∧Iz P ρ x (.cells c m zz e) (.cells fY e fr)∧fY.size=x.n'∧
      (JJ=sCap∨(x.sz=size∧q+JJ*size=x.n'))∧(∀k,k<sLen*size→AK ρ (cellAt c zz (b.off+k)) (fY.getD (q+k) undef)):=by
     rcases BD with⟨ha,hc⟩|⟨VZ,hc0,x,fZ,ek,O6,hc⟩
     ·obtain⟨x,fY,fr,fZ,rfl,qD,kD,hr,hn,kR,kE,he,FO⟩:=hw.cells ha BY
      refine⟨x,fY,b.off+x.o,fr,fZ,rfl,qD,kD,hr,kR,?_,λk hk=>?_⟩
      ·rcases hc with hc|⟨y,hy,_,_,h2,_⟩
       ·exact .inl hc
       ·rw[fZ]at hy;cases hy;have:=bu Hs he;rw[this]at h2;exact .inr ⟨this,h2⟩
      ·have:=FO (b.off+k) (by omega);have e1:b.off+k+x.o=b.off+x.o+k:=by omega
       rwa[e1]at this
     ·obtain⟨o',I0,hr⟩:=hw.obj BY (by simp) fZ rfl
      cases hr with
      | cells he Ul kE FO hq=>
       refine⟨x,_,b'.off,_,fZ,?_,I0,hq.1,.cells he Ul kE FO hq,Ul,?_,λk hk=>?_⟩
       ·cases b';simp_all
       ·rcases hc with hc|⟨_,hc⟩
        ·left;omega
        ·have:=bu Hs he;rw[this]at hc;exact .inr ⟨this,hc⟩
       ·rw[VZ]at hk;omega
    subst hq
    by_cases M0:sLen+n≤JJ
    ·have VH:=VH.resolve_left (by omega);have R1:=R1 M0
     have AFI:q+(sLen+n)*size≤x.n':=by
      have:=aaN size M0;omega
     have hmul:(sLen+n)*size=sLen*size+n*size:=abu _ _ _;have nk:news.length=FP.toList.length:=CG.1
     have C2:Ext ρ (λi=>if i=W.sz then some ⟨x.b,q,size,(sLen+n)*size,x.n'⟩else ρ i):=λi y hy=>by
      have:=hw.VF i y hy;show(if i=W.sz then _ else ρ i)=some y;rw[aac (by omega)];exact hy
     obtain⟨hg,Fq⟩:=hw.rename (u:=.cells (Tr.nil.AS 0 (BE c zz (sLen*size) b.off++news)) ((sLen+n)*size) #[] e) (u':=.cells (G3 fY (q+sLen*size) FP.toList) e fr)
      (y:=⟨x.b,q,size,(sLen+n)*size,x.n'⟩) BY rfl fZ rfl (by
       refine .cells MJ (by rw[HQ];exact kR) AFI (λk hk=>?_) ⟨by rw[HQ];exact kD,λh=>(h rfl).elim⟩;have hk:k<(sLen+n)*size:=hk;refine AK.mono (ρ:=ρ) ?_ C2;rw[B6 _ _ _ (by simp[Aw,c2];omega),UR _ _ _ _ (by rw[←nk];omega)];rw[←nk];show AK ρ _ (if q+sLen*size≤k+q∧k+q<q+sLen*size+news.length then FP.toList.getD (k+q-(q+sLen*size)) undef else fY.getD (k+q) undef)
       by_cases qE:k<sLen*size
       ·rw[aac (by omega)];rw[aaj,aat (by rw[Aw];exact qE),←aaj,FY _ _ _ _ _ qE,ac6 k q];exact Nc k qE
       ·rw[aad (by omega)];rw[aaj,aay (by rw[Aw];omega),←aaj,Aw];have e1:k+q-(q+sLen*size)=k-sLen*size:=by omega
        rw[e1]
        exact CG.2 _ (by omega))
     refine⟨.slice (some ⟨x.b,q,none⟩) (sLen+n) JJ,_,_,hg,?_,?_,Fq⟩
     ·rw[R1];simp only[aae,NZ];rw[F6 (P:=P) (q+sLen*size) FP.toList 0 w fY qD kD (by rw[←nk];omega) (CG.cF c1)];simp only[zC,aak,aa6]
     ·refine .slice _ ⟨rfl,⟨x.b,q,size,(sLen+n)*size,x.n'⟩,by simp,by simp⟩ (.inr ⟨⟨x.b,q,size,(sLen+n)*size,x.n'⟩,by simp,c3,by simp,?_,M0⟩);show 0+q+JJ*size=x.n';omega
    ·have hN:FD (some b) (sLen*size) W=some (BE c zz (sLen*size) b.off):=by
      simp only[FD,BY,cond_eq_ite];rw[aad (aan zR)]
      split
      ·rename_i h0;rw[aab h0];rfl
      ·rfl
     obtain⟨old',I0,VY⟩:=MK hw zQ (aaf sLen) hN;obtain⟨nc,d,hnc,HR⟩:=R2 (by omega) old' I0;have Eg:=(hw.kill BY).drew d;have kT:old'.size=sLen*size:=by have:=VY.1;rw[Aw]at this;simpa using this.symm
     have AB5:(old'++FP++Builtin.zeroCells z.cells (nc-(sLen+n))).size=nc*size:=by
      simp only[Array.size_append,Ni,ABM,c4,kT];obtain⟨k,rfl⟩:∃k,nc=sLen+n+k:=⟨nc-(sLen+n),by omega⟩
      have:sLen+n+k-(sLen+n)=k:=by omega
      rw[this,abu,abu]
     have C2:Ext ρ (λi=>if i=W.sz then some ⟨w.heap.size,0,size,(sLen+n)*size,nc*size⟩else ρ i):=λi y hy=>by
      have:=hw.VF i y hy;show(if i=W.sz then _ else ρ i)=some y;rw[aac (by omega)];exact hy
     obtain⟨hg,Fq⟩:=Eg.new (o:=.cells (Tr.nil.AS 0 (BE c zz (sLen*size) b.off++news)) ((sLen+n)*size) #[] e) (o':=.cells (old'++FP++Builtin.zeroCells z.cells (nc-(sLen+n))) e (0,0))
      ⟨w.heap.size,0,size,(sLen+n)*size,nc*size⟩ rfl (by
       refine .cells MJ AB5 ?_ (λk hk=>?_) ⟨NF.zero _,λh=>(h rfl).elim⟩
       ·simp only[aa0];exact aaN _ (by omega)
       ·have hk:k<(sLen+n)*size:=hk;rw[abu]at hk
        exact(Uk (ρ:=ρ) VY CG k (by rw[Aw];omega)).mono C2)
     refine⟨_,_,_,hg,HR,?_,Fq⟩
     refine .slice _ ⟨rfl,⟨w.heap.size,0,size,(sLen+n)*size,nc*size⟩,?_,by simp⟩ (.inr ⟨⟨w.heap.size,0,size,(sLen+n)*size,nc*size⟩,?_,c3,by simp,by simp,hnc⟩)
     ·show(if W.sz=W.sz then _ else _)=_;rw[aad rfl]
     ·show(if W.sz=W.sz then _ else _)=_;rw[aad rfl]
 ·cases h
end
end Go.Ce
