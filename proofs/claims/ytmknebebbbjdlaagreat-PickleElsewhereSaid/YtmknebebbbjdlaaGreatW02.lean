/- A part of the proof: Ec, Fb, Fc, Fd, Fe, Ga, Ha, Pa, Sz, ShZ, ShL5, Ff, ShR, Sh1, Sh0, Hb, Hc, Pb, Pc, Hd, He, Pd, Pe, Hf, Pf, Hg. -/
import Derived.Test.YtmknebebbbjdlaaGreatW01
import Derived.Handed
import Derived.JoinedOf
import Derived.Test.YtmknebebbbjdlaaGreatProg
set_option linter.unusedSectionVars false
set_option linter.unusedVariables false
set_option linter.unusedSimpArgs false
set_option linter.defProp false
set_option maxRecDepth 200000
namespace Go.Ce
open Go.RowKit Go.ChangeShapes Go.WideShapes
section
variable {P:Program}
def St(P:Program)(t:TypeId)(cs:List Value):Value :=
 match P.underlying t with
 |some (.struct _)=>.agg cs.toArray
 |some (.array _ _)=>.agg cs.toArray
 |_=>cs.getD 0 undef
def zD(P:Program):List TypeId→CW→List Value→Prop
 |[],_,[]=>True
 |t::ts,W,v::vs=>(∃cs,v=St P t cs∧CT P 20 t W cs)∧zD P ts W vs
 |_,_,_=>False
theorem ux{ρ:Bk}{w:World}{t:TypeId}{v:Value}{vs:List Value}(Aa:js P 20 t=true){base:Nat}(Ht:Value.okWide P w .any base t v)(h:Ap ρ vs v.cells.toList):AK ρ (St P t vs) v:=by
 unfold St;unfold js at Aa;unfold Value.okWide at Ht
 have one:v.cells=#[v]→AK ρ (vs.getD 0 undef) v:=λe=>by
  rw[e]at h;have:=h.2 0 (by rw[h.1];simp)
  simpa using this
 split at Aa<;>(try (rename_i ht;rw[ht]at Ht ⊢;simp only at Ht ⊢))
 ·refine one ?_;unfold Cell.okWide Cell.ok at Ht;rw[ht]at Ht
  cases v<;>first|rfl|(simp at Ht;done)
 ·refine one ?_;unfold Cell.okWide Cell.ok at Ht;rw[ht]at Ht
  cases v<;>first|rfl|(simp at Ht;done)
 ·refine one ?_;unfold Cell.okWide Cell.ok at Ht;rw[ht]at Ht
  cases v<;>first|rfl|(simp at Ht;done)
 ·refine one ?_;unfold Cell.okWide Cell.ok at Ht;rw[ht]at Ht
  cases v<;>first|rfl|(simp at Ht;done)
 ·obtain⟨cs,rfl,_⟩:=Ht;have h:Ap ρ vs cs.toList:=h;exact .fK (by simpa using h)
 ·obtain⟨cs,rfl,_⟩:=Ht;have h:Ap ρ vs cs.toList:=h;exact .fK (by simpa using h)
 ·cases Aa
theorem Z8{H:Type}{enc:TypeId×Value→H}{w:World}{held:Bool}{base:Nat}:∀{ts:List TypeId} {args:List Value} {ds:List (DataW H)} {ps:List MemPlace},(∀t,t∈ts→js P 20 t=true)→DataW.TrodAll enc P w 0 (λ_=>true) held ts args ds ps→
  (∀(j:Nat) t v,ts[j]?=some t→args[j]?=some v→Value.okWide P w .any base t v)→∀ρ W,AU P w ρ W w→Laid P w ρ W args (zD P ts)
 |[],args,ds,ps,_,h,_,ρ,W,hw=>by
  obtain⟨rfl,rfl,rfl⟩:=trodAll_nil h;exact⟨[],ρ,W,.refl _,.refl _,.nil _,hw,trivial⟩
 |t::ts,args,ds,ps,Aa,h,Ht,ρ,W,hw=>by
  obtain⟨v,vs,d,FG,p,q,rfl,rfl,rfl,h1,h2⟩:=trodAll_cons h;obtain⟨fuel,h1⟩:=h1;obtain⟨v1,ρ1,W1,g1,k1,l1,w1,c1⟩:=place 20 t fuel _ _ (Aa t (by simp)) h1 ρ W hw;have hv:=ux (Aa t (by simp)) (Ht 0 t v rfl rfl) l1;obtain⟨v2,ρ2,W2,g2,k2,l2,w2,c2⟩:=Z8 (λt ht=>Aa t (by simp[ht])) h2 (λj t v hj hv=>Ht (j+1) t v (by simpa using hj) (by simpa using hv)) ρ1 W1 w1;exact⟨St P t v1::v2,ρ2,W2,g1.trans g2,k1.trans k2,.cons (hv.mono g2.ext) l2,w2,⟨⟨v1,rfl,c1.mono k2⟩,c2⟩⟩
theorem K9{H:Type}{enc:TypeId×Value→H}{W W':World}{sp':Nat→Bool}(hl:laidOutB P=true):∀{ts:List TypeId} {args:List Value} {ds:List (DataW H)} {ps:List MemPlace},(∀t,t∈ts→P.readableRec t=true∧t<P.types.size)→
  DataW.TrodAll enc P W 0 (λ_=>true) true ts args ds ps→(∀p∈ps,W.sameAt W' p)→(∀p∈ps,sp' p.block=true)→DataW.TrodAll enc P W' 0 sp' true ts args ds ps
 |[],args,ds,ps,_,h,_,_=>by
  obtain⟨rfl,rfl,rfl⟩:=trodAll_nil h;exact rfl
 | t::ts,args,ds,ps,Ig,h,hs,hp=>by
  obtain⟨v,vs,d,FG,p,q,rfl,rfl,rfl,h1,h2⟩:=trodAll_cons h
  exact⟨p,q,WideElems.Trod_stays hl (Ig t (by simp)).1 (Ig t (by simp)).2 h1 (λx hx=>hs x (by simp[hx])) (λx hx=>hp x (by simp[hx])),
   K9 hl (λt ht=>Ig t (by simp[ht])) h2 (λx hx=>hs x (by simp[hx])) (λx hx=>hp x (by simp[hx])),rfl⟩
theorem Ns{H:Type}{enc:TypeId×Value→H}{W:World}{sp:Nat→Bool}{held:Bool}:∀{ts:List TypeId} {args:List Value} {ds:List (DataW H)} {ps:List MemPlace},DataW.TrodAll enc P W 0 sp held ts args ds ps→ds.length=ts.length
 |[],args,ds,ps,h=>by
  obtain⟨rfl,rfl,rfl⟩:=trodAll_nil h;rfl
 |t::ts,args,ds,ps,h=>by
  obtain⟨v,vs,d,FG,p,q,rfl,rfl,rfl,h1,h2⟩:=trodAll_cons h;simp[Ns h2]
theorem uy(hl:laidOutB P=true){F:FuncId}{fn:Func}{s:ChangeSpec}{apart fresh handsOn again:Bool}(gE:s.vars=[])
  (gF:∀(H:Type) (ds:List (DataW H)),ds.length=fn.params.size→s.fn H ds={results:=[.lit (.bool true)],args:=ds})
  (Ig:∀t,t∈fn.params.toList→P.readableRec t=true∧t<P.types.size) {tb:TypeId} (Wz:fn.resultTypes=#[tb]) (hb:P.underlying tb=some .bool)
  {H:Type} {enc:TypeId×Value→H} {W:World} {args:Array Value} {ds gs:List (DataW H)} {before:List MemPlace} (hW:DataW.Whole enc P fn.params.toList s.vars apart W args.toList ds gs before)
  (hc:Calls P F args W λe w'=>e=.returned (.bool true)∧Below W.heap.size W w') :
  Calls P F args W λe W'=>∃v,e=.returned v∧s.post enc P fn apart fresh handsOn again W args v W':=by
 have yq:=hW;obtain⟨p,q,hA,hV,rfl,hfz,ZM⟩:=hW;rw[gE]at hV;obtain⟨rfl,rfl⟩:=trodVars_none hV;refine hc.mono λe w' hE=>?_;obtain⟨rfl,qR⟩:=hE;refine⟨_,rfl,ds,[],p++[],[],p,[],yq,?_,?_,?_,?_,λ_=>?_⟩
 all_goals have hlen:ds.length=fn.params.size:=by simpa using Ns hA
 all_goals simp only[aaR]at yq hfz ZM ⊢
 ·rw[gF H ds hlen,Wz];exact trodAll_cons_mk (shut_bool hb true) trodAll_mk0
 ·rw[gF H ds hlen];have Ao:=yq.lt;exact K9 hl Ig hA (λx hx=>qR.same (Ao x hx)) (λx hx=>by simpa using Ao x hx)
 ·rw[gF H ds hlen,gE];exact rfl
 ·exact qR.frame _
 ·have Ao:=yq.lt
  refine⟨ok_one Wz rfl (Go.RowKit.okWide_bool_mk hb _),[.lit (.bool true)]++ds,[],[]++p++[],⟨[]++p,[],trodAll_append (K9 (sp':=λ_=>true) hl Ig hA (λx hx=>qR.same (Ao x hx)) (λ_ _=>rfl)) (by rw[Wz];exact trodAll_cons_mk (shut_bool hb true) trodAll_mk0),by rw[gE];exact rfl,rfl,?_,?_⟩,?_⟩
  ·intro b off hp;have hp:MemPlace.cell b off∈p:=by simpa using hp
   rw[qR.frozen (p:=⟨b,off,none⟩) (Ao _ hp)];exact hfz b off hp
  ·intro ha;simpa using ZM ha
  ·intro x hx _;simpa using hx
noncomputable def DY(P:Program)(L:List FuncId):Nat→C5:=evB P (λu v=>@decide (u=v) (Classical.propDecidable _)) L
theorem zd{w0:World}(hz:ZP P)(Ou:P.follows .mixedOrders=true)(ZR:EN P){L:List FuncId}(Wu:CK P L)(n:Nat):Wo P w0 n (DY P L n):=cY (λu v h=>@of_decide_eq_true _ (Classical.propDecidable _) h) hz Ou ZR Wu n
theorem pk(hz:ZP P)(Ou:P.follows .mixedOrders=true)(ZR:EN P){L:List FuncId}(Wu:CK P L)(hl:laidOutB P=true){F:FuncId}{fn:Func}{s:ChangeSpec}{apart fresh handsOn again:Bool}(gE:s.vars=[])
  (gF:∀(H:Type) (ds:List (DataW H)),ds.length=fn.params.size→s.fn H ds={results:=[.lit (.bool true)],args:=ds})
  (Ig:(fn.params.toList.all λt=>P.readableRec t&&js P 20 t&&decide (t<P.types.size))=true) {tb:TypeId} (Wz:fn.resultTypes=#[tb]) (hb:P.underlying tb=some .bool)
  (HR:∀(vs:List Value) (W:CW),zD P fn.params.toList W vs→(∀i o,W.obj i=some o→i<W.sz)→∃n,bc ((DY P L n).call F vs W)=true)
  {H:Type} {enc:TypeId×Value→H} (W:World) (base:Nat) (args:Array Value) (ds gs:List (DataW H)) (before:List MemPlace)
  (Ht:∀(j:Nat) t v,fn.params[j]?=some t→args[j]?=some v→Value.okWide P W .any base t v) (hW:DataW.Whole enc P fn.params.toList s.vars apart W args.toList ds gs before) :
  Calls P F args W λe W'=>∃v,e=.returned v∧s.post enc P fn apart fresh handsOn again W args v W':=by
 have ACG:∀t,t∈fn.params.toList→P.readableRec t=true∧js P 20 t=true∧t<P.types.size:=λt ht=>by
  have:=aax.1 Ig t ht;simp only[dy,decide_eq_true_eq]at this;exact⟨this.1.1,this.1.2,this.2⟩
 refine uy hl gE gF (λt ht=>⟨(ACG t ht).1,(ACG t ht).2.2⟩) Wz hb hW ?_;obtain⟨p,q,hA,_,_,_,_⟩:=hW;have hw:AU P W (λ_=>none) (W0 0) W:=⟨(λi x hx=>by cases hx),(λi o ho=>by cases ho),(λi o x ho=>by cases ho),(λi j o u x y ho=>by cases ho),Below.ABR W⟩
 obtain⟨vs,ρ,W1,_,_,hvs,Eg,ze⟩:=Z8 (λt ht=>(ACG t ht).2.1) hA (λj t v hj hv=>Ht j t v (by simpa using hj) (by simpa using hv)) _ _ hw;obtain⟨n,hn⟩:=HR vs W1 ze (λi o ho=>Eg.top i o ho)
 cases ho:(DY P L n).call F vs W1 with
 |none=>rw[ho]at hn;cases hn
 | some outs=>
  rw[ho]at hn;obtain⟨_,hc⟩:=(zd (w0:=W) hz Ou ZR Wu n).call ho hvs Eg;refine ZI ((hc 0).mono λe w' hE=>?_);obtain⟨e0,W2,ρ2,hm,_,hN,Fq⟩:=hE;have:=aax.1 hn _ hm;simp only at this
  cases hN with
  |panicked _=>cases this
  | returned hv=>
   split at this
   ·rename_i heq
    cases heq
    cases hv
    exact⟨rfl,Fq.below⟩
   ·cases this
end
end Go.Ce
namespace Go.Ce
abbrev Env:=Nat→Value
def Env.put(e:Env)(d:Option Tmp)(v:Value):Env:=match d with
 |some d=>λt=>cond (Nat.beq t d) v (e t)
 |none=>e
def Env.ev(e:Env):Operand→Value
 | .tmp t=>e t
 | .const v=>v
 | .global _=>.complex .f32 0 0
 | .func f=>.func (.func f) #[] #[]
def wV{α:Type}(x:Option α)(K:α→Prop):Prop:=match x with
 |some v=>K v
 |none=>False
def Iw(x:Option (Value×CW))(K:Value→CW→Prop):Prop:=match x with
 |some (v,W)=>K v W
 |none=>False
def wI(v:Value)(X Y:Prop):Prop:=match v with
 | .bool true=>X
 | .bool false=>Y
 |v=>∃b,v=.bool b∧(b=true→X)∧(b=false→Y)
section
variable (P:Program)
def ld(t:TypeId)(v:Value)(W:CW):Option Value:=match v with
 | .pointer (some a)=>LS P t a W
 |_=>none
def NK(t:TypeId)(a v:Value)(W:CW):Option CW:=match a with
 | .pointer (some a)=>Kv P t a v W
 |_=>none
def n_(t:TypeId)(W:CW):Option (Value×CW):=match Hr P t with
 |some z=>match De P t with
  |some _=>some (.pointer (some ⟨W.sz,0,none⟩),W.new (.cells .nil z.cells.size z.cells t))
  |none=>none
 |none=>none
def bxw(t:TypeId)(v:Value)(W:CW):Option (Value×CW):=match De P t with
 |some _=>some (VU t v W)
 |none=>none
def pck(c a b:Value):Option Value:=match c with
 | .bool b0=>some (cond b0 a b)
 |_=>none
def ZT(t:TypeId)(parts:List (Nat×Value)):Option Value:=match Hr P t,P.underlying t with
 |some z,some (.struct fields)=>match fields.toList.mapM λf=>(De P f.type).map λs=>(f.offset,s)with
  |some PU=>(Instr.fill (PU[·]?) z.cells parts).map .agg
  |none=>none
 |some z,some (.array _ elem)=>match De P elem with
  |some s=>(Instr.fill (λi=>some (i*s,s)) z.cells parts).map .agg
  |none=>none
 |_,_=>none
def W_(t:TypeId)(len:Nat)(parts:List (Nat×Value))(W:CW):Option (Value×CW):=match P.underlying t with
 | some (.slice elem)=>CS (De P elem) λs=>CS (Hr P elem) λz=>
  cond (Nat.ble (len*s) 65536&&Nat.beq z.cells.size s) (match Instr.fill (λi=>some (i*s,s)) ((BE .nil z.cells (len*s) 0).toArray) parts with
   |some cs=>some (.slice (some ⟨W.sz,0,none⟩) len len,W.new (.cells (Tr.nil.AS 0 cs.toList) cs.size #[] elem))
   |none=>none) none
 |_=>none
def nck(x:Value):Option Value:=match x with
 | .pointer (some a)=>some (.pointer (some a))
 | .iface t v=>some (.iface t v)
 | .func (.func f) a b=>some (.func (.func f) a b)
 | .func (.yield f) a b=>some (.func (.yield f) a b)
 |_=>none
def ngt(x:Value):Option Value:=match x with| .bool b=>some (.bool (!b))|_=>none
def neg(x:Value):Option Value:=match x with| .int k n=>some (.int k (k.wrap (0-n)))|_=>none
def cl(s d:TypeId)(x:Value):Option Value:=match P.underlying s,P.underlying d,x with
 |some _,some (.int k),.int _ n=>some (.int k (k.wrap n))
 |some _,some .string,.string s=>some (.string s)
 |_,_,_=>none
def zf(s d:TypeId)(x:Value)(W:CW):Option Value:=match P.underlying s,P.underlying d,x with
 |some (.slice _),some .string,.string s=>some (.string s)
 |some (.slice el),some .string,x=>j7 P el x W
 |_,_,_=>none
def cvs(s d:TypeId)(x:Value)(W:CW):Option (Value×CW):=match P.underlying s,P.underlying d,x with
 |some .string,some (.slice el),.string s=>zF P el s W
 |_,_,_=>none
def mki(t:TypeId)(x:Value):Option Value:=match P.underlying t with|some (.interface _)|none=>none|_=>some (.iface t x)
def mks(t:TypeId)(l c:Value)(W:CW):Option (Value×CW):=match P.underlying t,l,c with
 | some (.slice elem),.int _ l,.int _ c=>CS (De P elem) λs=>CS (Hr P elem) λz=>
  cond (decide (0≤l)&&decide (l≤c)&&decide (c≤2000000)&&Nat.ble ((P.info? elem).map (·.bytes)|>.getD 0) 1024&&Nat.beq z.cells.size s&&Nat.blt 0 s)
   (some (.slice (some ⟨W.sz,0,none⟩) l.toNat c.toNat,W.new (.cells .nil (c.toNat*s) z.cells elem))) none
 |_,_,_=>none
def Sp(t:TypeId)(x:Value)(lo hi mx:Option Value)(W:CW):Option Value:=match P.underlying t,x with
 |some .string,.string s=>CS (bound hi s.size s.size) λh=>CS (bound lo 0 h) λl=>cond mx.isSome none (some (.string (s.extract l h)))
 |_,x=>NX P W t x lo hi mx
def RL(s:TypeId)(x:Value)(f:Nat):Option Value:=match P.underlying s,x with
 | some (.struct fs),.pointer (some a)=>match fs[f]? with
  |some fd=>match De P fd.type with
   |some m=>cond (Nat.beq m 0) none (some (.pointer (some ⟨a.block,a.off+fd.offset,none⟩)))
   |none=>none
  |none=>none
 |_,_=>none
def fld(t:TypeId)(x:Value)(f:Nat):Option Value:=match P.underlying t,x with
 | some (.struct fs),.agg cs=>match fs[f]? with
  |some fd=>match agg? P fd.type,De P fd.type with
   |some true,some m=>some (.agg (cs.extract fd.offset (fd.offset+m)))
   |some false,_=>cs[fd.offset]?
   |_,_=>none
  |none=>none
 |_,_=>none
def lD(t:TypeId)(x ix:Value):Option Value:=match ix with
 | .int _ i=>match P.underlying t,x with
  |some (.array len elem),.pointer (some a)=>CS (De P elem) λs=>cond (decide (0≤i)&&decide (i<len)) (some (.pointer (some ⟨a.block,a.off+i.toNat*s,none⟩))) none
  |some (.slice elem),.slice (some a) len _=>CS (De P elem) λs=>cond (decide (0≤i)&&decide (i<len)) (some (.pointer (some ⟨a.block,a.off+i.toNat*s,none⟩))) none
  |_,_=>none
 |_=>none
def idx(t:TypeId)(x ix:Value):Option Value:=match ix with
 | .int _ i=>match P.underlying t,x with
  |some (.array len elem),.agg cs=>cond (decide (0≤i)&&decide (i<len)) (match agg? P elem,De P elem with
   |some true,some m=>some (.agg (cs.extract (i.toNat*m) (i.toNat*m+m)))
   |some false,some m=>cs[i.toNat*m]?
   |_,_=>none) none
  |some .string,.string s=>cond (decide (0≤i)) ((s[i.toNat]?).map λb=>.int .u8 b.toNat) none
  |_,_=>none
 |_=>none
def Sq(t:TypeId)(m k:Value)(ok:Bool)(W:CW):Option Value:=match P.underlying t,m with
 | some (.map kt elem),m=>CS (Hr P elem) λz=>CS (match m with
   | .map none=>some []
   | .map (some r)=>match W.obj r with|some (.map es _)=>some es|_=>none
   |_=>none) λes=>CS (O2 P kt k es) λr=>match r with
    |some (_,x)=>some (cond ok (.tuple #[x,.bool true]) x)
    |none=>some (cond ok (.tuple #[z,.bool false]) z)
 |_,_=>none
def jt(t:TypeId)(m k x:Value)(W:CW):Option CW:=match P.underlying t,m with
 | some (.map kt _),.map (some r)=>match W.obj r with
  |some (.map es Ez)=>CS (O2 P kt k es) λf=>match f with
   |some (i,_)=>some (W.A6 r (.map (KI x k i es) Ez))
   |none=>some (W.A6 r (.map (es++[{key:=k,val:=x,born:=Ez}]) (Ez+1)))
  |_=>none
 |_,_=>none
def rng(t:TypeId)(x:Value)(W:CW):Option (Value×CW):=match P.underlying t,x with
 |some (.map _ _),.map none=>some (.pointer (some ⟨W.sz,0,none⟩),W.new (.iter none 0 [] 0))
 |some (.map _ _),.map (some r)=>match W.obj r with
  |some (.map _ Ez)=>some (.pointer (some ⟨W.sz,0,none⟩),W.new (.iter (some r) Ez [] Ez))
  |_=>none
 |_,_=>none
def nxt(x:Value)(W:CW):Option (List (BQ×CW)):=match x with
 | .pointer (some a)=>cond (!Nat.beq a.off 0) none<|match W.obj a.block with
  |some (.iter none _ _ _)=>some [(.value (.tuple #[.bool false]),W)]
  | some (.iter (some r) since seen last)=>match W.obj r with
   | some (.map es Ez)=>
    cond (!seen.isEmpty&& !es.isEmpty&&es.all λe=>!(e.born<last)) none
     (some ((UN es since seen).map λc=>match c with
      |some en=>(.value (.tuple #[.bool true,en.key,en.val]),W.A6 a.block (.iter (some r) since (seen++[en.born]) Ez))
      |none=>(.value (.tuple #[.bool false]),W)))
   |_=>none
  |_=>none
 |_=>none
def ent(x:Value)(W:CW):Option Value:=match x with
 | .pointer (some a)=>cond (!Nat.beq a.off 0) none<|match W.obj a.block with
  |some (.iter (some r) _ seen VV)=>match seen.getLast?,W.obj r with
   |some st,some (.map es Ez)=>cond (Nat.beq Ez VV) ((es.find? λe=>Nat.beq e.born st).map λe=>.tuple #[e.key,e.val]) none
   |_,_=>none
  |_=>none
 |_=>none
def tas(t:TypeId)(x:Value)(ok:Bool):Option Value:=match P.underlying t,x with
 |some (.interface _),_=>none
 |some _,.iface u y=>cond (Nat.beq t u) (some (cond ok (.tuple #[y,.bool true]) y)) (cond ok ((Hr P t).map λz=>.tuple #[z,.bool false]) none)
 |_,_=>none
def ext(x:Value)(i:Nat):Option Value:=match x with
 | .tuple vs=>vs[i]?
 |_=>none
def app(ts:List TypeId)(s x:Value)(W:CW):Option (Value×CW):=match ts with
 |t::u::_=>cond (JH P u) (HN P t s x W) none
 |_=>none
def qV(o:Oper)(e:Operand→Value):Option Value:=match o.op with
 | .move x| .assign x=>some (e x)
 | .pick c a b=>pck (e c) (e a) (e b)
 | .build t parts=>ZT P t (parts.toList.map λ(i,x)=>(i,e x))
 | .nilCheck x=>nck (e x)
 | .binOp op t x y _=>CF P op t (isConst x||isConst y) (e x) (e y)
 | .unOp .not _ x=>ngt (e x)
 | .unOp .neg _ x=>neg (e x)
 | .convert s d x=>cl P s d (e x)
 | .makeInterface t x=>mki P t (e x)
 | .makeFunc fn first cap=>some (.func fn (first.map e) (cap.map e))
 | .fieldAddr s x f=>RL P s (e x) f
 | .field t x f=>fld P t (e x) f
 | .indexAddr t x ix=>lD P t (e x) (e ix)
 | .index t x ix=>idx P t (e x) (e ix)
 | .typeAssert x _ t ok=>tas P t (e x) ok
 | .extract x i=>ext (e x) i
 |_=>none
def er(o:Oper)(e:Operand→Value)(W:CW):Option Value:=match o.op with
 | .load t a=>ld P t (e a) W
 | .slice t x lo hi mx=>Sp P t (e x) (lo.map e) (hi.map e) (mx.map e) W
 | .lookup t x k ok=>Sq P t (e x) (e k) ok W
 | .entry it=>ent (e it) W
 | .convert s d x=>zf P s d (e x) W
 | .call c=>match c.argTypes.toList,c.args.toList.map e with
  |t::_,[x]=>Kw P t x W
  |_,_=>none
 |_=>none
def blt(b:Builtin)(ts:List TypeId)(asz:List Value)(W:CW):Option (Value×CW):=match Jp P b ts asz W with
 |some (.value v,W)=>some (v,W)
 |_=>none
def alB(b:Builtin)(ts:List TypeId)(asz:List Value)(W:CW):Option (Value×CW):=match b with
 | .append=>match asz with
  |[s,x]=>app P ts s x W
  |_=>none
 |b=>blt P b ts asz W
def zg(o:Oper)(e:Operand→Value)(W:CW):Option (Value×CW):=match o.op with
 | .alloc t=>n_ P t W
 | .box t x=>bxw P t (e x) W
 | .buildSlice t len parts=>W_ P t len (parts.toList.map λ(i,x)=>(i,e x)) W
 | .makeMap _ none=>some (.map (some W.sz),W.new (.map [] 0))
 | .makeSlice t l c=>mks P t (e l) (e c) W
 | .range t x=>rng P t (e x) W
 | .convert s d x=>cvs P s d (e x) W
 | .call c=>match c.callee with
  | .builtin b=>alB P b c.argTypes.toList (c.args.toList.map e) W
  |_=>none
 |_=>none
def stO(o:Oper)(e:Operand→Value)(W:CW):Option CW:=match o.op with
 | .store t a x=>NK P t (e a) (e x) W
 | .mapUpdate t m k x| .insert t m k x=>jt P t (e m) (e k) (e x) W
 |_=>none
noncomputable section
variable (L:List FuncId)
def AX(f:FuncId)(args:List Value)(W:CW)(Q:Ending→CW→Prop):Prop:=∃n o,(DY P L n).call f args W=some [o]∧Q o.1 o.2
def Js(l:Nat)(args:List Value)(W:CW)(Q:Ending→CW→Prop):Prop:=∃n o,(DY P L n).round l args W=some [o]∧Q o.1 o.2
def uz(ro:Option Nat)(fn:FuncId)(c:Code)(a:AI)(W:CW)(Q:Exit→AI→CW→Prop):Prop:=∃n o,(DY P L n).code ro fn c a W=some [o]∧Q o.1 o.2.1 o.2.2
def BO(K:Value→CW→Prop)(KP:List PanicEntry→CW→Prop):Ending→CW→Prop
 | .returned v,W=>K v W
 | .panicked ch,W=>KP ch W
 |_,_=>False
def Dt(v:Value)(args:List Value)(W:CW)(K:Value→CW→Prop)(KP:List PanicEntry→CW→Prop):Prop:=match JI v args with
 |some (.enter f asz)=>match KJ P f asz W with
  |some (v,W1)=>K v W1
  |none=>AX P L f asz W (BO K KP)
 |some (.round l asz)=>Js P L l asz W (BO K KP)
 |_=>False
def OT(o:Oper):Bool:=match o.op with
 | .store .. | .mapUpdate .. | .insert ..=>true
 |_=>false
def wOp(o:Oper)(e:Operand→Value)(W:CW)(KV:Value→CW→Prop)(KS:CW→Prop)(KD:Deferred→CW→Prop)(KP:List PanicEntry→CW→Prop):Prop :=
 cond (C1 P o) (wV (qV P o e) λv=>KV v W)<|cond (DU P o) (wV (er P o e W) λv=>KV v W)<|cond (OT o) (wV (stO P o e W) KS)<|
 match o.op with
 | .call c=>match c.callee with
  | .value f=>Dt P L (e f) (c.args.toList.map e) W KV KP
  | .builtin _=>Iw (zg P o e W) KV
  |_=>False
 | .panic x=>match e x with
  | .iface t y=>KP [{v:=.iface t y,recovered:=false}] W
  |_=>False
 | .defer c=>match c.callee with
  | .value f=>match e f with
   | .func (.func g) first cap=>KD {target:=.fn (.func g) cap,args:=first++c.args.map e} W
   |_=>False
  |_=>False
 |_=>Iw (zg P o e W) KV
end
end
section
variable {P:Program}{L:List FuncId}{o:Oper}{e:Operand→Value}{W:CW}
def vL(x:Option Value)(W:CW):Option (List (BQ×CW)):=match x with
 |some v=>some [(.value v,W)]
 |none=>none
def zh(x:Option (Value×CW)):Option (List (BQ×CW)):=match x with
 |some (v,W)=>some [(.value v,W)]
 |none=>none
def swL(x:Option CW):Option (List (BQ×CW)):=match x with
 |some W=>some [(.skip,W)]
 |none=>none
theorem XA(h:C1 P o=true):BF P o e W=vL (qV P o e) W:=by
 unfold C1 at h;split at h
 case h_17=>cases h
 case h_7 u t x ho=>
  cases u<;>simp only[BF,qV,ho,ngt,neg]<;>first|rfl|(split<;>rfl)|skip
 case h_16 s d x ho=>
  simp only[dy]at h;obtain⟨h1,h2⟩:=h;simp only[BF,qV,ho,cl]
  cases hs:P.underlying s with
  |none=>rfl
  | some us=>
   cases hd:P.underlying d with
   |none=>rfl
   | some ud=>
    rw[hs]at h1;rw[hd]at h2
    cases us<;>first|(cases h1;done)|skip
    all_goals
     cases ud<;>first|(cases h2;done)|(cases e x<;>rfl)
 all_goals
  rename_i ho;simp only[BF,qV,ho]
  first
   |rfl
   |(simp only[pck];generalize e _=x;cases x<;>rfl)
theorem MR(h:DU P o=true):BF P o e W=vL (er P o e W) W:=by
 unfold DU at h;split at h
 case h_7=>cases h
 case h_5 c ho=>
  split at h
  ·rename_i hc;simp only[BF,er,ho,hc]
   cases c.argTypes.toList with
   |nil=>rfl
   | cons t ts=>
    cases c.args.toList.map e with
    |nil=>rfl
    | cons x xs=>
     cases xs with
     |nil=>
      simp only[Jp]
      cases Kw P t x W<;>rfl
     |cons y ys=>rfl
  ·cases h
 case h_6 s d x ho=>
  simp only[dy]at h;obtain⟨h1,h2⟩:=h;simp only[BF,er,ho,zf]
  cases hs:P.underlying s with
  |none=>rw[hs]at h1;cases h1
  | some us=>
   cases hd:P.underlying d with
   |none=>rw[hd]at h2;cases h2
   | some ud=>
    rw[hs]at h1;rw[hd]at h2
    cases us<;>first|(cases h1;done)|skip
    all_goals
     cases ud<;>first|(cases h2;done)|skip
    cases hx:e x<;>rfl
 all_goals
  rename_i ho;simp only[BF,er,ho]
  first
   |rfl
   |(simp only[Sp,Option.isSome_map];rfl)
theorem u5(h:OT o=true):BF P o e W=swL (stO P o e W):=by
 unfold OT at h
 split at h
 ·rename_i ho;simp only[BF,stO,ho];rfl
 ·rename_i ho;simp only[BF,stO,ho];rfl
 ·rename_i ho;simp only[BF,stO,ho];rfl
 ·cases h
def oA(P:Program)(L:List FuncId)(KV:Value→CW→Prop)(KS:CW→Prop)(KD:Deferred→CW→Prop)(KP:List PanicEntry→CW→Prop):BQ→CW→Prop
 | .value v,W=>KV v W
 | .skip,W=>KS W
 | .enter f args,W=>AX P L f args W (BO KV KP)
 | .round l args,W=>Js P L l args W (BO KV KP)
 | .defer d,W=>KD d W
 | .panic v,W=>KP [{v,recovered:=false}] W
 | .recover,_=>False
variable {KV:Value→CW→Prop}{KS:CW→Prop}{KD:Deferred→CW→Prop}{KP:List PanicEntry→CW→Prop}
theorem u6{x:Option Value}(h:wV x λv=>KV v W):∃p,vL x W=some [p]∧oA P L KV KS KD KP p.1 p.2:=by
 cases x with
 |none=>exact h.elim
 |some v=>exact⟨_,rfl,h⟩
theorem oB{x:Option (Value×CW)}(h:Iw x KV):∃p,zh x=some [p]∧oA P L KV KS KD KP p.1 p.2:=by
 cases x with
 |none=>exact h.elim
 |some v=>obtain⟨v,W1⟩:=v;exact⟨_,rfl,h⟩
theorem zi{x:Option CW}(h:wV x KS):∃p,swL x=some [p]∧oA P L KV KS KD KP p.1 p.2:=by
 cases x with
 |none=>exact h.elim
 |some v=>exact⟨_,rfl,h⟩
theorem zj{s d:TypeId}{x:Operand}(ho:o.op=.convert s d x)(h:Iw (cvs P s d (e x) W) KV):BF P o e W=zh (cvs P s d (e x) W):=by
 unfold cvs at h ⊢;simp only[BF,ho]
 cases hs:P.underlying s with
 |none=>rw[hs]at h;exact h.elim
 | some us=>
  rw[hs]at h
  cases hd:P.underlying d with
  |none=>rw[hd]at h;cases us<;>exact h.elim
  |some ud=>
   rw[hd]at h
   cases us<;>first|exact h.elim|skip
   cases ud<;>first|exact h.elim|skip
   cases hx:e x<;>rw[hx]at h<;>first|exact h.elim|rfl
theorem TI(h:wOp P L o e W KV KS KD KP):∃p,BF P o e W=some [p]∧oA P L KV KS KD KP p.1 p.2:=by
 unfold wOp at h
 cases hp:C1 P o with
 |true=>rw[hp]at h;rw[XA hp];exact u6 h
 | false =>
  rw[hp]at h;simp only[cond_false]at h
  cases hr:DU P o with
  |true=>rw[hr]at h;rw[MR hr];exact u6 h
  | false=>
   rw[hr]at h;simp only[cond_false]at h
   cases hs:OT o with
   |true=>rw[hs]at h;rw[u5 hs];exact zi h
   | false=>
    rw[hs]at h;simp only[cond_false]at h
    split at h
    ·rename_i c ho
     split at h
     ·rename_i f hf;simp only[BF,ho,hf];unfold Dt at h
      cases hc:JI (e f) (c.args.toList.map e)with
      |none=>rw[hc]at h;exact h.elim
      | some n=>
       rw[hc]at h
       cases n with
       |enter g asz=>
        simp only at h ⊢
        cases hx:KJ P g asz W with
        |none=>rw[hx]at h;exact⟨_,rfl,h⟩
        |some y=>obtain⟨v,W1⟩:=y;rw[hx]at h;exact⟨_,rfl,h⟩
       |round l asz=>exact⟨_,rfl,h⟩
       |_=>exact h.elim
     ·rename_i b hb
      have key:BF P o e W=zh (zg P o e W):=by
       simp only[BF,ho,hb];simp only[zg,ho,hb]at h ⊢;generalize c.argTypes.toList=ts at h ⊢;generalize c.args.toList.map e=asz at h ⊢
       by_cases hap:b=.append
       ·subst hap;simp only[alB]at h ⊢;rcases asz with _|⟨s,_|⟨x,_|⟨y,asz⟩⟩⟩<;>first|exact h.elim|skip
        simp only at h ⊢;rcases ts with _|⟨t,_|⟨u,ts⟩⟩<;>first|exact h.elim|skip
        simp only[app,Jp]at h ⊢
        cases hu:JH P u with
        |false=>rw[hu]at h;exact h.elim
        |true=>
         simp only[cond_true]
         cases hca:HN P t s x W with
         |none=>rfl
         |some y=>rfl
       ·have e1:alB P b ts asz W=blt P b ts asz W:=by
         cases b<;>first|rfl|exact(hap rfl).elim
        rw[e1]at h;rw[e1];unfold blt at h ⊢
        cases hcb:Jp P b ts asz W with
        |none=>rw[hcb]at h;exact h.elim
        |some r=>
         obtain⟨n,W1⟩:=r;rw[hcb]at h
         cases n<;>first|exact h.elim|rfl
      rw[key];exact oB h
     ·exact h.elim
    ·rename_i x ho
     split at h
     ·rename_i t y hx;simp only[BF,ho,hx];exact⟨_,rfl,h⟩
     ·exact h.elim
    ·rename_i c ho
     split at h
     ·rename_i f hf
      split at h
      ·rename_i g first cap hg;simp only[BF,ho,hf,hg];exact⟨_,rfl,h⟩
      ·exact h.elim
     ·exact h.elim
    ·rename_i n1 n2 n3
     have:BF P o e W=zh (zg P o e W):=by
      unfold zg at h ⊢
      split at h
      ·rename_i t ho;simp only[BF,ho,n_]
       cases Hr P t with
       |none=>rfl
       |some z=>cases De P t<;>rfl
      ·rename_i t x ho;simp only[BF,ho,bxw]
       cases De P t<;>rfl
      ·rename_i ho;simp only[BF,ho];rfl
      ·rename_i ho;simp only[BF,ho];rfl
      ·rename_i ho;simp only[BF,ho];rfl
      ·rename_i ho;simp only[BF,ho];rfl
      ·rename_i ho;exact zj ho h
      ·rename_i ho;exact(n1 _ ho).elim
      ·exact h.elim
     rw[this];exact oB h
end
def AE(a:AI)(e:Env)(ds:List Deferred):Prop:=(∀t,a.at t=e t)∧a.defers=ds
theorem AE.eval{a:AI}{e:Env}{ds:List Deferred}(h:AE a e ds):a.eval=e.ev:=by
 funext x
 cases x with
 |tmp t=>rw[AI.RD];exact h.1 t
 |_=>rfl
theorem AE.put{a:AI}{e:Env}{ds:List Deferred}(h:AE a e ds)(d:Option Tmp)(v:Value):AE (a.put d v) (e.put d v) ds:=by
 refine⟨λt=>?_,by rw[AI.put_defers];exact h.2⟩
 cases d with
 |none=>exact h.1 t
 |some d=>
  rw[AI.ke];simp only[Env.put,cond_eq_ite,abz]
  split
  ·rfl
  ·exact h.1 t
theorem lE{v:Value}{X Y:Prop}(h:wI v X Y):∃b,v=.bool b∧cond b X Y:=by
 unfold wI at h
 split at h
 ·exact⟨true,rfl,h⟩
 ·exact⟨false,rfl,h⟩
 ·obtain⟨b,hb,h1,h2⟩:=h
  cases b with
  |true=>exact⟨_,hb,h1 rfl⟩
  |false=>exact⟨_,hb,h2 rfl⟩
theorem AH{b:Bool}{X Y:Prop}(h1:b=true→X)(h2:b=false→Y):wI (.bool b) X Y:=by
 cases b with
 |true=>exact h1 rfl
 |false=>exact h2 rfl
section
variable (P:Program)(L:List FuncId)
def oC:Value→Bool
 | .tuple _=>true
 |_=>false
def P1(sk:List Nat)(ops:Array Oper)(o:Oper)(e:Env)(K:Bool→Env→Prop):Prop:=match o.guard with
 |none=>K true e
 |some (j,want)=>match(ops[j]?).bind (·.dst)with
  |some d=>cond (CB sk j) (cond (oC (e d)) (K false e) False) (wI (e d) (K (true==want) (λt=>cond (Nat.beq t d) (.bool true) (e t))) (K (false==want) (λt=>cond (Nat.beq t d) (.bool false) (e t))))
  |none=>False
def cn(o:Oper):Bool:=match o.op with
 | .call c=>match c.callee with
  | .value _=>true
  |_=>false
 |_=>false
def lF(ops:Array Oper):Nat→List Nat→List Oper→Env→List Deferred→CW→(Exit→Env→List Deferred→CW→Prop)→Prop
 |_,_,[],e,ds,W,K=>K .normal e ds W
 | i,sk,o::rest,e,ds,W,K=>P1 sk ops o e λb e=>cond b
   (wOp P L o e.ev W (λv W=>lF ops (i+1) sk rest (e.put o.dst v) ds W K) (λW=>lF ops (i+1) sk rest (e.put o.dst undef) ds W K) (λd W=>lF ops (i+1) sk rest (e.put o.dst undef) (d::ds) W K) (λch W=>K (.panic ch) e ds W))
   (lF ops (i+1) (i::sk) rest (e.put o.dst undef) ds W K)
def Eo(ops:Array Oper)(ev:Operand→Value)(W:CW):Nat→Operand→Value
 |n+1,.tmp t=>match ops.toList.find? (λo=>match o.dst with|some d=>Nat.beq d t|none=>false)with
  |some o=>cond (C1 P o||j8 o) ((BF P o (Eo ops ev W n) W).elim undef λl=>l.head?.elim undef λp=>match p.1 with| .value v=>v|_=>undef) undef
  |none=>ev (.tmp t)
 |_,x=>ev x
def Jj(ops:Array Oper)(ev:Operand→Value)(W:CW)(o:Oper):Operand→Value :=
 match o.op with
 | .makeSlice _ _ _=>Eo P ops ev W 6
 | .buildSlice _ _ _=>Eo P ops ev W 6
 |_=>ev
def cq(ops:Array Oper)(ev:Operand→Value)(W:CW)(x:Operand)(K:Value→Prop):Prop:=match x with
 | .tmp t=>match ops.toList.find? (λo=>match o.dst with|some d=>Nat.beq d t|none=>false)with
  |some o=>match o.op with
   | .load ty y=>wV (ld P ty (Eo P ops ev W 5 y) W) K
   |_=>K (Eo P ops ev W 6 (.tmp t))
  |none=>K (ev (.tmp t))
 |x=>K (ev x)
def lG(ops:Array Oper)(ev:Operand→Value)(W:CW):List (Nat×Operand)→(List (Nat×Value)→Prop)→Prop
 |[],K=>K []
 |(i,x)::ps,K=>cq P ops ev W x λv=>lG ops ev W ps λl=>K ((i,v)::l)
def Z9(ops:Array Oper)(ev:Operand→Value):List Nat→CW→Option (List (Nat×Value×Option Am)×CW)
 |[],W=>some ([],W)
 | i::is,W=>match ops[i]? with
  | some o=>match BF P o (Jj P ops ev W o) W with
   |some [(.value v,W1)]=>match Z9 ops ev is W1 with
    |some (l,W2)=>some ((i,v,W1.obj W.sz)::l,W2)
    |none=>none
   |_=>none
  |none=>none
def gG(o:Oper)(ev:Operand→Value)(v:Value)(ob:Option Am):Bool :=
 match o.op with
 | .makeSlice _ _ _=>match v with
  | .slice (some b) _ _=>(BF P o ev ⟨.nil,b.block⟩).any λl=>l.head?.any λp=>match p.1 with
   | .value u=>bo 8 u v&&G0 (p.2.obj b.block) ob
   |_=>false
  |_=>false
 |_=>true
def RM(o:Oper)(ev:Operand→Value)(v:Value)(ob:Option Am):Prop :=
 match o.op with
 | .buildSlice t len ps=>match v with
  | .slice (some b) _ _=>∃W1,W_ P t len (ps.toList.map λ(i,x)=>(i,ev x)) ⟨.nil,b.block⟩=some (v,W1)∧W1.obj b.block=ob
  |_=>False
 |_=>gG P o ev v ob=true
def u7(ops:Array Oper)(ev:Operand→Value):List Nat→CW→(List (Nat×Value×Option Am)→CW→Prop)→Prop
 |[],W,K=>K [] W
 | i::is,W,K=>match ops[i]? with
  | some o=>match o.op with
   | .buildSlice t len ps=>lG P ops ev W ps.toList λparts=>Iw (W_ P t len parts W) λ_ W1=>u7 ops ev is W1 λl W2=>K ((i,.slice (some ⟨W.sz,0,none⟩) len len,W1.obj W.sz)::l) W2
   |_=>match BF P o (Jj P ops ev W o) W with
    |some [(.value v,W1)]=>u7 ops ev is W1 λl W2=>K ((i,v,W1.obj W.sz)::l) W2
    |_=>False
  |none=>False
def Vk(ops:Array Oper)(i:Nat)(an:List Nat)(ok:CW→Prop):List (Nat×CW)→CW→Prop
 |[],W=>ok W
 |(j,Wj)::before,W=>cond (anc ops j i) True (ok W)∧cond (CB an j) True (Vk ops i an ok before Wj)
def P2(ops:Array Oper)(ws:List (Nat×CW))(W:CW):List (Nat×(CW→Prop))→Prop
 |[]=>True
 |(i,ok)::rd=>Vk ops i (Gh ops i) ok ws W∧P2 ops ws W rd
def lH(v:Value)(ob:Option Am)(W:CW):Bool:=match v with
 | .pointer (some b)=>G0 (W.obj b.block) ob
 | .map (some b)=>G0 (W.obj b) ob
 | .slice (some b) _ _=>G0 (W.obj b.block) ob
 |_=>false
def ABT(ops:Array Oper)(i:Nat)(v:Value)(ob:Option Am)(W:CW):Prop:=match(ops[i]?).any VB with
 |true=>match v with
  | .slice (some b) _ _=>∃c n e,W.obj b.block=some (.cells c n #[] e)∧ob=some (.cells c n #[] e)
  |_=>False
 |false=>lH v ob W=true
def oD(ops:Array Oper)(ws:List (Nat×CW))(W:CW):List (Nat×Value×Option Am)→Prop
 |[]=>True
 |(i,v,ob)::fl=>Vk ops i (Gh ops i) (ABT ops i v ob) ws W∧oD ops ws W fl
def cu(ops:Array Oper)(fl:List (Nat×Value×Option Am)):Nat→List Nat→List Oper→Env→CW→List (Nat×CW)→List (Nat×(CW→Prop))→(Env→CW→List (Nat×CW)→List (Nat×(CW→Prop))→Prop)→Prop
 |_,_,[],e,W,ws,rd,K=>K e W ws rd
 |i,sk,o::rest,e,W,ws,rd,K=>match fl.find? λp=>Nat.beq p.1 i with
  |some (_,v,ob)=>RM P o e.ev v ob∧cu ops fl (i+1) sk rest (e.put o.dst v) W ws rd K
  | none=>P1 sk ops o e λb e=>cond b
    (cond (C1 P o) (wV (qV P o e.ev) λv=>cu ops fl (i+1) sk rest (e.put o.dst v) W ws rd K)
     (cond (DU P o) (wV (er P o e.ev W) λv=>cu ops fl (i+1) sk rest (e.put o.dst v) W ws ((i,λW'=>er P o e.ev W'=some v)::rd) K)
      (wOp P L o e.ev W (λv W1=>cu ops fl (i+1) sk rest (e.put o.dst v) W1 ((i,W)::ws) rd K) (λW1=>cu ops fl (i+1) sk rest (e.put o.dst undef) W1 ((i,W)::ws) rd K) (λ_ _=>False) (λ_ _=>False))))
    (cu ops fl (i+1) (i::sk) rest (e.put o.dst undef) W ws rd K)
def u_(ops:Array Oper)(e:Env)(W:CW)(K:Env→CW→Prop):Prop:=u7 P ops e.ev (G9 P ops) W λfl W1=>cu P L ops fl 0 [] ops.toList e W1 [] [] λe W ws rd=>P2 ops ws W rd∧oD ops ws W fl∧K e W
def Ur(ops:Array Oper)(i0:Nat):Nat→List Nat→List Oper→Env→CW→List (Nat×(CW→Prop))→(List (Nat×(CW→Prop))→Prop)→Prop
 |_,_,[],_,_,rd,K=>K rd
 | i,sk,o::rest,e,W,rd,K=>cond (NH ops i0 i) (Ur ops i0 (i+1) sk rest (e.put o.dst undef) W rd K)
   (P1 sk ops o e λb e=>cond b
    (cond (C1 P o) (wV (qV P o e.ev) λv=>Ur ops i0 (i+1) sk rest (e.put o.dst v) W rd K)
     (cond (DU P o) (wV (er P o e.ev W) λv=>Ur ops i0 (i+1) sk rest (e.put o.dst v) W ((i,λW'=>er P o e.ev W'=some v)::rd) K) False))
    (Ur ops i0 (i+1) (i::sk) rest (e.put o.dst undef) W rd K))
def RN (ops:Array Oper)(fl:List (Nat×Value×Option Am))(KP:List PanicEntry→CW→Prop):Nat→List Nat→List Oper→Env→CW→List (Nat×CW)→List (Nat×(CW→Prop))→(Env→CW→List (Nat×CW)→List (Nat×(CW→Prop))→Prop)→Prop
 |_,_,[],e,W,ws,rd,K=>K e W ws rd
 |i,sk,o::rest,e,W,ws,rd,K=>match fl.find? λp=>Nat.beq p.1 i with
  |some (_,v,ob)=>RM P o e.ev v ob∧RN ops fl KP (i+1) sk rest (e.put o.dst v) W ws rd K
  | none=>P1 sk ops o e λb e=>cond b
    (cond (C1 P o) (wV (qV P o e.ev) λv=>RN ops fl KP (i+1) sk rest (e.put o.dst v) W ws rd K)
     (cond (DU P o) (wV (er P o e.ev W) λv=>RN ops fl KP (i+1) sk rest (e.put o.dst v) W ws ((i,λW'=>er P o e.ev W'=some v)::rd) K)
      (wOp P L o e.ev W (λv W1=>RN ops fl KP (i+1) sk rest (e.put o.dst v) W1 ((i,W)::ws) rd K) (λW1=>RN ops fl KP (i+1) sk rest (e.put o.dst undef) W1 ((i,W)::ws) rd K) (λ_ _=>False)
       (λch W2=>cond (cn o&&fl.isEmpty&&ws.all λx=>CB (Gh ops i) x.1) (Ur P ops i (i+1) sk rest (e.put o.dst undef) W rd λrd=>P2 ops ws W rd∧KP ch W2) False))))
    (RN ops fl KP (i+1) (i::sk) rest (e.put o.dst undef) W ws rd K)
def lI(ops:Array Oper)(e:Env)(W:CW)(K:Env→CW→Prop)(KP:List PanicEntry→CW→Prop):Prop:=match Z9 P ops e.ev (G9 P ops) W with
 |some (fl,W1)=>RN P L ops fl KP 0 [] ops.toList e W1 [] [] λe W ws rd=>P2 ops ws W rd∧oD ops ws W fl∧K e W
 |none=>False
def Env.bad:Env:=λt=>cond (Nat.beq t 0) (.complex .f64 0 0) undef
def Gi(ro:Option Nat)(fn:FuncId)(nt:Nat)(c:Code)(e:Env)(ds:List Deferred)(W:CW)(K:Exit→Env→List Deferred→CW→Prop):Prop :=
 ∀a:AI,AE a e ds→a.nt=nt→uz P L ro fn c a W λx a' W'=>∃e',AE a' e' a'.defers∧a'.nt=nt∧K x e' a'.defers W'
abbrev AB:=Exit→Env→List Deferred→CW→Prop
def Ab(Y:Env→List Deferred→CW→Prop)(K:AB):AB:=λx e ds W=>match x with
 | .normal=>Y e ds W
 |x=>K x e ds W
def CX(id:Nat)(K:AB):AB:=λx e ds W=>match x with
 | .exit UP=>cond (Nat.beq UP id) (K .normal e ds W) (K (.exit UP) e ds W)
 |x=>K x e ds W
def D8(ro:Option Nat)(fn:FuncId)(nt:Nat):Code→Env→List Deferred→CW→(Exit→Env→List Deferred→CW→Prop)→Prop
 | .skip,e,ds,W,K=>K .normal e ds W
 | .label _,e,ds,W,K=>K .normal e ds W
 | .exit id,e,ds,W,K=>K (.exit id) e ds W
 | .ret,e,ds,W,K=>K .ret e ds W
 | .region _ ops false,e,ds,W,K=>lF P L ops 0 [] ops.toList e ds W K
 | .region _ ops true,e,ds,W,K=>cond (CB L (fn+1500000)) (lI P L ops e W (λe W=>K .normal e ds W) (λch W=>K (.panic ch) Env.bad ds W)) (u_ P L ops e W λe W=>K .normal e ds W)
 | .seq x y,e,ds,W,K=>D8 ro fn nt x e ds W (Ab (λe ds W=>D8 ro fn nt y e ds W K) K)
 | .cond c x y,e,ds,W,K=>wI (e.ev c) (D8 ro fn nt x e ds W K) (D8 ro fn nt y e ds W K)
 | .block id b,e,ds,W,K=>D8 ro fn nt b e ds W (CX id K)
 | .scope b,e,ds,W,K=>D8 ro fn nt b e ds W K
 |c,e,ds,W,K=>Gi P L ro fn nt c e ds W K
end
section
variable {P:Program}{L:List FuncId}
theorem cw{n m:Nat}(h:n≤m){f:FuncId}{args:List Value}{W:CW}{o:List (Ending×CW)}(hc:(DY P L n).call f args W=some o):(DY P L m).call f args W=some o:=(Ds h).call hc
theorem XB{n m:Nat}(h:n≤m){l:Nat}{args:List Value}{W:CW}{o:List (Ending×CW)}(hc:(DY P L n).round l args W=some o):(DY P L m).round l args W=some o:=(Ds h).round hc
theorem JV{n m:Nat}(h:n≤m){ro:Option Nat}{fn:FuncId}{c:Code}{a:AI}{W:CW}{o:List (Exit×AI×CW)}(hc:(DY P L n).code ro fn c a W=some o):(DY P L m).code ro fn c a W=some o:=(Ds h).code hc
theorem Bo{α β:Type}(x:α)(f:α→Option (List β)){y:List β}(h:f x=some y):Dq (some [x]) f=some y:=by
 simp[Dq,QZ,h]
theorem La{sk:List Nat}{ops:Array Oper}{o:Oper}{e:Env}{ds:List Deferred}{a:AI}(ha:AE a e ds){K:Bool→Env→Prop}(h:P1 sk ops o e K):∃e',AE a e' ds∧K (DF ops o a) e'∧EI ops o a=some (DF ops o a):=by
 unfold P1 at h;unfold DF EI
 split at h
 ·rename_i hg;rw[hg];exact⟨e,ha,h,by first|rfl|trivial⟩
 ·rename_i j want hg;rw[hg]
  split at h
  ·rename_i d hd;obtain⟨oj,eo,cK⟩:=acI.1 hd
   cases hm:CB sk j with
   | true=>
    rw[hm]at h;simp only[cond_true]at h
    cases hu:oC (e d)with
    |false=>rw[hu]at h;exact h.elim
    | true=>
     rw[hu]at h;simp only[cond_true]at h
     have hy:Ky ops a j=none:=by
      unfold Ky;rw[eo];simp only[cK];have h1:=ha.1 d;unfold AI.at at h1
      cases NW:a.t.get d with
      |none=>rfl
      |some u=>
       rw[NW]at h1;have h1:u=e d:=h1;subst h1
       cases KU:e d<;>rw[KU]at hu<;>first|rfl|cases hu
     simp only[hy];exact⟨e,ha,h,by first|rfl|trivial⟩
   |false=>
   rw[hm]at h;simp only[cond_false]at h;obtain⟨b,hb,hK⟩:=lE h
   replace hK:K (b==want) (λt=>cond (Nat.beq t d) (.bool b) (e t)):=by cases b<;>exact hK
   have hy:Ky ops a j=some b:=by
    unfold Ky;rw[eo];simp only[cK];have h1:=ha.1 d;rw[hb]at h1;unfold AI.at at h1
    cases NW:a.t.get d with
    |none=>rw[NW]at h1;cases h1
    |some u=>
     rw[NW]at h1;have h1:u=.bool b:=h1;subst h1;rfl
   simp only[hy];refine⟨_,⟨λt=>?_,ha.2⟩,hK,by first|rfl|trivial⟩;simp only[cond_eq_ite,abz]
   split
   ·rename_i ht;subst ht;rw[ha.1 t,hb]
   ·exact ha.1 t
  ·exact h.elim
theorem G'{ops:Array Oper}:∀{i:Nat} {sk:List Nat} {rest:List Oper} {a:AI} {e:Env} {ds:List Deferred} {W:CW} {K:Exit→Env→List Deferred→CW→Prop},lF P L ops i sk rest e ds W K→AE a e ds→
  ∃n o e',Fp P (DY P L n) ops rest a W=some [o]∧AE o.2.1 e' o.2.1.defers∧o.2.1.nt=a.nt∧K o.1 e' o.2.1.defers o.2.2
 |i,sk,[],a,e,ds,W,K,h,ha=>by
  refine⟨0,(.normal,a,W),e,rfl,?_,rfl,?_⟩
  ·rw[ha.2];exact ha
  ·rw[ha.2];exact h
 | i,sk,o::rest,a,e,ds,W,K,h,ha=>by
  simp only[lF]at h;obtain⟨e1,C8,h,_⟩:=La ha h
  cases hw:DF ops o a with
  |false=>
   rw[hw]at h;obtain⟨n,x,e',h1,h2,h3,h4⟩:=G' h (C8.put _ _);exact⟨n,x,e',by simp only[Fp,hw];exact h1,h2,by rw[h3,AI.Bd],h4⟩
  | true=>
   rw[hw]at h;simp only[cond_true]at h;obtain⟨p,hp,Gm⟩:=TI h;obtain⟨nx,W1⟩:=p;have JW:BF P o a.eval W=some [(nx,W1)]:=by rw[C8.eval];exact hp
   have step:∀{n:Nat} {x:Exit×AI×CW},(match nx with
     | .value v=>Fp P (DY P L n) ops rest (a.put o.dst v) W1
     | .skip=>Fp P (DY P L n) ops rest (a.put o.dst undef) W1
     | .defer d=>Fp P (DY P L n) ops rest ({a with defers:=d::a.defers}.put o.dst undef) W1
     | .enter f args=>Dq ((DY P L n).call f args W1) λ(e,W)=>match e with
      | .returned v=>Fp P (DY P L n) ops rest (a.put o.dst v) W
      | .panicked ch=>some [(.panic ch,a,W)]
      | .outgrown=>none
     | .round l args=>Dq ((DY P L n).round l args W1) λ(e,W)=>match e with
      | .returned v=>Fp P (DY P L n) ops rest (a.put o.dst v) W
      | .panicked ch=>some [(.panic ch,a,W)]
      | .outgrown=>none
     | .recover=>none
     | .panic v=>some [(.panic [{v,recovered:=false}],a,W1)])=some [x]→Fp P (DY P L n) ops (o::rest) a W=some [x]:=by
    intro n x hx;simp only[Fp,hw,JW];refine Bo _ _ ?_
    cases nx<;>exact hx
   have up:∀{n m:Nat} (hle:n≤m) {a:AI} {W:CW} {r:List (Exit×AI×CW)},Fp P (DY P L n) ops rest a W=some r→Fp P (DY P L m) ops rest a W=some r:=λhle=>F' (Ds hle)
   cases nx with
   |value v=>
    obtain⟨n,x,e',h1,h2,h3,h4⟩:=G' (a:=a.put o.dst v) Gm (C8.put _ _);exact⟨n,x,e',step h1,h2,by rw[h3,AI.Bd],h4⟩
   |skip=>
    obtain⟨n,x,e',h1,h2,h3,h4⟩:=G' (a:=a.put o.dst undef) Gm (C8.put _ _);exact⟨n,x,e',step h1,h2,by rw[h3,AI.Bd],h4⟩
   |defer d=>
    obtain⟨n,x,e',h1,h2,h3,h4⟩:=G' (a:=({a with defers:=d::a.defers}:AI).put o.dst undef) Gm (AE.put (a:={a with defers:=d::a.defers}) ⟨C8.1,by show d::a.defers=d::ds;rw[C8.2]⟩ _ _);exact⟨n,x,e',step h1,h2,by rw[h3,AI.Bd],h4⟩
   | enter f args=>
    obtain⟨n1,y,hy,hQ⟩:=Gm;obtain⟨en,W2⟩:=y
    cases en with
    |returned v=>
     obtain⟨n,x,e',h1,h2,h3,h4⟩:=G' (a:=a.put o.dst v) hQ (C8.put _ _);refine⟨max n n1,x,e',step ?_,h2,by rw[h3,AI.Bd],h4⟩;simp only[cw (aaZ n n1) hy];exact Bo _ _ (up (aa9 _ _) h1)
    |panicked ch=>
     refine⟨n1,(.panic ch,a,W2),e1,step ?_,by rw[C8.2];exact C8,rfl,by rw[C8.2];exact hQ⟩;simp only[hy];exact Bo _ _ rfl
    |outgrown=>exact hQ.elim
   | round l args=>
    obtain⟨n1,y,hy,hQ⟩:=Gm;obtain⟨en,W2⟩:=y
    cases en with
    |returned v=>
     obtain⟨n,x,e',h1,h2,h3,h4⟩:=G' (a:=a.put o.dst v) hQ (C8.put _ _);refine⟨max n n1,x,e',step ?_,h2,by rw[h3,AI.Bd],h4⟩;simp only[XB (aaZ n n1) hy];exact Bo _ _ (up (aa9 _ _) h1)
    |panicked ch=>
     refine⟨n1,(.panic ch,a,W2),e1,step ?_,by rw[C8.2];exact C8,rfl,by rw[C8.2];exact hQ⟩;simp only[hy];exact Bo _ _ rfl
    |outgrown=>exact hQ.elim
   |recover=>exact Gm.elim
   |panic v=>exact⟨0,(.panic [{v,recovered:=false}],a,W1),e1,step rfl,by rw[C8.2];exact C8,rfl,by rw[C8.2];exact Gm⟩
theorem gH(ops:Array Oper)(a:AI)(W:CW):∀(n:Nat) (x:Operand),early P ops a W n x=Eo P ops a.eval W n x
 |0,x=>by cases x<;>rfl
 | n+1,x=>by
  cases x with
  |tmp t=>
   simp only[early,Eo];have:early P ops a W n=Eo P ops a.eval W n:=funext λx=>gH ops a W n x;rw[this];rfl
  |_=>rfl
theorem gI(ops:Array Oper)(a:AI)(W:CW)(o:Oper):WR P ops a W o=Jj P ops a.eval W o:=by
 unfold WR Jj
 cases o.op<;>first|rfl|(funext x;exact gH ops a W 6 x)
theorem Nt(ops:Array Oper)(a:AI):∀(is:List Nat) (W:CW),Ib P ops a is W=Z9 P ops a.eval is W
 |[],W=>rfl
 |i::is,W=>by
  simp only[Ib,Z9,gI,Nt ops a is];rfl
theorem XC{n:Nat}(v:Value):(DY P L n).eqv v v=true:=by
 have:(DY P L n).eqv=λu v=>@decide (u=v) (Classical.propDecidable _):=by
  unfold DY
  induction n with
  |zero=>rfl
  |succ n ih=>exact ih
 rw[this];exact @decide_eq_true _ (Classical.propDecidable _) rfl
theorem oE{o:Oper}{e:Operand→Value}{W:CW}{t:TypeId}{len:Nat}{ps:Array (Nat×Operand)}(ho:o.op=.buildSlice t len ps):BF P o e W=zh (W_ P t len (ps.toList.map λ(i,x)=>(i,e x)) W):=by
 simp only[BF,ho];rfl
theorem gJ{t:TypeId}{len:Nat}{l:List (Nat×Value)}{W W1:CW}{v:Value}(h:W_ P t len l W=some (v,W1)):v=.slice (some ⟨W.sz,0,none⟩) len len∧∃c n e,W1=W.new (.cells c n #[] e):=by
 unfold W_ at h
 split at h
 ·obtain⟨s,hs,h⟩:=AY h;obtain⟨z,hz,h⟩:=AY h;rw[cond_eq_ite]at h
  split at h
  ·split at h
   ·simp only[aag,aar]at h;obtain⟨rfl,rfl⟩:=h;exact⟨rfl,_,_,_,rfl⟩
   ·cases h
  ·cases h
 ·cases h
theorem RO{n:Nat}{c:Tr Value}{m:Nat}{e:TypeId}:JQ (DY P L n).eqv (some (.cells c m #[] e)) (some (.cells c m #[] e))=true:=by
 simp only[JQ,XC,abE,Array.size_empty,ab9]
theorem Nu{n:Nat}{o:Oper}{a:AI}{v:Value}{ob:Option Am}(h:RM P o a.eval v ob):G1 P (DY P L n).eqv o a v ob=true:=by
 unfold RM at h;unfold G1
 split at h
 ·rename_i t len ps ho;simp only[ho]
  split at h
  ·rename_i b n1 n2;obtain⟨W1,h1,h2⟩:=h;obtain⟨hv,c,k,e,hW⟩:=gJ h1;simp only;rw[oE ho,h1];have Wl:W1.obj b.block=some (.cells c k #[] e):=by rw[hW];simp[CW.obj,CW.new,Tr.Bc]
   simp only[zh,Option.any_some,List.head?_cons,XC,abb];rw[←h2,Wl];exact RO
  ·exact h.elim
 ·rename_i H0;unfold gG at h
  split
  ·rename_i ho;exact(H0 _ _ _ ho).elim
  ·rename_i ho;simp only[ho]at h;exact h
  ·rfl
theorem cy{ops:Array Oper}{ev:Operand→Value}{W:CW}{x:Operand}{K:Value→Prop}(h:cq P ops ev W x K):K (Eo P ops ev W 6 x):=by
 unfold cq at h
 split at h
 ·rename_i t
  split at h
  ·rename_i o hf
   split at h
   ·rename_i ty y ho;have LN:DU P o=true:=by unfold DU;simp only[ho]
    have tH:j8 o=true:=by unfold j8;simp only[ho]
    have e1:Eo P ops ev W 6 (.tmp t)=((BF P o (Eo P ops ev W 5) W).elim undef λl=>l.head?.elim undef λp=>match p.1 with| .value v=>v|_=>undef):=by
     show(match ops.toList.find? (λo=>match o.dst with|some d=>Nat.beq d t|none=>false)with
      |some o=>cond (C1 P o||j8 o) ((BF P o (Eo P ops ev W 5) W).elim undef λl=>l.head?.elim undef λp=>match p.1 with| .value v=>v|_=>undef) undef
      |none=>ev (.tmp t))=_
     rw[hf];simp only[tH,Bool.or_true,cond_true]
    rw[e1,MR LN];have e2:er P o (Eo P ops ev W 5) W=ld P ty (Eo P ops ev W 5 y) W:=by unfold er;simp only[ho]
    rw[e2]
    cases hl:ld P ty (Eo P ops ev W 5 y) W with
    |none=>rw[hl]at h;exact h.elim
    |some v=>rw[hl]at h;exact h
   ·exact h
  ·rename_i hf
   have e1:Eo P ops ev W 6 (.tmp t)=ev (.tmp t):=by
    show(match ops.toList.find? (λo=>match o.dst with|some d=>Nat.beq d t|none=>false)with
      |some o=>cond (C1 P o||j8 o) ((BF P o (Eo P ops ev W 5) W).elim undef λl=>l.head?.elim undef λp=>match p.1 with| .value v=>v|_=>undef) undef
      |none=>ev (.tmp t))=_
    rw[hf]
   rw[e1];exact h
 ·rename_i hx
  cases x with
  |tmp t=>exact(hx t rfl).elim
  |_=>exact h
theorem Us{ops:Array Oper}{ev:Operand→Value}{W:CW}:∀{ps:List (Nat×Operand)} {K:List (Nat×Value)→Prop},lG P ops ev W ps K→K (ps.map λ(i,x)=>(i,Eo P ops ev W 6 x))
 |[],K,h=>h
 |(i,x)::ps,K,h=>by
  have:=Us (cy h);exact this
theorem P3{ops:Array Oper}{ev:Operand→Value}:∀{is:List Nat} {W:CW} {K:List (Nat×Value×Option Am)→CW→Prop},u7 P ops ev is W K→∃fl W1,Z9 P ops ev is W=some (fl,W1)∧K fl W1
 |[],W,K,h=>⟨[],W,rfl,h⟩
 | i::is,W,K,h=>by
  simp only[u7]at h;simp only[Z9]
  split at h
  ·rename_i o ho
   split at h
   ·rename_i t len ps KA;have h:=Us h;have e1:Jj P ops ev W o=Eo P ops ev W 6:=by unfold Jj;simp only[KA]
    rw[e1,oE KA]
    cases hb:W_ P t len (ps.toList.map λ(i,x)=>(i,Eo P ops ev W 6 x)) W with
    |none=>rw[hb]at h;exact h.elim
    |some q=>
     obtain⟨v,W1⟩:=q;rw[hb]at h;obtain⟨hv,_⟩:=gJ hb;subst hv;obtain⟨fl,W2,h1,h2⟩:=P3 h;simp only[zh,h1];exact⟨_,_,rfl,h2⟩
   ·split at h
    ·rename_i v W1 hc;obtain⟨fl,W2,h1,h2⟩:=P3 h;simp only[h1];exact⟨_,_,rfl,h2⟩
    ·exact h.elim
  ·exact h.elim
theorem TK{ops:Array Oper}{i:Nat}{an:List Nat}{ok:CW→Bool}{okP:CW→Prop}(h:∀W,okP W→ok W=true):∀{ws:List (Nat×CW)} {W:CW},Vk ops i an okP ws W→DJ ops i an ok ws W=true
 |[],W,hw=>h W hw
 | (j,Wj)::before,W,hw=>by
  obtain⟨h1,h2⟩:=hw;simp only[DJ,dy,aaQ]
  refine⟨?_,?_⟩
  ·cases ha:anc ops j i with
   |true=>exact .inl rfl
   |false=>rw[ha]at h1;exact .inr (h W h1)
  ·cases hm:CB an j with
   |true=>rfl
   |false=>rw[hm]at h2;exact TK h h2
def RP(P:Program):List (Nat×(CW→Prop))→List (Nat×Oper×AI×Value)→Prop
 |[],[]=>True
 |(i,ok)::rd,(i',o,a,v)::rd'=>(i=i'∧∀W,ok W→BF P o a.eval W=some [(.value v,W)])∧RP P rd rd'
 |_,_=>False
theorem MS(x:Ending×CW):merged (some [x])=some [x]:=rfl
theorem FH{ops:Array Oper}{fl:List (Nat×Value×Option Am)}{K:Env→CW→List (Nat×CW)→List (Nat×(CW→Prop))→Prop}:∀{rest:List Oper} {i:Nat} {sk:List Nat} {e:Env} {W:CW} {ws:List (Nat×CW)} {rd:List (Nat×(CW→Prop))} {a:AI} {ds:List Deferred} {rd':List (Nat×Oper×AI×Value)},
  cu P L ops fl i sk rest e W ws rd K→AE a e ds→RP P rd rd'→∃n s e' Jk,EJ P (DY P L n) ops fl i rest ⟨a,W,ws,rd'⟩=some s∧AE s.a e' ds∧s.a.nt=a.nt∧RP P Jk s.rd∧K e' s.W s.ws Jk
 |[],i,sk,e,W,ws,rd,a,ds,rd',h,ha,hr=>⟨0,_,e,rd,rfl,ha,rfl,hr,h⟩
 | o::rest,i,sk,e,W,ws,rd,a,ds,rd',h,ha,hr=>by
  have up:∀{n m:Nat} (hle:n≤m) {i:Nat} {s s':FE},EJ P (DY P L n) ops fl i rest s=some s'→EJ P (DY P L m) ops fl i rest s=some s':=λhle=>JU (Ds hle)
  have go:∀{n:Nat} {s1 s:FE},BX P (DY P L n) ops fl i o ⟨a,W,ws,rd'⟩=some s1→EJ P (DY P L n) ops fl (i+1) rest s1=some s→EJ P (DY P L n) ops fl i (o::rest) ⟨a,W,ws,rd'⟩=some s:=by
   intro n s1 s h1 h2;simp only[EJ,h1];exact h2
  simp only[cu]at h
  cases hf:fl.find? λp=>Nat.beq p.1 i with
  |some y=>
   obtain⟨i',v,ob⟩:=y;rw[hf]at h;obtain⟨LM,h⟩:=h;obtain⟨n,s,e',Jk,h1,h2,h3,h4,h5⟩:=FH h (ha.put o.dst v) hr;refine⟨n,s,e',Jk,go ?_ h1,h2,by rw[h3,AI.Bd],h4,h5⟩;unfold BX;rw[hf];have uo:∀m,G1 P (DY P L m).eqv o a v ob=true:=λm=>Nu (by rw[ha.eval];exact LM);simp only[uo,cond_true]
  | none=>
   rw[hf]at h;obtain⟨e1,C8,h,HT⟩:=La ha h
   have st:∀{n:Nat},BX P (DY P L n) ops fl i o ⟨a,W,ws,rd'⟩=(match EI ops o a with
     |none=>none
     |some false=>some {(⟨a,W,ws,rd'⟩:FE)with a:=a.put o.dst undef}
     | some true=>
      cond (C1 P o) (match BF P o a.eval W with
       |some [(.value v,_)]=>some {(⟨a,W,ws,rd'⟩:FE)with a:=a.put o.dst v}
       |_=>none)
      (cond (DU P o) (match BF P o a.eval W with
       |some [(.value v,_)]=>some {(⟨a,W,ws,rd'⟩:FE)with a:=a.put o.dst v,rd:=(i,o,a,v)::rd'}
       |_=>none)
      (match BF P o a.eval W with
      |some [(.value v,W1)]=>some {(⟨a,W,ws,rd'⟩:FE)with a:=a.put o.dst v,W:=W1,ws:=(i,W)::ws}
      |some [(.skip,W1)]=>some {(⟨a,W,ws,rd'⟩:FE)with a:=a.put o.dst undef,W:=W1,ws:=(i,W)::ws}
      |some [(.enter f args,W1)]=>match merged ((DY P L n).call f args W1)with
       |some [(.returned v,W2)]=>some {(⟨a,W,ws,rd'⟩:FE)with a:=a.put o.dst v,W:=W2,ws:=(i,W)::ws}
       |_=>none
      |some [(.round l args,W1)]=>match merged ((DY P L n).round l args W1)with
       |some [(.returned v,W2)]=>some {(⟨a,W,ws,rd'⟩:FE)with a:=a.put o.dst v,W:=W2,ws:=(i,W)::ws}
       |_=>none
      |_=>none))):=by
    intro n;unfold BX;rw[hf];rfl
   cases hw:DF ops o a with
   |false=>
    rw[hw]at h HT;simp only[cond_false]at h;obtain⟨n,s,e',Jk,h1,h2,h3,h4,h5⟩:=FH h (C8.put o.dst undef) hr;exact⟨n,s,e',Jk,go (by rw[st,HT]) h1,h2,by rw[h3,AI.Bd],h4,h5⟩
   | true=>
    rw[hw]at h HT;simp only[cond_true]at h;have qW:=C8.eval
    cases hp:C1 P o with
    | true=>
     rw[hp]at h;simp only[cond_true]at h
     cases hx:qV P o e1.ev with
     |none=>rw[hx]at h;exact h.elim
     |some v=>
      rw[hx]at h;obtain⟨n,s,e',Jk,h1,h2,h3,h4,h5⟩:=FH h (C8.put o.dst v) hr;refine⟨n,s,e',Jk,go ?_ h1,h2,by rw[h3,AI.Bd],h4,h5⟩;rw[st,HT];simp only[hp,cond_true,XA hp,qW,hx,vL]
    | false=>
     rw[hp]at h;simp only[cond_false]at h
     cases LN:DU P o with
     | true=>
      rw[LN]at h;simp only[cond_true]at h
      cases hx:er P o e1.ev W with
      |none=>rw[hx]at h;exact h.elim
      |some v=>
       rw[hx]at h;obtain⟨n,s,e',Jk,h1,h2,h3,h4,h5⟩:=FH (rd':=(i,o,a,v)::rd') h (C8.put o.dst v) ⟨⟨rfl,λW' yq=>by rw[MR LN,qW,yq];rfl⟩,hr⟩;refine⟨n,s,e',Jk,go ?_ h1,h2,by rw[h3,AI.Bd],h4,h5⟩;rw[st,HT];simp only[hp,LN,cond_true,cond_false,MR LN,qW,hx,vL]
     | false=>
      rw[LN]at h;simp only[cond_false]at h;obtain⟨p,JW,Gm⟩:=TI h;obtain⟨nx,W1⟩:=p;rw[←qW]at JW
      cases nx with
      |value v=>
       obtain⟨n,s,e',Jk,h1,h2,h3,h4,h5⟩:=FH (a:=a.put o.dst v) Gm (C8.put o.dst v) hr;refine⟨n,s,e',Jk,go ?_ h1,h2,by rw[h3,AI.Bd],h4,h5⟩;rw[st,HT];simp only[hp,LN,cond_false,JW]
      |skip=>
       obtain⟨n,s,e',Jk,h1,h2,h3,h4,h5⟩:=FH (a:=a.put o.dst undef) Gm (C8.put o.dst undef) hr;refine⟨n,s,e',Jk,go ?_ h1,h2,by rw[h3,AI.Bd],h4,h5⟩;rw[st,HT];simp only[hp,LN,cond_false,JW]
      | enter f args=>
       obtain⟨n1,y,hy,hQ⟩:=Gm;obtain⟨en,W2⟩:=y
       cases en with
       |returned v=>
        obtain⟨n,s,e',Jk,h1,h2,h3,h4,h5⟩:=FH (a:=a.put o.dst v) hQ (C8.put o.dst v) hr;refine⟨max n n1,s,e',Jk,go ?_ (up (aa9 _ _) h1),h2,by rw[h3,AI.Bd],h4,h5⟩;rw[st,HT];simp only[hp,LN,cond_false,JW,cw (aaZ n n1) hy,MS]
       |panicked ch=>exact hQ.elim
       |outgrown=>exact hQ.elim
      | round l args=>
       obtain⟨n1,y,hy,hQ⟩:=Gm;obtain⟨en,W2⟩:=y
       cases en with
       |returned v=>
        obtain⟨n,s,e',Jk,h1,h2,h3,h4,h5⟩:=FH (a:=a.put o.dst v) hQ (C8.put o.dst v) hr;refine⟨max n n1,s,e',Jk,go ?_ (up (aa9 _ _) h1),h2,by rw[h3,AI.Bd],h4,h5⟩;rw[st,HT];simp only[hp,LN,cond_false,JW,XB (aaZ n n1) hy,MS]
       |panicked ch=>exact hQ.elim
       |outgrown=>exact hQ.elim
      |defer d=>exact Gm.elim
      |recover=>exact Gm.elim
      |panic v=>exact Gm.elim
theorem OU{n:Nat}{ops:Array Oper}{ws:List (Nat×CW)}{W:CW}:∀{rd:List (Nat×(CW→Prop))} {rd':List (Nat×Oper×AI×Value)},P2 ops ws W rd→RP P rd rd'→
  (rd'.all λ(i,o,a,v)=>DJ ops i (Gh ops i) (λW=>match BF P o a.eval W with|some [(.value u,_)]=>(DY P L n).eqv u v|_=>false) ws W)=true
 |[],[],_,_=>rfl
 |(i,ok)::rd,(i',o,a,v)::rd',h,hr=>by
  obtain⟨⟨rfl,h1⟩,hr⟩:=hr;simp only[abp,dy];refine⟨TK (λW hW=>?_) h.1,OU h.2 hr⟩;rw[h1 W hW];exact XC v
 |[],_::_,_,h=>h.elim
 |_::_,[],_,h=>h.elim
theorem XD{n:Nat}{ops:Array Oper}{ws:List (Nat×CW)}{W:CW}:∀{fl:List (Nat×Value×Option Am)},oD ops ws W fl→(fl.all λ(i,v,ob)=>DJ ops i (Gh ops i) (LV (DY P L n).eqv ops i v ob) ws W)=true
 |[],_=>rfl
 | (i,v,ob)::fl,h=>by
  simp only[abp,dy];refine⟨TK (λW hW=>?_) h.1,XD h.2⟩;unfold ABT at hW;unfold LV
  cases hb:(ops[i]?).any VB with
  |true=>
   rw[hb]at hW;simp only[cond_true]at hW ⊢
   split at hW
   ·obtain⟨c,n,e,h1,h2⟩:=hW;simp only;rw[h1,h2];exact RO
   ·exact hW.elim
  |false=>rw[hb]at hW;exact hW
theorem gK{ops:Array Oper}{a:AI}{e:Env}{ds:List Deferred}{W:CW}{K:Env→CW→Prop}(h:u_ P L ops e W K)(ha:AE a e ds) :
  ∃n a' W' e',Iy P (DY P L n) ops a W=some [(.normal,a',W')]∧AE a' e' ds∧a'.nt=a.nt∧K e' W':=by
 unfold u_ at h;rw[←ha.eval]at h;obtain⟨fl,W1,Bw,h⟩:=P3 h
 rw[←Nt]at Bw
 ·obtain⟨n,s,e',Jk,h1,h2,h3,h4,h5,h6,h7⟩:=FH (ds:=ds) (rd':=[]) h ha trivial;refine⟨n,s.a,s.W,e',?_,h2,h3,h7⟩;unfold Iy;rw[Bw];simp only[h1];have e1:=OU (L:=L) (n:=n) h5 h4;have e2:=XD (L:=L) (n:=n) (P:=P) h6
  show cond (s.rd.all λ(i,o,a,v)=>DJ ops i (Gh ops i) (λW=>match BF P o a.eval W with|some [(.value u,_)]=>(DY P L n).eqv u v|_=>false) s.ws s.W)
   (cond (fl.all λ(i,v,ob)=>DJ ops i (Gh ops i) (LV (DY P L n).eqv ops i v ob) s.ws s.W)
    (some [(Exit.normal,s.a,s.W)]) none) none=_
  rw[e1,e2];rfl
theorem KW{ops:Array Oper}{fl:List (Nat×Value×Option Am)}{i:Nat}{o:Oper}{a:AI}{W:CW}{ws:List (Nat×CW)}{rd':List (Nat×Oper×AI×Value)}{R:C5}(hf:(fl.find? λp=>Nat.beq p.1 i)=none)(HT:EI ops o a=some true):BX P R ops fl i o ⟨a,W,ws,rd'⟩=(
      cond (C1 P o) (match BF P o a.eval W with
       |some [(.value v,_)]=>some {(⟨a,W,ws,rd'⟩:FE)with a:=a.put o.dst v}
       |_=>none)
      (cond (DU P o) (match BF P o a.eval W with
       |some [(.value v,_)]=>some {(⟨a,W,ws,rd'⟩:FE)with a:=a.put o.dst v,rd:=(i,o,a,v)::rd'}
       |_=>none)
      (match BF P o a.eval W with
      |some [(.value v,W1)]=>some {(⟨a,W,ws,rd'⟩:FE)with a:=a.put o.dst v,W:=W1,ws:=(i,W)::ws}
      |some [(.skip,W1)]=>some {(⟨a,W,ws,rd'⟩:FE)with a:=a.put o.dst undef,W:=W1,ws:=(i,W)::ws}
      |some [(.enter f args,W1)]=>match merged (R.call f args W1)with
       |some [(.returned v,W2)]=>some {(⟨a,W,ws,rd'⟩:FE)with a:=a.put o.dst v,W:=W2,ws:=(i,W)::ws}
       |_=>none
      |some [(.round l args,W1)]=>match merged (R.round l args W1)with
       |some [(.returned v,W2)]=>some {(⟨a,W,ws,rd'⟩:FE)with a:=a.put o.dst v,W:=W2,ws:=(i,W)::ws}
       |_=>none
      |_=>none))):=by
 unfold BX;rw[hf];simp only[HT];rfl
theorem Ii{ops:Array Oper}{i0:Nat}{R:C5}{K:List (Nat×(CW→Prop))→Prop}:∀{rest:List Oper} {i:Nat} {sk:List Nat} {e:Env} {W:CW} {ws:List (Nat×CW)} {rd:List (Nat×(CW→Prop))} {a:AI} {ds:List Deferred} {rd':List (Nat×Oper×AI×Value)},
  Ur P ops i0 i sk rest e W rd K→AE a e ds→RP P rd rd'→∃s Jk,C6 (Hy P R ops [] i0) i rest ⟨a,W,ws,rd'⟩=some s∧s.W=W∧s.ws=ws∧RP P Jk s.rd∧K Jk
 |[],i,sk,e,W,ws,rd,a,ds,rd',h,ha,hr=>⟨_,rd,rfl,rfl,rfl,hr,h⟩
 | o::rest,i,sk,e,W,ws,rd,a,ds,rd',h,ha,hr=>by
  simp only[Ur]at h
  have go:∀{s1 s:FE},Hy P R ops [] i0 i o ⟨a,W,ws,rd'⟩=some s1→C6 (Hy P R ops [] i0) (i+1) rest s1=some s→C6 (Hy P R ops [] i0) i (o::rest) ⟨a,W,ws,rd'⟩=some s:=by
   intro s1 s h1 h2;simp only[C6,h1];exact h2
  cases hn:NH ops i0 i with
  |true=>
   rw[hn]at h;obtain⟨s,Jk,h1,h2,h3,h4,h5⟩:=Ii (ws:=ws) (rd':=rd') h (ha.put o.dst undef) hr;exact⟨s,Jk,go (by unfold Hy;rw[hn];rfl) h1,h2,h3,h4,h5⟩
  | false=>
   rw[hn]at h;simp only[cond_false]at h;have hN:Hy P R ops [] i0 i o ⟨a,W,ws,rd'⟩=BX P R ops [] i o ⟨a,W,ws,rd'⟩:=by unfold Hy;rw[hn];rfl
   obtain⟨e1,C8,h,HT⟩:=La ha h
   cases hw:DF ops o a with
   |false=>
    rw[hw]at h HT;simp only[cond_false]at h;obtain⟨s,Jk,h1,h2,h3,h4,h5⟩:=Ii (ws:=ws) (rd':=rd') h (C8.put o.dst undef) hr;refine⟨s,Jk,go ?_ h1,h2,h3,h4,h5⟩;rw[hN];unfold BX;simp only[List.find?_nil,HT]
   | true=>
    rw[hw]at h HT;simp only[cond_true]at h;have qW:=C8.eval
    cases hp:C1 P o with
    | true=>
     rw[hp]at h;simp only[cond_true]at h
     cases hx:qV P o e1.ev with
     |none=>rw[hx]at h;exact h.elim
     |some v=>
      rw[hx]at h;obtain⟨s,Jk,h1,h2,h3,h4,h5⟩:=Ii (ws:=ws) (rd':=rd') h (C8.put o.dst v) hr;refine⟨s,Jk,go ?_ h1,h2,h3,h4,h5⟩;rw[hN,KW rfl HT];simp only[hp,cond_true,XA hp,qW,hx,vL]
    | false=>
     rw[hp]at h;simp only[cond_false]at h
     cases LN:DU P o with
     | true=>
      rw[LN]at h;simp only[cond_true]at h
      cases hx:er P o e1.ev W with
      |none=>rw[hx]at h;exact h.elim
      |some v=>
       rw[hx]at h;obtain⟨s,Jk,h1,h2,h3,h4,h5⟩:=Ii (ws:=ws) (rd':=(i,o,a,v)::rd') h (C8.put o.dst v) ⟨⟨rfl,λW' yq=>by rw[MR LN,qW,yq];rfl⟩,hr⟩;refine⟨s,Jk,go ?_ h1,h2,h3,h4,h5⟩;rw[hN,KW rfl HT];simp only[hp,LN,cond_true,cond_false,MR LN,qW,hx,vL]
     |false=>rw[LN]at h;exact h.elim
def eu(P:Program)(L:List FuncId)(ops:Array Oper)(fl:List (Nat×Value×Option Am))(KP:List PanicEntry→CW→Prop)(K:Env→CW→List (Nat×CW)→List (Nat×(CW→Prop))→Prop)(ds:List Deferred)(nt n i:Nat)(rest:List Oper)(s0:FE):Prop :=
 (∃s e' Jk,EJ P (DY P L n) ops fl i rest s0=some s∧AE s.a e' ds∧s.a.nt=nt∧RP P Jk s.rd∧K e' s.W s.ws Jk)∨
 ∃i0 ch W2 s Jk,i≤i0∧EK P (DY P L n) ops fl i rest s0=some (i0,ch,W2)∧C6 (Hy P (DY P L n) ops fl i0) i rest s0=some s∧(fl.isEmpty&&s.ws.all λx=>CB (Gh ops i0) x.1)=true∧RP P Jk s.rd∧P2 ops s.ws s.W Jk∧KP ch W2
theorem eu.cons{ops:Array Oper}{fl:List (Nat×Value×Option Am)}{KP:List PanicEntry→CW→Prop}{K:Env→CW→List (Nat×CW)→List (Nat×(CW→Prop))→Prop}{ds:List Deferred}{nt n i:Nat}{o:Oper}{rest:List Oper}{s0 s1:FE}(hs:BX P (DY P L n) ops fl i o s0=some s1)
  (h:eu P L ops fl KP K ds nt n (i+1) rest s1):eu P L ops fl KP K ds nt n i (o::rest) s0:=by
 rcases h with⟨s,e',Jk,h1,h2⟩|⟨i0,ch,W2,s,Jk,h0,h1,h2,h3⟩
 ·exact .inl ⟨s,e',Jk,by simp only[EJ,hs];exact h1,h2⟩
 ·refine .inr ⟨i0,ch,W2,s,Jk,by omega,?_,?_,h3⟩
  ·simp only[EK]
   cases hp:Ek P (DY P L n) ops fl i o s0 with
   |some y=>have:=MQ hp;rw[hs]at this;cases this
   |none=>simp only[hs];exact h1
  ·simp only[C6,Hy,na (show i<i0 by omega),cond_false,hs];exact h2
theorem eu.up{ops:Array Oper}{fl:List (Nat×Value×Option Am)}{KP:List PanicEntry→CW→Prop}{K:Env→CW→List (Nat×CW)→List (Nat×(CW→Prop))→Prop}{ds:List Deferred}{nt n m i:Nat}{rest:List Oper}{s0:FE}(hle:n≤m)(h:eu P L ops fl KP K ds nt n i rest s0):eu P L ops fl KP K ds nt m i rest s0:=by
 rcases h with⟨s,e',Jk,h1,h2⟩|⟨i0,ch,W2,s,Jk,h0,h1,h2,h3⟩
 ·exact .inl ⟨s,e',Jk,JU (Ds hle) h1,h2⟩
 ·exact .inr ⟨i0,ch,W2,s,Jk,h0,K6 (Ds hle) h1,K8 (Ww (Ds hle)) h2,h3⟩
theorem EM {ops:Array Oper}{fl:List (Nat×Value×Option Am)}{KP:List PanicEntry→CW→Prop}{K:Env→CW→List (Nat×CW)→List (Nat×(CW→Prop))→Prop}:∀{rest:List Oper} {i:Nat} {sk:List Nat} {e:Env} {W:CW} {ws:List (Nat×CW)} {rd:List (Nat×(CW→Prop))} {a:AI} {ds:List Deferred} {rd':List (Nat×Oper×AI×Value)},
  RN P L ops fl KP i sk rest e W ws rd K→AE a e ds→RP P rd rd'→∃n,eu P L ops fl KP K ds a.nt n i rest ⟨a,W,ws,rd'⟩
 |[],i,sk,e,W,ws,rd,a,ds,rd',h,ha,hr=>⟨0,.inl ⟨_,e,rd,rfl,ha,rfl,hr,h⟩⟩
 | o::rest,i,sk,e,W,ws,rd,a,ds,rd',h,ha,hr=>by
  have nt:∀{n:Nat} {d:Option Tmp} {v:Value} {s1:FE},eu P L ops fl KP K ds (a.put d v).nt n (i+1) rest s1→eu P L ops fl KP K ds a.nt n (i+1) rest s1:=by
   intro n d v s1 hh
   rwa[AI.Bd]at hh
  simp only[RN]at h
  cases hf:fl.find? λp=>Nat.beq p.1 i with
  |some y=>
   obtain⟨i',v,ob⟩:=y;rw[hf]at h;obtain⟨LM,h⟩:=h;obtain⟨n,hn⟩:=EM (rd':=rd') h (ha.put o.dst v) hr;refine⟨n,eu.cons (s1:={(⟨a,W,ws,rd'⟩:FE)with a:=a.put o.dst v}) ?_ (nt hn)⟩;unfold BX;rw[hf];have uo:∀m,G1 P (DY P L m).eqv o a v ob=true:=λm=>Nu (by rw[ha.eval];exact LM);simp only[uo,cond_true]
  | none =>
   rw[hf]at h;obtain⟨e1,C8,h,HT⟩:=La ha h
   cases hw:DF ops o a with
   |false=>
    rw[hw]at h HT;simp only[cond_false]at h;obtain⟨n,hn⟩:=EM (rd':=rd') h (C8.put o.dst undef) hr;refine⟨n,eu.cons (s1:={(⟨a,W,ws,rd'⟩:FE)with a:=a.put o.dst undef}) ?_ (nt hn)⟩;unfold BX;rw[hf];simp only[HT]
   | true =>
    rw[hw]at h HT;simp only[cond_true]at h;have qW:=C8.eval
    cases hp:C1 P o with
    | true=>
     rw[hp]at h;simp only[cond_true]at h
     cases hx:qV P o e1.ev with
     |none=>rw[hx]at h;exact h.elim
     |some v=>
      rw[hx]at h;obtain⟨n,hn⟩:=EM (rd':=rd') h (C8.put o.dst v) hr;refine⟨n,eu.cons (s1:={(⟨a,W,ws,rd'⟩:FE)with a:=a.put o.dst v}) ?_ (nt hn)⟩;rw[KW hf HT];simp only[hp,cond_true,XA hp,qW,hx,vL]
    | false=>
     rw[hp]at h;simp only[cond_false]at h
     cases LN:DU P o with
     | true=>
      rw[LN]at h;simp only[cond_true]at h
      cases hx:er P o e1.ev W with
      |none=>rw[hx]at h;exact h.elim
      |some v=>
       rw[hx]at h;obtain⟨n,hn⟩:=EM (rd':=(i,o,a,v)::rd') h (C8.put o.dst v) ⟨⟨rfl,λW' yq=>by rw[MR LN,qW,yq];rfl⟩,hr⟩;refine⟨n,eu.cons (s1:={(⟨a,W,ws,rd'⟩:FE)with a:=a.put o.dst v,rd:=(i,o,a,v)::rd'}) ?_ (nt hn)⟩;rw[KW hf HT];simp only[hp,LN,cond_true,cond_false,MR LN,qW,hx,vL]
     | false=>
      rw[LN]at h;simp only[cond_false]at h;obtain⟨p,JW,Gm⟩:=TI h;obtain⟨nx,W1⟩:=p;rw[←qW]at JW
      have pan:∀{ch:List PanicEntry} {W2:CW} {n1:Nat},Ek P (DY P L n1) ops fl i o ⟨a,W,ws,rd'⟩=some (ch,W2)→cond (cn o&&fl.isEmpty&&ws.all λx=>CB (Gh ops i) x.1) (Ur P ops i (i+1) sk rest (e1.put o.dst undef) W rd λrd=>P2 ops ws W rd∧KP ch W2) False→∃n,eu P L ops fl KP K ds a.nt n i (o::rest) ⟨a,W,ws,rd'⟩:=by
       intro ch W2 n1 Hv hc;rw[cond_eq_ite]at hc;split at hc
       rotate_left
       ·exact hc.elim
       rename_i LM;simp only[dy]at LM;have LZ:fl=[]:=by simpa using LM.1.2
       subst LZ;obtain⟨s,Jk,h1,h2,h3,h4,h5,h6⟩:=Ii (R:=DY P L n1) (ws:=ws) (rd':=rd') hc (C8.put o.dst undef) hr
       refine⟨n1,.inr ⟨i,ch,W2,s,Jk,aaf _,by simp only[EK,Hv],?_,?_,h4,by rw[h2,h3];exact h5,h6⟩⟩
       ·have AFe:NH ops i i=true:=by unfold NH;simp
        simp only[C6,Hy,AFe,cond_true];exact h1
       ·rw[h3];simp only[LM.2,abT];rfl
      cases nx with
      |value v=>
       obtain⟨n,hn⟩:=EM (rd':=rd') (a:=a.put o.dst v) Gm (C8.put o.dst v) hr;refine⟨n,eu.cons (s1:={(⟨a,W,ws,rd'⟩:FE)with a:=a.put o.dst v,W:=W1,ws:=(i,W)::ws}) ?_ (nt hn)⟩;rw[KW hf HT];simp only[hp,LN,cond_false,JW]
      |skip=>
       obtain⟨n,hn⟩:=EM (rd':=rd') (a:=a.put o.dst undef) Gm (C8.put o.dst undef) hr;refine⟨n,eu.cons (s1:={(⟨a,W,ws,rd'⟩:FE)with a:=a.put o.dst undef,W:=W1,ws:=(i,W)::ws}) ?_ (nt hn)⟩;rw[KW hf HT];simp only[hp,LN,cond_false,JW]
      | enter f args=>
       obtain⟨n1,y,hy,hQ⟩:=Gm;obtain⟨en,W2⟩:=y
       cases en with
       |returned v=>
        obtain⟨n,hn⟩:=EM (rd':=rd') (a:=a.put o.dst v) hQ (C8.put o.dst v) hr;refine⟨max n n1,eu.cons (s1:={(⟨a,W,ws,rd'⟩:FE)with a:=a.put o.dst v,W:=W2,ws:=(i,W)::ws}) ?_ ((nt hn).up (aa9 _ _))⟩;rw[KW hf HT];simp only[hp,LN,cond_false,JW,cw (aaZ n n1) hy,MS]
       |panicked ch=>
        refine pan (n1:=n1) ?_ hQ;unfold Ek;rw[hf];simp only[HT,hp,LN,cond_false,JW,hy]
       |outgrown=>exact hQ.elim
      | round l args=>
       obtain⟨n1,y,hy,hQ⟩:=Gm;obtain⟨en,W2⟩:=y
       cases en with
       |returned v=>
        obtain⟨n,hn⟩:=EM (rd':=rd') (a:=a.put o.dst v) hQ (C8.put o.dst v) hr;refine⟨max n n1,eu.cons (s1:={(⟨a,W,ws,rd'⟩:FE)with a:=a.put o.dst v,W:=W2,ws:=(i,W)::ws}) ?_ ((nt hn).up (aa9 _ _))⟩;rw[KW hf HT];simp only[hp,LN,cond_false,JW,XB (aaZ n n1) hy,MS]
       |panicked ch=>
        refine pan (n1:=n1) ?_ hQ;unfold Ek;rw[hf];simp only[HT,hp,LN,cond_false,JW,hy]
       |outgrown=>exact hQ.elim
      |defer d=>exact Gm.elim
      |recover=>exact Gm.elim
      | panic v=>
       exfalso
       have H0:cn o=false:=by
        unfold cn
        split
        ·rename_i c hc
         split
         ·rename_i f hcf
          exfalso
          simp only[BF,hc,hcf]at JW
          split at JW
          ·split at JW
           ·cases JW
           ·cases JW
          ·rename_i FO
           cases JW
           unfold JI at FO;split at FO<;>cases FO
          ·cases JW
         ·rfl
        ·rfl
       rw[H0]at Gm;exact Gm
theorem cz{ops:Array Oper}{a:AI}{e:Env}{ds:List Deferred}{W:CW}{K:Env→CW→Prop}{KP:List PanicEntry→CW→Prop}(h:lI P L ops e W K KP)(ha:AE a e ds) :
  ∃n,(∃a' W' e',Iy P (DY P L n) ops a W=some [(.normal,a',W')]∧AE a' e' ds∧a'.nt=a.nt∧K e' W')∨∃ch W',Iy P (DY P L n) ops a W=some [(.panic ch,a.bad,W')]∧KP ch W':=by
 unfold lI at h;rw[←ha.eval,←Nt]at h
 split at h
 ·rename_i fl W1 Bw;obtain⟨n,hn⟩:=EM (ds:=ds) (rd':=[]) h ha trivial;refine⟨n,?_⟩
  rcases hn with⟨s,e',Jk,h1,h2,h3,h4,h5,h6,h7⟩|⟨i0,ch,W2,s,Jk,h0,h1,h2,h3,h4,h5,h6⟩
  ·refine .inl ⟨s.a,s.W,e',?_,h2,h3,h7⟩;unfold Iy;rw[Bw];simp only[h1];have e1:=OU (L:=L) (n:=n) h5 h4;have e2:=XD (L:=L) (n:=n) (P:=P) h6
   show cond (s.rd.all λ(i,o,a,v)=>DJ ops i (Gh ops i) (λW=>match BF P o a.eval W with|some [(.value u,_)]=>(DY P L n).eqv u v|_=>false) s.ws s.W)
    (cond (fl.all λ(i,v,ob)=>DJ ops i (Gh ops i) (LV (DY P L n).eqv ops i v ob) s.ws s.W)
     (some [(Exit.normal,s.a,s.W)]) none) none=_
   rw[e1,e2];rfl
  ·refine .inr ⟨ch,W2,?_,h6⟩;unfold Iy;rw[Bw];simp only[K7 h1,h1,h2,h3,cond_true];have e1:=OU (L:=L) (n:=n) h5 h4;show cond (s.rd.all λ(i,o,a,v)=>DJ ops i (Gh ops i) (λW=>match BF P o a.eval W with|some [(.value u,_)]=>(DY P L n).eqv u v|_=>false) s.ws s.W) (some [(Exit.panic ch,a.bad,W2)]) none=_;rw[e1];rfl
 ·exact h.elim
end
section
variable {P:Program}{L:List FuncId}
theorem Ij(n:Nat):DY P L (n+1)=CV P L (DY P L n):=rfl
theorem FI{α β:Type}{x:α}{f:α→Option (List β)}{y:List β}(h:f x=some y):Dq (some [x]) f=some y:=Bo x f h
theorem F_{ro:Option Nat}{fn:FuncId}{nt:Nat}:∀{c:Code} {e:Env} {ds:List Deferred} {W:CW} {K:Exit→Env→List Deferred→CW→Prop},D8 P L ro fn nt c e ds W K→Gi P L ro fn nt c e ds W K:=by
 intro c
 induction c with
 |skip=>
  intro e ds W K h a ha hn;exact⟨1,(.normal,a,W),rfl,e,by rw[ha.2];exact ha,hn,by rw[ha.2];exact h⟩
 |label id=>
  intro e ds W K h a ha hn;exact⟨1,(.normal,a,W),rfl,e,by rw[ha.2];exact ha,hn,by rw[ha.2];exact h⟩
 |exit id=>
  intro e ds W K h a ha hn;exact⟨1,(.exit id,a,W),rfl,e,by rw[ha.2];exact ha,hn,by rw[ha.2];exact h⟩
 |ret=>
  intro e ds W K h a ha hn;exact⟨1,(.ret,a,W),rfl,e,by rw[ha.2];exact ha,hn,by rw[ha.2];exact h⟩
 | region id ops d=>
  intro e ds W K h a ha hn
  cases d with
  |false=>
   obtain⟨n,o,e',h1,h2,h3,h4⟩:=G' h ha;exact⟨n+1,o,h1,e',h2,by rw[h3,hn],h4⟩
  | true=>
   simp only[D8]at h
   cases hm:CB L (fn+1500000)with
   |false=>
    rw[hm]at h;obtain⟨n,a',W',e',h1,h2,h3,h4⟩:=gK h ha;exact⟨n+1,(.normal,a',W'),h1,e',by rw[h2.2];exact h2,by rw[←hn];exact h3,by rw[h2.2];exact h4⟩
   |true=>
    rw[hm]at h
    obtain⟨n,⟨a',W',e',h1,h2,h3,h4⟩|⟨ch,W',h1,h4⟩⟩:=cz h ha
    ·exact⟨n+1,(.normal,a',W'),h1,e',by rw[h2.2];exact h2,by rw[←hn];exact h3,by rw[h2.2];exact h4⟩
    ·refine⟨n+1,(.panic ch,a.bad,W'),h1,Env.bad,⟨λt=>?_,rfl⟩,hn,by show K (.panic ch) Env.bad a.defers W';rw[ha.2];exact h4⟩;show(AI.bad a).at t=Env.bad t;unfold AI.bad AI.at Env.bad;simp only[Tr.Bc,Tr.get_nil,cond_eq_ite,abz];split<;>rfl
 | seq x y Y9 Y'=>
  intro e ds W K h a ha hn;obtain⟨n,⟨x1,a1,W1⟩,h1,e1,h2,h3,h4⟩:=Y9 h a ha hn
  cases x1 with
  |normal=>
   obtain⟨m,o,h5,h6⟩:=Y' h4 a1 h2 h3;refine⟨max n m+1,o,?_,h6⟩;show Q0 ((DY P L (max n m)).code ro fn x a W) ((DY P L (max n m)).code ro fn y)=some [o];rw[JV (aa9 n m) h1];exact FI (JV (aaZ n m) h5)
  |_=>
   refine⟨n+1,_,?_,e1,h2,h3,h4⟩;show Q0 ((DY P L n).code ro fn x a W) ((DY P L n).code ro fn y)=_;rw[h1];exact FI rfl
 | cond c x y Y9 Y'=>
  intro e ds W K h a ha hn;obtain⟨b,hb,h⟩:=lE h;have hc:a.eval c=.bool b:=by rw[ha.eval];exact hb
  cases b with
  |true=>
   obtain⟨n,o,h1,h2⟩:=Y9 h a ha hn;refine⟨n+1,o,?_,h2⟩;show(match a.eval c with| .bool b=>(DY P L n).code ro fn (cond b x y) a W|_=>none)=_;rw[hc];exact h1
  |false=>
   obtain⟨n,o,h1,h2⟩:=Y' h a ha hn;refine⟨n+1,o,?_,h2⟩;show(match a.eval c with| .bool b=>(DY P L n).code ro fn (cond b x y) a W|_=>none)=_;rw[hc];exact h1
 | block id b ih=>
  intro e ds W K h a ha hn;obtain⟨n,⟨x1,a1,W1⟩,h1,e1,h2,h3,h4⟩:=ih h a ha hn
  have key:∀{r:Exit×AI×CW} {f:Exit×AI×CW→PV},(∀e a W,f (e,a,W)=match e with
    | .exit UP=>cond (Nat.beq UP id) (some [(.normal,a,W)]) (some [(.exit UP,a,W)])
    |e=>some [(e,a,W)])→f (x1,a1,W1)=some [r]→(DY P L (n+1)).code ro fn (.block id b) a W=some [r]:=by
   intro r f hf hr
   show(Dq ((DY P L n).code ro fn b a W) λ(e,a,W)=>match e with
    | .exit UP=>cond (Nat.beq UP id) (some [(.normal,a,W)]) (some [(.exit UP,a,W)])
    |e=>some [(e,a,W)])=_
   rw[h1];refine FI ?_;rw[←hr,hf]
  cases x1 with
  | exit UP=>
   cases hq:Nat.beq UP id with
   | true=>
    simp only[CX,hq,cond_true]at h4
    exact⟨n+1,(.normal,a1,W1),key (f:=λ(e,a,W)=>match e with
     | .exit UP=>cond (Nat.beq UP id) (some [(.normal,a,W)]) (some [(.exit UP,a,W)])
     |e=>some [(e,a,W)]) (λe a W=>by cases e<;>rfl) (by simp only[hq,cond_true]),e1,h2,h3,h4⟩
   | false=>
    simp only[CX,hq,cond_false]at h4
    exact⟨n+1,(.exit UP,a1,W1),key (f:=λ(e,a,W)=>match e with
     | .exit UP=>cond (Nat.beq UP id) (some [(.normal,a,W)]) (some [(.exit UP,a,W)])
     |e=>some [(e,a,W)]) (λe a W=>by cases e<;>rfl) (by simp only[hq,cond_false]),e1,h2,h3,h4⟩
  |_=>exact⟨n+1,_,key (f:=λ(e,a,W)=>match e with
     | .exit UP=>cond (Nat.beq UP id) (some [(.normal,a,W)]) (some [(.exit UP,a,W)])
     |e=>some [(e,a,W)]) (λe a W=>by cases e<;>rfl) rfl,e1,h2,h3,h4⟩
 |scope b ih=>
  intro e ds W K h a ha hn;obtain⟨n,o,h1,h2⟩:=ih h a ha hn;exact⟨n+1,o,h1,h2⟩
 |_=>intro e ds W K h;exact h
theorem AFf{ro:Option Nat}{fn:FuncId}{nt:Nat}{b:Code}{K:Exit→Env→List Deferred→CW→Prop}(Inv:Nat→Env→List Deferred→CW→Prop)
  (M1:∀k e ds W,Inv k e ds W→D8 P L ro fn nt b e ds W λx e' FG W'=>match x with
   | .normal=>∃k',k'<k∧Inv k' e' FG W'
   |x=>K x e' FG W'):∀k e ds W,Inv k e ds W→Gi P L ro fn nt (.loop b) e ds W K:=by
 intro k
 induction k using Nat.strongRecOn with
 | ind k ih=>
  intro e ds W hi a ha hn;obtain⟨n,⟨x1,a1,W1⟩,h1,e1,h2,h3,h4⟩:=F_ (M1 k e ds W hi) a ha hn
  cases x1 with
  |normal=>
   obtain⟨k',hk,Jr⟩:=h4;obtain⟨m,o,h5,h6⟩:=ih k' hk e1 a1.defers W1 Jr a1 h2 h3;refine⟨max n m+1,o,?_,h6⟩;show Q0 ((DY P L (max n m)).code ro fn b a W) ((DY P L (max n m)).code ro fn (.loop b))=some [o];rw[JV (aa9 n m) h1];exact FI (JV (aaZ n m) h5)
  |_=>
   refine⟨n+1,_,?_,e1,h2,h3,h4⟩;show Q0 ((DY P L n).code ro fn b a W) ((DY P L n).code ro fn (.loop b))=_;rw[h1];exact FI rfl
def Env.args(args:List Value):Env:=λt=>match args[t]? with
 |some v=>v
 |none=>undef
theorem XE(fn:Func)(args:List Value):AE (IC fn args) (Env.args args) []:=by
 refine⟨λt=>?_,rfl⟩;unfold IC AI.at Env.args;simp only[Tr.KL,aa7,true_and,aa0,acQ,Tr.get_nil]
 by_cases h:t<args.length
 ·rw[aad h,ck h];rfl
 ·rw[aac h,ab1 (by omega)];rfl
def qX(P:Program)(r:ResultVar)(e:Env)(W:CW):Option Value:=match r with
 | .tmp t=>some (e t)
 | .cell s ty=>match e s with
  | .pointer (some p)=>LS P ty p W
  |_=>none
def Jt(P:Program):List ResultVar→Env→CW→Option (List Value)
 |[],_,_=>some []
 | r::rs,e,W=>match qX P r e W with
  |some v=>match Jt P rs e W with
   |some vs=>some (v::vs)
   |none=>none
  |none=>none
def CI(P:Program)(rs:List ResultVar)(e:Env)(W:CW):Option Value:=match Jt P rs e W with
 |some [v]=>some v
 |some vs=>some (.tuple vs.toArray)
 |none=>none
theorem get_at{a:AI}{e:Env}{ds:List Deferred}(h:AE a e ds)(t:Tmp):(match a.t.get t with|some v=>v|none=>undef)=e t:=by
 rw[←h.1 t];unfold AI.at
 cases a.t.get t<;>rfl
theorem zk{a:AI}{e:Env}{ds:List Deferred}(h:AE a e ds){t:Tmp}{p:Addr}(hp:e t=.pointer (some p)):a.t.get t=some (.pointer (some p)):=by
 have:=h.1 t;rw[hp]at this;unfold AI.at at this
 cases hg:a.t.get t with
 |none=>rw[hg]at this;cases this
 |some v=>rw[hg]at this;exact ab8 some this
theorem XF{a:AI}{e:Env}{ds:List Deferred}(ha:AE a e ds){W:CW}:∀{rs:List ResultVar} {vs:List Value},Jt P rs e W=some vs→rs.mapM (IS P a W)=some vs
 |[],vs,h=>by simpa[Jt]using h
 | r::rs,vs,h=>by
  simp only[Jt]at h
  split at h
  ·rename_i v hv
   split at h
   ·rename_i vs' hvs
    cases h
    have h1:IS P a W r=some v:=by
     unfold qX at hv;unfold IS
     split at hv
     ·rename_i t;show some (match a.t.get t with|some v=>v|none=>undef)=some v;rw[get_at ha];exact hv
     ·rename_i s ty
      split at hv
      ·rename_i p hp;show(match a.t.get s with|some (.pointer (some p))=>LS P ty p W|_=>none)=some v;rw[zk ha hp];exact hv
      ·cases hv
    simp only[acN,h1,XF ha hvs];rfl
   ·cases h
  ·cases h
theorem P4{fn:Func}{a:AI}{e:Env}{ds:List Deferred}(ha:AE a e ds){W:CW}{v:Value}(h:CI P fn.results.toList e W=some v):F5 P fn a W=some v:=by
 unfold CI at h;unfold F5
 cases hr:Jt P fn.results.toList e W with
 |none=>rw[hr]at h;cases h
 |some vs=>
  rw[hr]at h;rw[XF ha hr]
  match vs,h with
  |[],h=>exact h
  |[v],h=>exact h
  |_::_::_,h=>exact h
def AQ(P:Program)(fn:Func)(Q:Ending→CW→Prop)(x:Exit)(e:Env):List Deferred→CW→Prop
 |[],W=>match x with
  | .normal=>wV (CI P fn.results.toList e W) λv=>Q (.returned v) W
  | .ret=>wV (CI P fn.results.toList e W) λv=>Q (.returned v) W
  | .panic ch=>Q (.panicked ch) W
  |_=>False
 |d::ds,W=>match d.target with
  | .collected r=>W.obj r=some .deferred∧AQ P fn Q x e ds (W.A6 r .dead)
  |_=>False
def behind(P:Program)(R:C5)(fn:Func)(x:Exit)(a:AI)(W:CW):Ends:=match x with
 | .normal=>leaves P R fn a a.defers .returning W
 | .ret=>leaves P R fn a a.defers .returning W
 | .panic ch=>cond a.My (G2 a.defers ch W) (leaves P R fn a a.defers (.panicking ch) W)
 |_=>none
theorem XG{fn:Func}{e:Env}{Q:Ending→CW→Prop}{ch:List PanicEntry}:∀(ds:List Deferred) (W:CW),AQ P fn Q (.panic ch) e ds W→∃o:Ending×CW,G2 ds ch W=some [o]∧Q o.1 o.2
 |[],W,h=>⟨(.panicked ch,W),rfl,h⟩
 | d::ds,W,h=>by
  obtain⟨tg,ACH⟩:=d
  cases tg with
  |collected r=>
   obtain⟨ho,h⟩:=h;obtain⟨o,h1,h2⟩:=XG ds (W.A6 r .dead) h;exact⟨o,by simp only[G2,ho];exact h1,h2⟩
  |_=>exact h.elim
theorem TL{fn:Func}{a:AI}{e:Env}{Q:Ending→CW→Prop}{R:C5}(ha:AE a e a.defers)(x:Exit):∀(ds:List Deferred) (W:CW),AQ P fn Q x e ds W→∃o:Ending×CW,(match x with
  | .normal=>leaves P R fn a ds .returning W
  | .ret=>leaves P R fn a ds .returning W
  | .panic ch=>leaves P R fn a ds (.panicking ch) W
  |_=>none)=some [o]∧Q o.1 o.2
 | [],W,h=>by
  have fin:wV (CI P fn.results.toList e W) (λv=>Q (.returned v) W)→∃o:Ending×CW,leaves P R fn a [] .returning W=some [o]∧Q o.1 o.2:=by
   intro hw
   cases hv:CI P fn.results.toList e W with
   |none=>rw[hv]at hw;exact hw.elim
   |some v=>
    rw[hv]at hw;exact⟨(.returned v,W),by simp only[leaves,P4 ha hv],hw⟩
  cases x with
  |normal=>exact fin h
  |ret=>exact fin h
  |panic ch=>exact⟨(.panicked ch,W),rfl,h⟩
  |exit id=>exact h.elim
  |goto id=>exact h.elim
  |outgrown=>exact h.elim
 | d::ds,W,h=>by
  obtain⟨tg,ACH⟩:=d
  cases tg with
  |collected r=>
   obtain⟨ho,h⟩:=h;obtain⟨o,h1,h2⟩:=TL ha x ds (W.A6 r .dead) h;refine⟨o,?_,h2⟩
   cases x<;>first|(simp only[leaves,ho];exact h1)|exact h1
  |_=>exact h.elim
theorem lJ{f:FuncId}{fn:Func}{c:Code}{args:List Value}{W:CW}{Q:Ending→CW→Prop}(hL:CB L f=true)(zm:CB L (f+1000000)=false)(hL3:CB L (f+2000000)=false)(hf:P.funcs[f]?=some fn)(hc:fn.body=some c)
  (hle:Nat.ble args.length fn.ntmps=true) (h:D8 P L none f fn.ntmps c (Env.args args) [] W (AQ P fn Q)):AX P L f args W Q:=by
 obtain⟨n,⟨x,a,W1⟩,h1,e,h2,h3,h4⟩:=F_ h (IC fn args) (XE fn args) rfl
 have key:∀{o:Ending×CW},behind P (DY P L n) fn x a W1=some [o]→(DY P L (n+1)).call f args W=some [o]:=by
  intro o ho;rw[Ij];simp only[CV,hL,zm,hL3,hf,hc,hle,aav,cond_false,cond_true,ab4];rw[h1];refine FI ?_;rw[←ho]
  cases x<;>rfl
 simp only at h2 h4
 cases hb:a.My with
 |false=>
  obtain⟨o,e1,e2⟩:=TL (R:=DY P L n) h2 x a.defers W1 h4;exact⟨n+1,o,key (by unfold behind;cases x<;>first|exact e1|(simp only[hb,cond_false];exact e1)),e2⟩
 | true=>
  cases x with
  |panic ch=>
   obtain⟨o,e1,e2⟩:=XG a.defers W1 h4;exact⟨n+1,o,key (by unfold behind;simp only[hb,cond_true];exact e1),e2⟩
  |_=>
   obtain⟨o,e1,e2⟩:=TL (R:=DY P L n) h2 _ a.defers W1 h4;exact⟨n+1,o,key (by unfold behind;exact e1),e2⟩
theorem AX.mono{f:FuncId}{args:List Value}{W:CW}{Q Q':Ending→CW→Prop}(h:AX P L f args W Q)(hq:∀e W,Q e W→Q' e W):AX P L f args W Q':=by
 obtain⟨n,o,h1,h2⟩:=h;exact⟨n,o,h1,hq _ _ h2⟩
theorem Js.mono{l:Nat}{args:List Value}{W:CW}{Q Q':Ending→CW→Prop}(h:Js P L l args W Q)(hq:∀e W,Q e W→Q' e W):Js P L l args W Q':=by
 obtain⟨n,o,h1,h2⟩:=h;exact⟨n,o,h1,hq _ _ h2⟩
theorem HJ{f:FuncId}{W:CW}(hL:CB L f=true)(hL3:CB L (f+2000000)=true){Q:Ending→CW→Prop}(h:Q (.returned (.bool true)) W):AX P L f [] W Q:=by
 refine⟨1,(.returned (.bool true),W),?_,h⟩;rw[Ij];simp only[CV,hL,hL3,aav,cond_false,List.isEmpty_nil,ab9,cond_true]
end
end Go.Ce
namespace Go.Ce
open Go.RowKit (Below)
def Tr.Fi{α:Type}(t:Tr α):List (Nat×α)→Tr α
 |[]=>t
 |p::ps=>(t.set p.1 p.2).Fi ps
def Tr.of{α:Type}(l:List (Nat×α)):Tr α:=Tr.nil.Fi l
def CW.Fi(W:CW)(l:List (Nat×Am))(n:Nat):CW:=⟨W.h.Fi l,n⟩
def AI.Fi(a:AI)(l:List (Nat×Value)):AI:=⟨a.t.Fi l,a.nt,a.defers⟩
def AFg(l:List (Nat×Value))(n:Nat):AI:=⟨Tr.of l,n,[]⟩
def steps:Code→List Code
 | .seq x y=>steps x++steps y
 |c=>[c]
def G_(P:Program)(f:FuncId):Code:=match P.funcs[f]? with
 |some fn=>match fn.body with
  |some c=>c
  |none=>.skip
 |none=>.skip
def B9(P:Program)(f:FuncId):List Code:=steps (G_ P f)
def D2(R:C5)(ro:Option Nat)(fn:FuncId):List Code→AI→CW→PV
 |[],a,W=>some [(.normal,a,W)]
 |c::cs,a,W=>Q0 (R.code ro fn c a W) (D2 R ro fn cs)
def GA:Code→List (Code×Code)
 | .seq x y=>GA x++GA y
 | .cond _ x y=>GA x++GA y
 | .block _ b=>GA b
 | .scope b=>GA b
 | .loop b=>GA b
 | .rangeFunc _ _ a b=>(a,b)::(GA a++GA b)
 |_=>[]
def rfA(P:Program)(f:FuncId)(k:Nat):Code:=match(GA (G_ P f))[k]? with
 |some p=>p.1
 |none=>.skip
def zn(P:Program)(f:FuncId)(k:Nat):Code:=match(GA (G_ P f))[k]? with
 |some p=>p.2
 |none=>.skip
section
variable {P:Program}{L:List FuncId}
def vA(F:Fence)(n:Nat)(P:Program):List Code→(Exit→Act→World→Prop)→Act→World→Prop
 |[],Q=>Q .normal
 |c::cs,Q=>c.wpIn F n P (Exit.then (vA F n P cs Q) Q)
theorem XH{F:Fence}{n:Nat}{Q:Exit→Act→World→Prop}:∀(xs ys:List Code) (a:Act) (w:World),vA F n P (xs++ys) Q a w→vA F n P xs (Exit.then (vA F n P ys Q) Q) a w
 |[],_,_,_,h=>h
 |_::xs,ys,_,_,h=>wpIn_mono h λe a w k=>by
  cases e<;>first|exact XH xs ys _ _ k|exact k
theorem gL{F:Fence}{n:Nat}{Q:Exit→Act→World→Prop}:∀(xs ys:List Code) (a:Act) (w:World),vA F n P xs (Exit.then (vA F n P ys Q) Q) a w→vA F n P (xs++ys) Q a w
 |[],_,_,_,h=>h
 |_::xs,ys,_,_,h=>wpIn_mono h λe a w k=>by
  cases e<;>first|exact gL xs ys _ _ k|exact k
theorem qY{F:Fence}{n:Nat}:∀(c:Code) {Q:Exit→Act→World→Prop} {a:Act} {w:World},vA F n P (steps c) Q a w→c.wpIn F n P Q a w:=by
 intro c;have one:∀{d:Code} {Q:Exit→Act→World→Prop} {a:Act} {w:World},vA F n P [d] Q a w→d.wpIn F n P Q a w:=λh=>wpIn_mono h λe a w k=>by cases e<;>exact k
 induction c with
 |seq x y Y9 Y'=>
  intro Q a w h;exact wpIn_seq (wpIn_mono (Y9 (XH _ _ _ _ h)) λe a w k=>by cases e<;>first|exact Y' k|exact k)
 |_=>intro Q a w h;exact one h
theorem vB{nt:Nat}:∀(c:Code),codeOk P nt false c=true→∀d,d∈steps c→codeOk P nt false d=true:=by
 intro c
 induction c with
 |seq x y Y9 Y'=>
  intro h d hd;simp only[codeOk,dy]at h
  rcases aaB.1 hd with hd|hd
  ·exact Y9 h.1 d hd
  ·exact Y' h.2 d hd
 |_=>
  intro h d hd
  cases dx.1 hd
  exact h
theorem P5{w0:World}{k:Nat}{R:C5}(hS:Wo P w0 k R){f:FuncId}{nt n:Nat}:∀(cs:List Code) {a:AI} {W:CW} {outs:List (Exit×AI×CW)} {ρ:Bk} {w:World} {a':Act} {Q:Exit→Act→World→Prop},
  D2 R none f cs a W=some outs→a.nt=nt→(∀d,d∈cs→codeOk P nt false d=true)→AR ρ a a'→AU P w0 ρ W w→(∀e a2 w2,K3 P w0 ρ W a.nt outs e a2 w2→Q e a2 w2)→vA (F0 P) n P cs Q a' w
 |[],a,W,outs,ρ,w,a',Q,h,_,_,ha,hw,hQ=>by
  cases h
  exact hQ _ _ _ ⟨.normal,a,W,ρ,dx.2 rfl,.refl _,.normal,ha,hw,rfl⟩
 | c::cs,a,W,outs,ρ,w,a',Q,h,hn,Aa,ha,hw,hQ=>by
  simp only[D2]at h
  exact TC (Hz:=none) hS h .none ha hw (by rw[hn];exact Aa _ (ab0 ..)) hQ λ{a1 W1 m ρ1 a1' w1} h1 _ C8 Eg NI hQ1=>
   P5 hS cs h1 (NI.trans hn) (λd hd=>Aa d (abP _ hd)) C8 Eg hQ1
def Part(W V:CW):Prop:=W.sz=V.sz∧∀i o,V.h.get i=some o→∃o',W.h.get i=some o'∧(o=.dead∨o=o')
theorem AU.part{w0:World}{ρ:Bk}{W V:CW}{w:World}(h:AU P w0 ρ W w)(hp:Part W V):AU P w0 ρ V w:=by
 have get:∀i o,V.h.get i=some o→o≠.dead→W.h.get i=some o:=λi o ho hd=>by
  obtain⟨o',h1,h2|h2⟩:=hp.2 i o ho
  ·exact(hd h2).elim
  ·rw[h2];exact h1
 refine⟨λi x hx=>hp.1▸h.VF i x hx,λi o ho=>?_,λi o x ho hd hx=>h.live i o x (get i o ho hd) hd hx,?_,h.below⟩
 ·obtain⟨o',h1,_⟩:=hp.2 i o ho;exact hp.1▸h.top i o' h1
 ·intro i j o u x y ho hom hu hum hx hy K_;exact h.inj i j o u x y (get i o ho (Am.ID hom)) hom (get j u hu (Am.ID hum)) hum hx hy K_
def vC(P:Program)(w0:World)(fn:Func):Exit→Act→World→Prop:=λe a w=>e=.ret∧∃(A:AI) (W:CW) (ρ:Bk),AR ρ A a∧AU P w0 ρ W w∧A.defers=[]∧F5 P fn A W=some (.bool true)
def IH(P:Program)(w0:World)(f:FuncId)(fn:Func)(i:Nat)(A:AI)(W:CW):Prop:=A.nt=fn.ntmps→∀ρ a' w n,AR ρ A a'→AU P w0 ρ W w→vA (F0 P) n P ((B9 P f).drop i) (vC P w0 fn) a' w
theorem IH.seg{w0:World}{f:FuncId}{fn:Func}(hS:∀n,Wo P w0 n (Y8 P L n))(Aa:∀d,d∈B9 P f→codeOk P fn.ntmps false d=true){i:Nat}(j n:Nat){a a1:AI}{W V V1:CW}(h:D2 (Y8 P L n) none f (((B9 P f).drop i).take j) a W=some [(.normal,a1,V)])(hp:Part V V1)
  (hk:IH P w0 f fn (i+j) a1 V1):IH P w0 f fn i a W:=λhn ρ a' w m ha hw=>by
 have e:(B9 P f).drop i=((B9 P f).drop i).take j++(B9 P f).drop (i+j):=by
  rw[←acA,abn]
 rw[e];refine gL _ _ _ _ (P5 (hS n) _ h hn (λd hd=>Aa d (abD (abi hd))) ha hw λe2 a2 w2 hc=>?_);obtain⟨e,A,W2,ρ2,hm,hg,hx,ju,Fq,NI⟩:=hc
 cases dx.1 hm
 cases hx
 exact hk (NI.trans hn) _ _ _ _ ju (Fq.part hp)
theorem IH.end{w0:World}{f:FuncId}{fn:Func}(hS:∀n,Wo P w0 n (Y8 P L n))(Aa:∀d,d∈B9 P f→codeOk P fn.ntmps false d=true){i:Nat}(n:Nat){a a1:AI}{W W1:CW}(h:D2 (Y8 P L n) none f ((B9 P f).drop i) a W=some [(.ret,a1,W1)])(hd:a1.defers=[])(hv:F5 P fn a1 W1=some (.bool true)):IH P w0 f fn i a W:=λhn ρ a' w m ha hw=>by
 refine P5 (hS n) _ h hn (λd hd=>Aa d (abD hd)) ha hw λe2 a2 w2 hc=>?_;obtain⟨e,A,W2,ρ2,hm,hg,hx,ju,Fq,NI⟩:=hc
 cases dx.1 hm
 cases hx
 exact⟨rfl,_,_,_,ju,Fq,hd,hv⟩
theorem gM(hz:ZP P)(Ou:P.follows .mixedOrders=true)(ZR:EN P)(Wu:CK P L){f:FuncId}{fn:Func}(hL:CB L f=true)(hf:P.funcs[f]?=some fn)(hb:fn.body.isSome=true)
  (h:∀w0,(∀n,Wo P w0 n (Y8 P L n))→(∀d,d∈B9 P f→codeOk P fn.ntmps false d=true)→IH P w0 f fn 0 (IC fn []) (W0 0)) (w:World) (k:Nat) :
  CallsIn (F0 P) k P f #[] w (λe w'=>e=.returned (.bool true)∧Below w.heap.size w w'):=by
 have hw:AU P w (λ_=>none) (W0 0) w:=⟨(λi x hx=>by cases hx),(λi o ho=>by cases ho),(λi o x ho=>by cases ho),(λi j o u x y ho=>by cases ho),Below.ABR w⟩
 cases hc:fn.body with
 |none=>rw[hc]at hb;cases hb
 |some c=>
 have hs:B9 P f=steps c:=by unfold B9 G_;rw[hf];simp only[hc]
 have Aa:=Wu.1 f fn c hL hf hc;have:=h w (ACE hz Ou ZR Wu) (by rw[hs];exact vB c Aa) rfl _ _ _ k (TH (args':=#[]) (.nil _) (aa7 _)) hw;rw[abI,hs]at this;refine callsIn_of_wp_marks hf hc ⟨fn,hf⟩ (wpIn_mono (qY c this) λe a2 w2 hC=>?_);obtain⟨rfl,A,W2,ρ2,ju,Fq,hd,hv⟩:=hC;have eh:=ju.defers;rw[hd]at eh;obtain⟨v',hr,qP⟩:=K4 ju.tmps Fq hv
 cases qP
 show LeavesInM (F0 P) k P fn a2.tmps _ a2.defers .returning w2
 cases ue:a2.defers with
 |nil=>exact⟨_,hr,rfl,Fq.below⟩
 |cons x xs=>rw[ue]at eh;cases eh
end
end Go.Ce
namespace Go.Ce
def Env.of(b:Env):List (Nat×Value)→Env
 |[]=>b
 |p::l=>λt=>cond (Nat.beq t p.1) p.2 (Env.of b l t)
theorem AG(b:Env)(d:Nat)(v:Value)(l:List (Nat×Value))(t:Nat):Env.of b ((d,v)::l) t=if t=d then v else Env.of b l t:=by
 simp only[Env.of,cond_eq_ite,abz]
theorem AN(b:Env)(t:Nat):Env.of b [] t=b t:=rfl
def IV:Code→List Code
 | .seq x y=>IV x++IV y
 | .cond _ x y=>IV x++IV y
 | .block _ b=>IV b
 | .scope b=>IV b
 | .loop b=>b::IV b
 | .rangeFunc _ _ a b=>IV a++IV b
 |_=>[]
def GB(P:Program)(f:FuncId)(k:Nat):Code:=match(IV (G_ P f))[k]? with
 |some c=>c
 |none=>.skip
def mkm(W:CW):Option (Value×CW):=some (.map (some W.sz),W.new (.map [] 0))
def AIm(v:Value)(K:List PanicEntry→Prop):Prop:=match v with
 | .iface t y=>K [{v:=.iface t y,recovered:=false}]
 |_=>False
section
variable {P:Program}{L:List FuncId}
theorem vD{f:FuncId}{fn:Func}{args:List Value}{W:CW}{Q:Ending→CW→Prop}(hf:P.funcs[f]?=some fn)(hb:fn.body.isSome=true)(hL:CB L f=true)(zm:CB L (f+1000000)=false)(hL3:CB L (f+2000000)=false)
  (hle:Nat.ble args.length fn.ntmps=true) (h:D8 P L none f fn.ntmps (G_ P f) (Env.args args) [] W (AQ P fn Q)):AX P L f args W Q:=by
 cases hc:fn.body with
 |none=>rw[hc]at hb;cases hb
 |some c=>
  have hbo:G_ P f=c:=by unfold G_;rw[hf];simp only[hc]
  rw[hbo]at h;exact lJ hL zm hL3 hf hc hle h
end
def Bf:List FuncId:=[16+2000000]++([1500072,1500074,1500121]++(List.range 162).filter λf=>Nat.ble 3 f)
end Go.Ce
namespace Go.Ce
open Go Go.Proofs Go.Proofs.Tryz
theorem F1(f:FuncId)(nt:Nat)(vs:List Value)(fn:Func)(Q:Ending→CW→Prop)(W:CW)(hf:prog.funcs[f]?=some fn)(hc:(fn.body.isSome&&(CB Bf f&&(!CB Bf (f+1000000)&&(!CB Bf (f+2000000)&&(Nat.ble vs.length fn.ntmps&&Nat.beq fn.ntmps nt)))))=true)(h:D8 prog Bf none f nt (G_ prog f) (Env.args vs) [] W (AQ prog fn Q)):AX prog Bf f vs W Q:=by
 simp only[dy,aaC,abz]at hc;obtain⟨a,b,c,d,g,rfl⟩:=hc;exact vD hf a b c d g h
@[simp] noncomputable def eC(n:Nat)(v:Value)(l:List (Nat×Value)):List (Nat×Value):=(n,v)::l
@[simp] noncomputable def F2 x0 x1 x2 x3 x4:=eC x0 x1 (eC x2 x3 x4)
@[simp] noncomputable def zz1 x0 x1 x2 x3 x4:=F2 x0 x1 x2 (.bool x3) x4
@[simp] noncomputable def zz2(x0:AB) x1 x2 x3 x4 x5:=x0 x1 (Env.of x2 x3) x4 x5
@[simp] noncomputable def zz3 x0 x1 x2 x3 x4 x5 x6 x7 x8:=zz1 x0 x1 x2 x3 (zz1 x4 x5 x6 x7 x8)
@[simp] noncomputable def A_ x0 x1 x2 x3 x4 x5 x6 x7 x8:=F2 x0 x1 x2 x3 (F2 x4 x5 x6 x7 x8)
@[simp] noncomputable def TM x0 x1 x2 x3 x4:=zz2 x0 .normal x1 x2 x3 x4
@[simp] noncomputable def zz6 x0 x1 x2:=ld prog x0 x1 x2
@[simp] noncomputable def CQ x0 x1 x2 x3:=wV (zz6 x0 x1 x2) x3
@[simp] noncomputable def TN x0:=Value.int .i64 x0
@[simp] noncomputable def MT x0 x1 x2 x3 x4 x5 x6 x7:=zz3 x0 x1 x2 x3 x4 x5 x6 x3 x7
@[simp] noncomputable def ACI x0 x1 x2 x3 x4 x5 x6:=MT x0 x1 x2 x3 x4 x5 x2 x6
@[simp] noncomputable def Gn x0 x1 x2 x3:=zz6 x0 x1 x2=some x3
@[simp] noncomputable def GS x0 x1 x2:=x0∧x1∧x2
@[simp] noncomputable def CJ x0 x1 x2 x3 x4 x5:=zz2 x0 (.panic x1) x2 x3 x4 x5
@[simp] noncomputable def ZU x0 x1 x2 x3 x4 x5:=wV (CF prog x0 x1 x2 x3 x4) x5
@[simp] noncomputable def AFh x0 x1 x2 x3 x4:=wV (lD x0 x1 x2 x3) x4
@[simp] noncomputable def DB x0 x1 x2 x3 x4 x5 x6:=eC x0 x1 (F2 x2 x3 x4 x5 x6)
@[simp] noncomputable def vE x0 x1 x2 x3 x4 x5:=ACI x0 x1 x2 x3 x4 x1 x5
@[simp] noncomputable def zo x0 x1 x2 x3 x4:=vE x0 undef x1 x2 x3 x4
@[simp] noncomputable def Ai(x0:Env):=x0 0
@[simp] noncomputable def XI x0 x1 x2 x3 x4:=ZU x0 x1 true x2 (TN x3) x4
@[simp] noncomputable def AFi(x0:Ending→CW→Prop) x1 x2:=x0 (.returned x1) x2
@[simp] noncomputable def AFj x0 x1 x2(x3:Env) x4 x5:=AFh x0 x1 x2 (x3 x4) x5
@[simp] noncomputable def AFk x0 x1 x2:=eC x0 (.bool x1) x2
@[simp] noncomputable def Gj x0 x1 x2 x3 x4:=zz2 x0 .ret x1 x2 x3 x4
@[simp] noncomputable def Gp x0 x1 x2 x3 x4(x5:Env) x6 x7 x8 x9:=A_ x0 x1 x2 x3 x4 (x5 x6) x7 x8 x9
@[simp] noncomputable def Nv x0 x1 x2 x3:=wV (RL prog x0 x1 x2) x3
@[simp] noncomputable def NL x0 x1(x2:Env) x3 x4 x5:=XI x0 x1 (x2 x3) x4 x5
@[simp] noncomputable def GC x0 x1:=GS x0 True x1
@[simp] noncomputable def TO x0 x1 x2 x3 x4:=AX prog Bf x0 x1 x2 (BO x3 x4)
@[simp] noncomputable def zp x0 x1 x2 x3 x4:=x0∧Gn x1 x2 x3 x4
@[simp] noncomputable def c_ x0 x1 x2(x3:Env) x4 x5 x6:=ZU x0 x1 x2 (x3 x4) x5 x6
@[simp] noncomputable def qZ x0 x1 x2 x3 x4 x5 x6 x7:=D8 prog Bf x0 x1 x2 x3 x4 x5 x6 x7
@[simp] noncomputable def Du:=Value.bool true
@[simp] noncomputable def zq x0 x1 x2:=wV (ext x0 x1) x2
@[simp] noncomputable def Bj x0 x1 x2 x3 x4:=wV (NK prog x0 x1 x2 x3) x4
@[simp] noncomputable def lK x0 x1 x2 x3 x4 x5:=zz2 x0 (.exit x1) x2 x3 x4 x5
@[simp] noncomputable def AFl x0 x1:=GB prog x0 x1
@[simp] noncomputable def HA x0 x1 x2 x3 x4 x5:=GC x0 (TM x1 x2 x3 x4 x5)
@[simp] noncomputable def ET x0 x1 x2 x3 x4 x5:=TO x0 [x1,x2] x3 x4 x5
@[simp] noncomputable def DG x0(x1:Env) x2 x3 x4:=CQ x0 (x1 x2) x3 x4
@[simp] noncomputable def Bl x0 x1 x2 x3 x4 x5:=ACI x0 x1 x2 true x3 x4 x5
@[simp] noncomputable def DV x0 x1:=wV (nck x0) x1
@[simp] noncomputable def KF x0(x1:Env) x2 x3 x4:=Nv x0 (x1 x2) x3 x4
@[simp] noncomputable def Ow x0 x1:=GS x0 x1 True
@[simp] noncomputable def Dl x0 x1 x2 x3:=wV (Kw prog x0 x1 x2) x3
@[simp] noncomputable def BK x0 x1 x2 x3 x4 x5 x6 x7:=A_ x0 x1 x2 x3 x4 x5 x6 x7 []
@[simp] noncomputable def D3 x0 x1:=wV (ngt x0) x1
@[simp] noncomputable def MU x0 x1 x2 x3:=zp True x0 x1 x2 x3
@[simp] noncomputable def Dm x0 x1 x2 x3 x4 x5 x6:=wI x0 x1 (TM x2 x3 x4 x5 x6)
@[simp] noncomputable def CP x0 x1 x2 x3 x4 x5:=ACI x0 x1 x2 false x3 x4 x5
@[simp] noncomputable def As x0 x1 x2:=CQ 9 x0 x1 x2
@[simp] noncomputable def AFm(x0:AB) x1 x2 x3:=x0 .normal x1 x2 x3
@[simp] noncomputable def AFn x0 x1 x2 x3 x4 x5 x6:=zo x0 x1 x2 x3 (zo x4 x1 x2 x5 x6)
@[simp] noncomputable def Ep x0 x1 x2 x3:=F2 x0 x1 x2 x1 x3
@[simp] noncomputable def LA x0 x1 x2 x3:=AFj prog x0 (Ai x1) x1 x2 x3
@[simp] noncomputable def CL:=Value.bool false
@[simp] noncomputable def HM x0 x1 x2 x3 x4:=qZ none x0 x1 (G_ prog x0) (Env.args x2) [] x3 x4
@[simp] noncomputable def qc x0 x1 x2 x3 x4(x5:Env) x6 x7:=DB x0 x1 x2 x3 x4 (x5 x6) x7
@[simp] noncomputable def ED x0 x1 x2 x3:=XI x0 3 x1 x2 x3
@[simp] noncomputable def ALK x0(x1:Env) x2 x3:=AFi x0 (x1 x2) x3
@[simp] noncomputable def TQ x0 x1 x2 x3:=CW.new x0 (.cells .nil x1 x2 x3)
@[simp] noncomputable def Be:=TN 0
@[simp] noncomputable def NM x0 x1 x2 x3:=GC True (Gn x0 x1 x2 x3)
@[simp] noncomputable def DH x0 x1 x2:=LA 51 x0 x1 x2
@[simp] noncomputable def XJ x0 x1 x2 x3 x4 x5 x6 x7:=A_ x0 x1 x2 x3 x4 x5 x6 x3 x7
@[simp] noncomputable def P6 x0 x1 x2 x3 x4 x5 x6 x7:=wI x0 x1 (lK x2 x3 x4 x5 x6 x7)
@[simp] noncomputable def Lb x0 x1 x2 x3 x4:=CJ x0 x1 (Env.args x2) x3 [] x4
@[simp] noncomputable def DW(x0:Env):=x0 10
@[simp] noncomputable def qd x0 x1 x2 x3 x4:=Ow x0 (MU x1 x2 x3 x4)
@[simp] noncomputable def GU x0 x1 x2 x3 x4 x5 x6:=TM x0 x1 (eC x2 x3 x4) x5 x6
@[simp] noncomputable def ABU x0 x1:=Env.of (Env.args x0) x1
@[simp] noncomputable def DD x0 x1 x2 x3:=zz1 x0 x1 x2 false x3
@[simp] noncomputable def Lc x0 x1 x2 x3 x4 x5 x6 x7:=TM x0 x1 (Ep x2 x3 x4 x5) x6 x7
@[simp] noncomputable def Bp x0 x1 x2:=Iw (n_ prog x0 x1) x2
@[simp] noncomputable def JL x0 x1 x2 x3 x4 x5 x6:=XJ x0 x1 x2 undef x3 x4 x5 x6
@[simp] noncomputable def vF x0 x1 x2:=Ab x0 (CX x1 x2)
@[simp] noncomputable def ABV x0 x1(x2:Env) x3 x4 x5:=c_ x0 x1 false x2 x3 (x2 x4) x5
@[simp] noncomputable def KX x0 x1 x2 x3 x4:=ZU x0 x1 false x2 x3 x4
@[simp] noncomputable def Gq x0 x1 x2 x3:=AFh prog x0 x1 x2 x3
@[simp] noncomputable def AFo(x0:Env) x1 x2 x3:=wI (x0 x1) x2 x3
@[simp] noncomputable def AFp x0 x1 x2 x3:=AQ prog x0 x1 .ret x2 [] x3
@[simp] noncomputable def By x0 x1 x2 x3 x4 x5:=AFn x0 x1 false x2 x3 x4 x5
@[simp] noncomputable def H3 x0 x1 x2 x3 x4 x5 x6 x7:=qZ x0 x1 x2 (AFl x1 x3) x4 x5 x6 x7
@[simp] noncomputable def ABW x0 x1 x2 x3:=Gq x0 (Ai x1) x2 x3
@[simp] noncomputable def Ld x0 x1 x2 x3 x4 x5:=GS x0 (Gn x1 x2 x3 x4) x5
@[simp] noncomputable def gN x0 x1 x2 x3 x4 x5 x6 x7 x8:=Gi prog Bf x0 x1 x2 (.loop (AFl x1 x3)) x4 x5 x6 (CX x7 x8)
@[simp] noncomputable def BA x0 x1 x2:=Nv x0 x1 0 x2
@[simp] noncomputable def BN(x0:Env):=x0 1
@[simp] noncomputable def Ft x0 x1 x2 x3:=zz1 x0 x1 x2 true x3
@[simp] noncomputable def Bz x0 x1 x2 x3 x4 x5 x6 x7 x8:=Gp x0 x1 x2 x3 x4 x5 x6 x7 (Ai x5) x8
@[simp] noncomputable def E9 x0 x1 x2 x3:=Gj x0 (Env.args x1) x2 [] x3
@[simp] noncomputable def Fu x0 x1 x2 x3:=F2 x0 x1 x2 x3 []
@[simp] noncomputable def Fv x0 x1 x2 x3 x4 x5:=Bl x0 x1 x2 x3 (Ai x4) x5
@[simp] noncomputable def C9 x0 x1 x2:=CQ 40 x0 x1 x2
@[simp] noncomputable def GZ x0 x1 x2:=ED .gtr x0 x1 x2
@[simp] noncomputable def gO x0 x1 x2 x3 x4:=Ow (NM x0 x1 x2 x3) x4
@[simp] noncomputable def GD x0 x1 x2 x3 x4 x5 x6:=TO x0 [x1,x2,x3] x4 x5 x6
@[simp] noncomputable def H4 x0 x1:=AFk x0 true x1
@[simp] noncomputable def GF x0 x1:=AFk x0 false x1
@[simp] noncomputable def EO(x0:Env):=x0 11
@[simp] noncomputable def Gc x0 x1 x2 x3 x4 x5:=ET x0 x1 (TN x2) x3 x4 x5
@[simp] noncomputable def HV x0 x1 x2 x3:=zo x0 x1 true x2 x3
@[simp] noncomputable def Er x0 x1 x2 x3 x4 x5:=HM x0 x1 [x2,x3] x4 x5
@[simp] noncomputable def Z' x0 x1:=eC x0 x1 []
@[simp] noncomputable def Ik x0:=x0∧True
@[simp] noncomputable def Z_ x0 x1 x2 x3 x4 x5:=JL x0 Du x1 x2 x3 x4 x5
@[simp] noncomputable def Nw x0 x1 x2 x3 x4 x5 x6:=qc x0 x1 x2 x3 x4 x5 x6 []
@[simp] noncomputable def RQ x0 x1 x2:=lH (.pointer x0) x1 x2
@[simp] noncomputable def Ut x0 x1 x2 x3 x4 x5 x6:=wI x0 (TM x1 x2 x3 x4 x5) x6
@[simp] noncomputable def Gr x0 x1 x2 x3 x4:=AFj prog x0 x1 x2 x3 x4
@[simp] noncomputable def DL x0 x1 x2 x3 x4 x5:=AFn x0 x1 true x2 x3 x4 x5
@[simp] noncomputable def CY(x0:Env):=x0 8
@[simp] noncomputable def oF x0 x1 x2 x3:=NL .add 3 x0 x1 x2 x3
@[simp] noncomputable def B_ x0 x1 x2:=oF x0 x1 1 x2
@[simp] noncomputable def Gs x0 x1 x2 x3 x4 x5 x6 x7 x8:=P6 x0 x1 x2 x3 x4 (Z' x5 x6) x7 x8
@[simp] noncomputable def M5 x0 x1 x2 x3 x4:=Z_ x0 x1 x2 Du x3 x4
@[simp] noncomputable def Lf x0 x1 x2 x3:=zo x0 x1 false x2 x3
@[simp] noncomputable def DE(x0:Env):=x0 2
@[simp] noncomputable def DP(x0:Env):=x0 9
@[simp] noncomputable def ALA(x0:AB) x1 x2 x3 x4:=x0 (.exit x1) x2 x3 x4
@[simp] noncomputable def AFq x0 x1 x2:=AFi x0 (.tuple x1) x2
@[simp] noncomputable def HW x0 x1 x2 x3 x4 x5 x6 x7:=HA x0 x1 x2 (eC x3 x4 x5) x6 x7
@[simp] noncomputable def H5 x0 x1 x2 x3 x4 x5 x6:=HM x0 x1 [x2,x3,x4] x5 x6
@[simp] noncomputable def Da(x0:Env):=x0 7
@[simp] noncomputable def Es x0 x1 x2 x3:=Kw prog x0 x1 x2=some x3
@[simp] noncomputable def H6 x0 x1 x2 x3 x4 x5 x6:=Lb x0 x1 [x2,x3,x4] x5 x6
@[simp] noncomputable def C0 x0 x1 x2:=Nv x0 x1 1 x2
@[simp] noncomputable def Et(x0:Env):=x0 6
@[simp] noncomputable def Lg x0 x1 x2 x3 x4 x5 x6:=MT x0 x1 x2 false x3 x4 x5 x6
@[simp] noncomputable def EW x0 x1 x2 x3 x4 x5:=wV (Sq prog x0 x1 x2 x3 x4) x5
@[simp] noncomputable def H7 x0 x1 x2 x3 x4 x5 x6 x7:=gO x0 x1 x2 x3 (NM x4 x5 x6 x7)
@[simp] noncomputable def GG x0:=True∧x0
@[simp] noncomputable def Ju x0 x1 x2:=ED .add x0 x1 x2
@[simp] noncomputable def FQ x0 x1 x2:=ABW 51 x0 x1 x2
@[simp] noncomputable def Dh x0 x1 x2 x3 x4 x5 x6 x7:=A_ x0 x1 x2 x3 x4 x5 x6 x5 x7
@[simp] noncomputable def XK x0 x1 x2 x3 x4 x5 x6:=AFo x0 x1 x2 (AFm x3 x4 x5 x6)
@[simp] noncomputable def H8 x0 x1 x2 x3 x4 x5 x6 x7 x8:=DD x0 x1 x2 (CP x3 x4 x5 x6 x7 x8)
@[simp] noncomputable def Jv x0 x1 x2 x3:=Ik (Gn x0 x1 x2 x3)
@[simp] noncomputable def Fw x0 x1 x2:=Dl 40 x0 x1 x2
@[simp] noncomputable def Di(x0:Env):=x0 3
@[simp] noncomputable def Db x0 x1:=zq x0 0 x1
@[simp] noncomputable def Dc x0 x1:=zq x0 1 x1
@[simp] noncomputable def JM x0 x1 x2 x3 x4 x5 x6:=Ft x0 x1 x2 (HV x3 x4 x5 x6)
@[simp] noncomputable def HX x0 x1 x2 x3 x4 x5:=Lb x0 x1 [x2,x3] x4 x5
@[simp] noncomputable def oG x0 x1 x2 x3 x4 x5:=Nw x0 x1 x2 x1 x3 x4 x5
@[simp] noncomputable def GH x0 x1 x2 x3:=Iw (bxw prog x0 x1 x2) x3
@[simp] noncomputable def XL x0 x1 x2 x3 x4 x5 x6:=qd (MU x0 x1 x2 x3) x4 x5 x2 x6
@[simp] noncomputable def DQ x0 x1 x2 x3:=KX x0 3 x1 x2 x3
@[simp] noncomputable def Lh x0 x1 x2:=ED .sub x0 x1 x2
@[simp] noncomputable def Il x0 x1 x2 x3 x4 x5 x6 x7 x8 x9:=Lg x0 x1 x2 x3 x4 x5 (Lf x6 x7 x8 x9)
@[simp] noncomputable def GI(x0:Env):=x0 5
@[simp] noncomputable def KY x0 x1 x2 x3 x4:=Ow x0 (Gn x1 x2 x3 x4)
@[simp] noncomputable def FR x0 x1 x2 x3 x4 x5:=DB x0 x1 x2 x1 x3 x4 x5
@[simp] noncomputable def GJ x0 x1 x2 x3 x4:=TO x0 [x1] x2 x3 x4
@[simp] noncomputable def ALB(x0:AB) x1 x2 x3:=x0 .ret x1 x2 x3
@[simp] noncomputable def EY x0 x1 x2 x3 x4 x5 x6 x7:=A_ x0 x1 x2 x1 x3 x4 x5 x6 x7
@[simp] noncomputable def KZ x0(x1:Env) x2 x3 x4 x5:=Gr x0 (x1 x2) x3 x4 x5
@[simp] noncomputable def M6 x0 x1 x2:=Env.args [x0,x1,x2]
@[simp] noncomputable def E_ x0 x1 x2 x3 x4 x5 x6 x7 x8:=Gp x0 x1 x2 x3 x4 x5 x6 x7 x8 []
@[simp] noncomputable def Jw x0 x1 x2 x3 x4 x5 x6 x7:=Ut x0 x1 x2 (H4 x3 x4) x5 x6 x7
@[simp] noncomputable def D9 x0 x1 x2 x3:=KF x0 x1 x2 1 x3
@[simp] noncomputable def M7 x0 x1 x2 x3:=Dl x0 (Ai x1) x2 x3
@[simp] noncomputable def D_ x0 x1 x2:=NL .sub 3 x0 x1 1 x2
@[simp] noncomputable def Jx x0 x1 x2 x3 x4 x5 x6 x7 x8:=Ld x0 x1 x2 x3 x4 (Gn x5 x6 x7 x8)
@[simp] noncomputable def gP x0 x1 x2 x3:=M5 x0 x1 83 x2 x3
@[simp] noncomputable def XM(x0:AB) x1 x2 x3 x4:=x0 (.panic x1) x2 x3 x4
@[simp] noncomputable def EA x0 x1 x2 x3:=Bj 9 x0 x1 x2 x3
@[simp] noncomputable def Li x0 x1 x2 x3 x4 x5:=Iw (app x0 x1 x2 x3 x4) x5
@[simp] noncomputable def Km x0 x1 x2 x3 x4 x5 x6 x7:=wI x0 x1 (HA x2 x3 x4 x5 x6 x7)
@[simp] noncomputable def Dd x0 x1 x2 x3 x4 x5 x6:=H3 x0 x1 x2 0 x3 x4 x5 x6
@[simp] noncomputable def Gd x0 x1 x2 x3 x4 x5:=XL x0 x1 x2 x3 x0 x4 x5
@[simp] noncomputable def HK x0 x1 x2 x3 x4 x5:=ZU x0 x1 true x2 (.int x3 x4) x5
@[simp] noncomputable def EB x0 x1 x2 x3 x4 x5:=gN none x0 x1 0 (ABU x2 x3) [] x4 0 x5
@[simp] noncomputable def Gt x0 x1 x2 x3 x4 x5 x6:=Lc x0 x1 x2 x3 x4 [] x5 x6
@[simp] noncomputable def Gu x0 x1:=vF x0 1 x1
@[simp] noncomputable def M8 x0 x1 x2 x3 x4 x5:=Iw (W_ x0 x1 x2 x3 x4) x5
@[simp] noncomputable def M9 x0 x1:=Env.args [x0,x1]
@[simp] noncomputable def Fx x0:=TQ x0 2 #[.string ⟨#[]⟩,.slice none 0 0] 56
@[simp] noncomputable def Nx x0 x1 x2 x3 x4 x5 x6 x7:=TO x0 [x1,x2,x3,x4] x5 x6 x7
@[simp] noncomputable def FT x0 x1 x2:=CQ 3 x0 x1 x2
@[simp] noncomputable def Kn x0 x1 x2 x3 x4:=ET 135 x0 x1 x2 x3 x4
@[simp] noncomputable def Ko x0 x1 x2 x3 x4 x5 x6 x7 x8 x9:=gN x0 x1 x2 x3 (Env.of x4 x5) x6 x7 x8 x9
@[simp] noncomputable def RR x0 x1 x2 x3:=wV (some (Value.func (.func x0) x1 x2)) x3
@[simp] noncomputable def HY x0 x1 x2 x3 x4 x5:=DB x0 x1 x2 x3 x4 x5 []
@[simp] noncomputable def JN x0 x1 x2:=gP 83 x0 x1 x2
@[simp] noncomputable def H9 x0 x1 x2 x3 x4 x5:=c_ x0 x1 false x2 x3 x4 x5
@[simp] noncomputable def RT x0 x1:=CW.obj x0 (CW.sz x1)
@[simp] noncomputable def FU x0 x1 x2 x3:=ABV .lss 3 x0 x1 x2 x3
@[simp] noncomputable def Lj x0 x1 x2 x3 x4:=E9 x0 [x1,x2] x3 x4
@[simp] noncomputable def aA x0 x1 x2 x3 x4 x5:=Gj x0 x1 (GF x2 x3) x4 x5
@[simp] noncomputable def Im x0 x1 x2 x3 x4:=ABV x0 3 x1 x2 x3 x4
@[simp] noncomputable def PI x0 x1 x2 x3:=Im .add x0 x1 x2 x3
@[simp] noncomputable def GK x0 x1 x2 x3 x4 x5 x6 x7:=TM x0 x1 (oG x2 x3 x4 x5 x1 x2) x6 x7
def TR(ro:Option Nat)(K:AB):AB:=Ab (λe ds W=>K .ret e ds W) K
def dA(ro:Option Nat)(K:AB):AB:=Ab (λa b c=>TO 16 [] c (λc d=>Km c (NL .eql 30 a 28 213 λf=>let c:=Ep 198 f 197 (Bl 196 f 194 195 (a 28) (Ep 194 c 193 []));Km f (Dl 51 (a 24) d λf=>ED .eql f 1 λg=>let c:=Ep 203 g 202 (Ft 201 g 198 (Bl 200 f 198 199 (a 24) c));Km g (Gq 51 (a 24) Be λg=>As g d λh=>LA 22 a 4 λi=>BA 48 i λj=>As j d λk=>KX .eql 9 h k λl=>HA ((Jv 9 j d k)∧Ow (Jv 9 g d h) (Ik (Es 51 (a 24) d f))) (TR ro K) a (Ep 10 l 213 (Ft 212 l 203 (Bl 211 k 203 210 j (Bl 209 i 203 208 (a 4) (Bl 207 (Ai a) 203 206 h (Bl 205 g 203 204 (a 24) c)))))) b d) (Ik (Ik (Es 51 (a 24) d f))) (TR ro K) a (Lg 10 CL 213 212 undef 203 (By 211 203 210 209 208 (By 207 203 206 205 204 c))) b d) True (TR ro K) a (Lg 10 CL 213 212 undef 203 (By 211 203 210 209 208 (By 207 203 206 205 204 (Il 203 CL 202 201 undef 198 200 198 199 c)))) b d) True (TR ro K) a (DD 10 CL 213 (By 212 203 211 210 209 (By 208 203 207 206 205 (Il 204 undef 203 203 CL 202 201 198 200 (Il 199 undef 198 198 CL 197 196 194 195 (Ep 194 c 193 [])))))) b d) λ_ _=>False) K
def gQ:=by
 have h:=@dA.eq_1;dsimp at h;exact h
def P7(ro:Option Nat)(K:AB):AB:=Ab (λe ds W=>(dA ro K) .ret e ds W) (dA ro K)
def TS(ro:Option Nat)(K:AB):AB:=Ab (λa b c=>M8 prog 22 0 [] c λd f=>wV (Sp prog 22 (Ai a) none (some (a 4)) none f) λg=>Li prog [22,22] d g f λh i=>B_ a 4 λj=>wV (Sp prog 22 (Ai a) (some j) none none i) λk=>Li prog [22,22] h k i λl m=>let d:=EY 156 l 23 155 l 154 k (A_ 153 j 152 (a 4) 151 (Ai a) 150 h (BK 149 g 148 (a 4) 147 (Ai a) 146 d));GC (Ow (GG (GS (Sp prog 22 (Ai a) (some j) none none i=some k) (Sp prog 22 (Ai a) (some j) none none f=some k) (Sp prog 22 (Ai a) (some j) none none c=some k))) (GG (GS True (Sp prog 22 (Ai a) none (some (a 4)) none f=some g) (Sp prog 22 (Ai a) none (some (a 4)) none c=some g)))) (GJ 23 l m (λc f=>XI .neq 30 c 0 λg=>let c:=F2 158 g 157 c d;wI g (TO 16 [] f (λd f=>Gj K a (Ep 10 d 159 c) b f) λd f=>CJ K d a c b f) (ET 25 l (EO a) f (λd f=>Db d λg=>Dc d λh=>let c:=F2 168 (EO a) 167 l (XJ 25 h 24 g 165 h 164 (Gp 160 d 163 d 162 a 11 161 l c));GD 19 l (.slice none 0 0) (EO a) f (λd f=>Db d λi=>Dc d λj=>zq d 2 λk=>XI .neq 30 h 0 λl=>let c:=F2 174 l 173 h (A_ 28 k 27 j 26 i 172 k (Dh 171 j 170 i 166 d 169 c));wI l (aA K a 10 c b f) (Dl 51 g f λd=>ED .eql d 0 λh=>let c:=DB 177 h 176 d 175 g c;Dm h (TO 16 [] f (λd f=>Dm d (XI .eql 30 k 0 λg=>let c:=Ep 183 g 182 (Bl 181 g 179 180 k (Ep 179 d 178 c));Dm g (DQ .eql j (a 14) λd=>let c:=Ep 188 d 187 (Ft 186 d 183 (Bl 185 (a 14) 183 184 j c));let g:=H4 188 (Bl 190 i 188 189 (a 13) c);Dm d (ET 24 (a 13) i f (λc d=>TM (P7 ro K) a (FR 10 c 192 191 c g) b d) λc d=>CJ (P7 ro K) c a g b d) (P7 ro K) a (Il 10 CL 192 191 undef 188 190 188 189 c) b f) (P7 ro K) a (Il 10 CL 192 191 undef 188 190 188 189 (Il 188 CL 187 186 undef 183 185 183 184 c)) b f) (P7 ro K) a (DD 10 CL 192 (Lf 191 188 190 (Il 189 undef 188 188 CL 187 186 183 185 (Il 184 undef 183 183 CL 182 181 179 180 (Ep 179 d 178 c))))) b f) λd f=>CJ (P7 ro K) d a c b f) (dA ro K) a c b f)) λd f=>CJ K d a c b f) λd f=>CJ K d a (F2 162 (EO a) 161 l c) b f)) λc f=>CJ K c a d b f)) K
def gR:=by
 have h:=@TS.eq_1;dsimp at h;exact h
def dB(ro:Option Nat)(K:AB):AB:=Ab (λa b c=>XK a 144 (TO 16 [] c (λc d=>Gj (TS ro K) a (Ep 10 c 145 []) b d) λc d=>XM (TS ro K) c a b d) (TS ro K) a b c) (TS ro K)
def gS:=by
 have h:=@dB.eq_1;dsimp at h;exact h
def MV(ro:Option Nat)(K:AB):AB:=Ab (λa b c=>NL .lss 3 a 4 0 λd=>let f:=oG 139 d 138 137 a 4;Jw d (dB ro K) a 144 (DL 143 139 142 141 140 f) b c (M7 22 a c λd=>H9 .geq 3 a 4 d λg=>GU (dB ro K) a 144 g (CP 143 g 139 142 d (CP 141 (Ai a) 139 140 (a 4) f)) b c)) K
def vG:=by
 have h:=@MV.eq_1;dsimp at h;exact h
def P8(ro:Option Nat)(K:AB):AB:=Ab (λe ds W=>wI (e 136) ((MV ro K) .ret (Env.of e [(10,(.bool false))]) ds W) ((MV ro K) .normal e ds W)) (MV ro K)
def lL(ro:Option Nat)(K:AB):AB:=Ab (λe ds W=>Iw (W_ prog 22 0 [] W) λ_q0 NN=>wV (ld prog 48 (e 6) NN) λAIn=>Iw (W_ prog 22 1 [(0,AIn)] NN) λ_q6 tI=>(∃W1,W_ prog 22 0 [] ⟨.nil,W.sz⟩=some ((.slice (some ⟨W.sz,0,none⟩) 0 0),W1)∧W1.obj W.sz=(NN.obj W.sz))∧wV (Sp prog 22 (e 0) none (some (e 16)) none tI) λtJ=>Iw (app prog [22,22] (.slice (some ⟨W.sz,0,none⟩) 0 0) tJ tI) λtK W7=>wV (ld prog 48 (e 6) W7) λqe=>(∃W1,W_ prog 22 1 [(0,qe)] ⟨.nil,NN.sz⟩=some ((.slice (some ⟨NN.sz,0,none⟩) 1 1),W1)∧W1.obj NN.sz=(tI.obj NN.sz))∧Iw (app prog [22,22] tK (.slice (some ⟨NN.sz,0,none⟩) 1 1) W7) λtM W8=>wV (Sp prog 22 (e 0) (some (e 16)) none none W8) λoH=>Iw (app prog [22,22] tM oH W8) λJX W9=>(((True)∧((Sp prog 22 (e 0) (some (e 16)) none none W8=some oH)∧((Sp prog 22 (e 0) (some (e 16)) none none W7=some oH)∧Sp prog 22 (e 0) (some (e 16)) none none tI=some oH)))∧(((True)∧((True)∧((ld prog 48 (e 6) W7=some qe)∧ld prog 48 (e 6) tI=some qe)))∧(((True)∧((True)∧((True)∧Sp prog 22 (e 0) none (some (e 16)) none tI=some tJ)))∧True)))∧(((True)∧((True)∧((True)∧∃c n e,tI.obj W.sz=some (.cells c n #[] e)∧(NN.obj W.sz)=some (.cells c n #[] e))))∧(((True)∧((True)∧((∃c n e,W7.obj NN.sz=some (.cells c n #[] e)∧(tI.obj NN.sz)=some (.cells c n #[] e))∧∃c n e,tI.obj NN.sz=some (.cells c n #[] e)∧(tI.obj NN.sz)=some (.cells c n #[] e))))∧True))∧AX prog Bf 23 [JX] W9 (BO (λyr W35=>wV (CF prog .eql 30 true yr (.int .i64 0)) λyt=>wI yt (AX prog Bf 19 [JX,(.slice none 0 0),(e 11)] W35 (BO (λNy W37=>wV (ext Ny 0) λLB=>wV (ext Ny 1) λMW=>wV (ext Ny 2) λLC=>AX prog Bf 17 [JX,(.slice none 0 0),(e 2),(e 3)] W37 (BO (λRU W39=>wV (ext RU 0) λRV=>wV (ext RU 1) λNO=>wV (CF prog .neq 30 true LC (.int .i64 0)) λTU=>wI TU ((P8 ro K) .normal (Env.of e [(136,(.bool true)),(135,undef),(130,(.bool true)),(134,undef),(130,(.bool true)),(133,undef),(130,(.bool true)),(132,undef),(130,(.bool true)),(131,undef),(130,(.bool true)),(130,(.bool true)),(129,(.bool true)),(128,undef),(124,(.bool true)),(127,undef),(124,(.bool true)),(126,undef),(124,(.bool true)),(125,undef),(124,(.bool true)),(124,(.bool true)),(123,(.bool true)),(122,undef),(119,(.bool true)),(121,undef),(119,(.bool true)),(120,undef),(119,(.bool true)),(119,(.bool true)),(118,(.bool true)),(117,undef),(115,(.bool true)),(116,undef),(115,(.bool true)),(115,TU),(114,TU),(113,LC),(22,NO),(21,RV),(112,NO),(111,RV),(106,RU),(110,RU),(109,(e 3)),(108,(e 2)),(107,JX),(20,LC),(19,MW),(18,LB),(105,LC),(104,MW),(103,LB),(99,Ny),(102,Ny),(101,(e 11)),(100,JX),(98,yt),(97,yr),(96,JX),(17,JX),(95,JX),(94,oH),(93,(e 16)),(92,(e 0)),(91,tM),(90,(.slice (some ⟨NN.sz,0,none⟩) 1 1)),(89,qe),(88,tK),(87,tJ),(86,(e 16)),(85,(e 0)),(84,(.slice (some ⟨W.sz,0,none⟩) 0 0))]) ds W39) (wV (CF prog .neq 30 true NO (.int .i64 0)) λOx=>wI Ox ((P8 ro K) .normal (Env.of e [(136,(.bool true)),(135,undef),(130,(.bool true)),(134,undef),(130,(.bool true)),(133,undef),(130,(.bool true)),(132,undef),(130,(.bool true)),(131,undef),(130,(.bool true)),(130,(.bool true)),(129,(.bool true)),(128,undef),(124,(.bool true)),(127,undef),(124,(.bool true)),(126,undef),(124,(.bool true)),(125,undef),(124,(.bool true)),(124,(.bool true)),(123,(.bool true)),(122,undef),(119,(.bool true)),(121,undef),(119,(.bool true)),(120,undef),(119,(.bool true)),(119,Ox),(118,Ox),(117,Ox),(115,(.bool false)),(116,NO),(115,(.bool false)),(115,TU),(114,TU),(113,LC),(22,NO),(21,RV),(112,NO),(111,RV),(106,RU),(110,RU),(109,(e 3)),(108,(e 2)),(107,JX),(20,LC),(19,MW),(18,LB),(105,LC),(104,MW),(103,LB),(99,Ny),(102,Ny),(101,(e 11)),(100,JX),(98,yt),(97,yr),(96,JX),(17,JX),(95,JX),(94,oH),(93,(e 16)),(92,(e 0)),(91,tM),(90,(.slice (some ⟨NN.sz,0,none⟩) 1 1)),(89,qe),(88,tK),(87,tJ),(86,(e 16)),(85,(e 0)),(84,(.slice (some ⟨W.sz,0,none⟩) 0 0))]) ds W39) (wV (CF prog .neq 3 false MW (e 14)) λTV=>wI TV ((P8 ro K) .normal (Env.of e [(136,(.bool true)),(135,undef),(130,(.bool true)),(134,undef),(130,(.bool true)),(133,undef),(130,(.bool true)),(132,undef),(130,(.bool true)),(131,undef),(130,(.bool true)),(130,(.bool true)),(129,(.bool true)),(128,undef),(124,(.bool true)),(127,undef),(124,(.bool true)),(126,undef),(124,(.bool true)),(125,undef),(124,(.bool true)),(124,TV),(123,TV),(122,TV),(119,(.bool false)),(121,(e 14)),(119,(.bool false)),(120,MW),(119,(.bool false)),(119,Ox),(118,Ox),(117,Ox),(115,(.bool false)),(116,NO),(115,(.bool false)),(115,TU),(114,TU),(113,LC),(22,NO),(21,RV),(112,NO),(111,RV),(106,RU),(110,RU),(109,(e 3)),(108,(e 2)),(107,JX),(20,LC),(19,MW),(18,LB),(105,LC),(104,MW),(103,LB),(99,Ny),(102,Ny),(101,(e 11)),(100,JX),(98,yt),(97,yr),(96,JX),(17,JX),(95,JX),(94,oH),(93,(e 16)),(92,(e 0)),(91,tM),(90,(.slice (some ⟨NN.sz,0,none⟩) 1 1)),(89,qe),(88,tK),(87,tJ),(86,(e 16)),(85,(e 0)),(84,(.slice (some ⟨W.sz,0,none⟩) 0 0))]) ds W39) (AX prog Bf 24 [(e 13),LB] W39 (BO (λACJ W42=>wV (ngt ACJ) λlM=>wI lM ((P8 ro K) .normal (Env.of e [(136,(.bool true)),(135,undef),(130,(.bool true)),(134,undef),(130,(.bool true)),(133,undef),(130,(.bool true)),(132,undef),(130,(.bool true)),(131,undef),(130,(.bool true)),(130,lM),(129,lM),(128,lM),(124,(.bool false)),(127,ACJ),(124,(.bool false)),(126,LB),(124,(.bool false)),(125,(e 13)),(124,(.bool false)),(124,TV),(123,TV),(122,TV),(119,(.bool false)),(121,(e 14)),(119,(.bool false)),(120,MW),(119,(.bool false)),(119,Ox),(118,Ox),(117,Ox),(115,(.bool false)),(116,NO),(115,(.bool false)),(115,TU),(114,TU),(113,LC),(22,NO),(21,RV),(112,NO),(111,RV),(106,RU),(110,RU),(109,(e 3)),(108,(e 2)),(107,JX),(20,LC),(19,MW),(18,LB),(105,LC),(104,MW),(103,LB),(99,Ny),(102,Ny),(101,(e 11)),(100,JX),(98,yt),(97,yr),(96,JX),(17,JX),(95,JX),(94,oH),(93,(e 16)),(92,(e 0)),(91,tM),(90,(.slice (some ⟨NN.sz,0,none⟩) 1 1)),(89,qe),(88,tK),(87,tJ),(86,(e 16)),(85,(e 0)),(84,(.slice (some ⟨W.sz,0,none⟩) 0 0))]) ds W42) (wV (zf prog 29 9 RV W42) λAFr=>wV (zf prog 29 9 (e 11) W42) λAFs=>wV (CF prog .neq 9 false AFr AFs) λAFt=>(P8 ro K) .normal (Env.of e [(136,AFt),(135,AFt),(130,(.bool false)),(134,AFs),(130,(.bool false)),(133,(e 11)),(130,(.bool false)),(132,AFr),(130,(.bool false)),(131,RV),(130,(.bool false)),(130,lM),(129,lM),(128,lM),(124,(.bool false)),(127,ACJ),(124,(.bool false)),(126,LB),(124,(.bool false)),(125,(e 13)),(124,(.bool false)),(124,TV),(123,TV),(122,TV),(119,(.bool false)),(121,(e 14)),(119,(.bool false)),(120,MW),(119,(.bool false)),(119,Ox),(118,Ox),(117,Ox),(115,(.bool false)),(116,NO),(115,(.bool false)),(115,TU),(114,TU),(113,LC),(22,NO),(21,RV),(112,NO),(111,RV),(106,RU),(110,RU),(109,(e 3)),(108,(e 2)),(107,JX),(20,LC),(19,MW),(18,LB),(105,LC),(104,MW),(103,LB),(99,Ny),(102,Ny),(101,(e 11)),(100,JX),(98,yt),(97,yr),(96,JX),(17,JX),(95,JX),(94,oH),(93,(e 16)),(92,(e 0)),(91,tM),(90,(.slice (some ⟨NN.sz,0,none⟩) 1 1)),(89,qe),(88,tK),(87,tJ),(86,(e 16)),(85,(e 0)),(84,(.slice (some ⟨W.sz,0,none⟩) 0 0))]) ds W42)) (λAIo W43=>(P8 ro K) (.panic AIo) (Env.of e [(124,(.bool false)),(126,LB),(124,(.bool false)),(125,(e 13)),(124,(.bool false)),(124,TV),(123,TV),(122,TV),(119,(.bool false)),(121,(e 14)),(119,(.bool false)),(120,MW),(119,(.bool false)),(119,Ox),(118,Ox),(117,Ox),(115,(.bool false)),(116,NO),(115,(.bool false)),(115,TU),(114,TU),(113,LC),(22,NO),(21,RV),(112,NO),(111,RV),(106,RU),(110,RU),(109,(e 3)),(108,(e 2)),(107,JX),(20,LC),(19,MW),(18,LB),(105,LC),(104,MW),(103,LB),(99,Ny),(102,Ny),(101,(e 11)),(100,JX),(98,yt),(97,yr),(96,JX),(17,JX),(95,JX),(94,oH),(93,(e 16)),(92,(e 0)),(91,tM),(90,(.slice (some ⟨NN.sz,0,none⟩) 1 1)),(89,qe),(88,tK),(87,tJ),(86,(e 16)),(85,(e 0)),(84,(.slice (some ⟨W.sz,0,none⟩) 0 0))]) ds W43)))))) (λAIp W40=>(MV ro K) (.panic AIp) (Env.of e [(109,(e 3)),(108,(e 2)),(107,JX),(20,LC),(19,MW),(18,LB),(105,LC),(104,MW),(103,LB),(99,Ny),(102,Ny),(101,(e 11)),(100,JX),(98,yt),(97,yr),(96,JX),(17,JX),(95,JX),(94,oH),(93,(e 16)),(92,(e 0)),(91,tM),(90,(.slice (some ⟨NN.sz,0,none⟩) 1 1)),(89,qe),(88,tK),(87,tJ),(86,(e 16)),(85,(e 0)),(84,(.slice (some ⟨W.sz,0,none⟩) 0 0))]) ds W40))) (λAIq W38=>(MV ro K) (.panic AIq) (Env.of e [(101,(e 11)),(100,JX),(98,yt),(97,yr),(96,JX),(17,JX),(95,JX),(94,oH),(93,(e 16)),(92,(e 0)),(91,tM),(90,(.slice (some ⟨NN.sz,0,none⟩) 1 1)),(89,qe),(88,tK),(87,tJ),(86,(e 16)),(85,(e 0)),(84,(.slice (some ⟨W.sz,0,none⟩) 0 0))]) ds W38))) ((MV ro K) .normal (Env.of e [(98,yt),(97,yr),(96,JX),(17,JX),(95,JX),(94,oH),(93,(e 16)),(92,(e 0)),(91,tM),(90,(.slice (some ⟨NN.sz,0,none⟩) 1 1)),(89,qe),(88,tK),(87,tJ),(86,(e 16)),(85,(e 0)),(84,(.slice (some ⟨W.sz,0,none⟩) 0 0))]) ds W35)) (λAIr W36=>(MV ro K) (.panic AIr) (Env.of e [(96,JX),(17,JX),(95,JX),(94,oH),(93,(e 16)),(92,(e 0)),(91,tM),(90,(.slice (some ⟨NN.sz,0,none⟩) 1 1)),(89,qe),(88,tK),(87,tJ),(86,(e 16)),(85,(e 0)),(84,(.slice (some ⟨W.sz,0,none⟩) 0 0))]) ds W36))) K
def XN(ro:Option Nat)(K:AB):AB:=Ab (λa b c=>let d:=HY 52 (Di a) 51 (DE a) 50 (Ai a);Nx 17 (Ai a) (.slice none 0 0) (DE a) (Di a) c (λc f=>Db c λg=>Dc c λh=>XI .neq 30 h 0 λi=>let c:=A_ 57 i 56 h 12 h 11 g (Dh 55 h 54 g 49 c 53 d);wI i (TO 16 [] f (λd f=>Gj K a (Ep 10 d 58 c) b f) λd f=>CJ K d a c b f) (GD 19 (Ai a) (.slice none 0 0) g f (λd f=>Db d λh=>Dc d λi=>zq d 2 λj=>XI .neq 30 j 0 λk=>let c:=A_ 67 k 66 j 15 j 14 i (A_ 13 h 65 j 64 i 63 h (EY 59 d 62 61 g 60 (Ai a) c));wI k (aA K a 10 c b f) (Ko ro 7 214 0 a (eC 16 Be c) b f 0 (lL ro K))) λd f=>CJ K d a (F2 61 g 60 (Ai a) c) b f)) λc f=>CJ K c a d b f) K
def gT:=by
 have h:=@XN.eq_1;dsimp at h;exact h
def MX(ro:Option Nat)(K:AB):AB:=Ab (λa b c=>XK a 47 (TO 16 [] c (λc d=>Gj (XN ro K) a (Ep 10 c 48 []) b d) λc d=>XM (XN ro K) c a b d) (XN ro K) a b c) (XN ro K)
def gU:=by
 have h:=@MX.eq_1;dsimp at h;exact h
def AIs(v0 v1 v2 v3 v4:Value)(K:AB)(W:CW):=by
 have h:HM 7 214 [v0,v1,v2,v3,v4] W K=GH 48 v1 W λa b=>let c:=HY 29 v0 10 CL 6 a;GJ 13 v0 b (λb d=>D3 b λf=>let b:=FR 32 f 31 30 b c;let c:=GF 32 (DD 33 v2 32 b);Jw f (MX none K) (Env.args [v0,v1,v2,v3,v4]) 47 (HV 46 43 45 (MT 44 undef 43 true 43 Du 42 (DL 41 37 40 39 38 (MT 37 Du 36 true 35 undef 32 (HV 34 32 33 b))))) [] d (GJ 15 v2 d (λb d=>D3 b λf=>let b:=eC 37 f (EY 36 f 35 32 CL 34 b c);Jw f (MX none K) (Env.args [v0,v1,v2,v3,v4]) 47 (HV 46 43 45 (MT 44 undef 43 true 43 Du 42 (DL 41 37 40 39 38 b))) [] d (CQ 48 a d λa=>M8 prog 22 1 [(0,a)] d λc d=>let a:=GF 37 (CP 39 c 37 38 a b);GJ 13 c d (λb c=>D3 b λd=>let a:=eC 43 d (EY 42 d 41 37 CL 40 b a);Jw d (MX none K) (Env.args [v0,v1,v2,v3,v4]) 47 (JM 46 undef 43 45 43 44 a) [] c (Dl 22 v0 c λb=>GZ b 12 λd=>GU (MX none K) (Env.args [v0,v1,v2,v3,v4]) 47 d (H8 46 d 43 45 b 43 44 v0 a) [] c)) λb c=>Lb (MX none K) b [v0,v1,v2,v3,v4] a c)) λa b=>Lb (MX none K) a [v0,v1,v2,v3,v4] c b)) λa b=>Lb (MX none K) a [v0,v1,v2,v3,v4] c b:=by kernel_rfl
 dsimp at h;exact h
def dC(ro:Option Nat)(K:AB):AB:=Ab (λa b c=>B_ a 16 λd=>GK K a 16 d 83 82 b c) K
def gV:=by
 have h:=@dC.eq_1;dsimp at h;exact h
def dD(ro:Option Nat)(K:AB):AB:=Ab (λe ds W=>wI (e 81) ((dC ro K) .normal e ds W) ((dC ro K) (.exit 0) e ds W)) (dC ro K)
def AFu(ro:Option Nat)(e:Env)(ds:List Deferred)(K:AB)(W:CW):=by
 have h:Dd ro 7 214 e ds W K=M7 22 e W λa=>H9 .lss 3 e 16 a λb=>let c:=eC 72 b (BK 71 b 70 a 69 (Ai e) 68 (e 16));Km b (LA 22 e 16 λb=>BA 48 b λd=>As d W λf=>KF 48 e 6 0 λg=>As g W λh=>KX .lss 9 f h λi=>HW ((Gn 9 g W h)∧Ow (Gn 9 d W f) (Es 22 (Ai e) W a)) (dD ro K) e 81 i (Bl 80 i 72 79 h (Bl 78 g 72 77 f (Bl 76 d 72 75 b (Fv 74 (e 16) 72 73 e c)))) ds W) (Ik (Es 22 (Ai e) W a)) (dD ro K) e (GF 81 (By 80 72 79 78 77 (By 76 72 75 74 73 c))) ds W:=by kernel_rfl
 dsimp at h;exact h
theorem vH(Q:Ending→CW→Prop)(e:Env)(W:CW):AQ prog Tryz.f7 Q .ret e [] W=Q (.returned (e 10)) W:=by kernel_rfl
def AIt{Q v0 v1 v2 v3 v4 W}:=F1 7 214 [v0,v1,v2,v3,v4] Tryz.f7 Q W Tryz.func7 (by kernel_rfl)
end Go.Ce
namespace Go.Ce
section
variable (P:Program)(L:List FuncId)
def isRec(o:Oper):Bool:=match o.op with
 | .call c=>match c.callee with
  | .builtin b=>match b with
   | .recover=>c.args.toList.isEmpty&&c.argTypes.toList.isEmpty
   |_=>false
  |_=>false
 |_=>false
def ACK(o:Oper):Bool:=match o.op with
 | .alloc _=>true
 |_=>false
def vI(u:FrameMode)(K:Value→FrameMode→Prop):Prop:=match u with
 | .panicking ({v,recovered:=false,goexit:=false}::Zl)=>K v (.panicking ({v,recovered:=true}::Zl))
 | .returning=>K .nilIface .returning
 |_=>False
def RW (ops:Array Oper):Nat→List Nat→List Oper→Env→FrameMode→CW→(Exit→Env→FrameMode→CW→Prop)→Prop
 |_,_,[],e,u,W,K=>K .normal e u W
 | i,sk,o::rest,e,u,W,K=>P1 sk ops o e λb e=>cond b
   (cond (isRec o) (vI u λv u=>RW ops (i+1) sk rest (e.put o.dst v) u W K)
    (cond (C1 P o) (wV (qV P o e.ev) λv=>RW ops (i+1) sk rest (e.put o.dst v) u W K)
     (cond (DU P o) (wV (er P o e.ev W) λv=>RW ops (i+1) sk rest (e.put o.dst v) u W K)
      (cond (OT o) (wV (stO P o e.ev W) λW=>RW ops (i+1) sk rest (e.put o.dst undef) u W K)
       (cond (ACK o) (Iw (zg P o e.ev W) λv W=>RW ops (i+1) sk rest (e.put o.dst v) u W K) False)))))
   (RW ops (i+1) (i::sk) rest (e.put o.dst undef) u W K)
def sqS(Y:Env→FrameMode→CW→Prop)(K:Exit→Env→FrameMode→CW→Prop):Exit→Env→FrameMode→CW→Prop
 | .normal,e,u,W=>Y e u W
 |x,e,u,W=>K x e u W
def wS(fn:FuncId)(nt:Nat):Code→Env→FrameMode→CW→(Exit→Env→FrameMode→CW→Prop)→Prop
 | .region _ ops false,e,u,W,K=>RW P ops 0 [] ops.toList e u W K
 | .seq x y,e,u,W,K=>wS fn nt x e u W (sqS (λe u W=>wS fn nt y e u W K) K)
 | .cond c x y,e,u,W,K=>wI (e.ev c) (wS fn nt x e u W K) (wS fn nt y e u W K)
 |c,e,u,W,K=>D8 P L none fn nt c e [] W λx e ds W=>ds=[]∧K x e u W
end
section
variable {P:Program}{L:List FuncId}{R:C5}{ops:Array Oper}
theorem gW{o:Oper}(h:isRec o=true){e:Operand→Value}{W:CW}:BF P o e W=some [(.recover,W)]:=by
 unfold isRec at h
 split at h
 ·rename_i c hc
  split at h
  ·rename_i b FO
   split at h
   ·simp only[dy]at h;have h1:c.args.toList=[]:=by simpa using h.1
    have h2:c.argTypes.toList=[]:=by simpa using h.2
    simp only[BF,hc,FO,h1,h2];rfl
   ·cases h
  ·cases h
 ·cases h
theorem TW{o:Oper}{rest:List Oper}{a:AI}{u:FrameMode}{W W1:CW}{v:Value}{x:Exit×AI×FrameMode×CW}(hw:DF ops o a=true)(hc:BF P o a.eval W=some [(.value v,W1)])(h:CU P R ops rest (a.put o.dst v) u W1=some [x]):CU P R ops (o::rest) a u W=some [x]:=by
 simp only[CU,hw,hc];exact Bo _ _ h
theorem vJ{o:Oper}{rest:List Oper}{a:AI}{u:FrameMode}{W W1:CW}{x:Exit×AI×FrameMode×CW}(hw:DF ops o a=true)(hc:BF P o a.eval W=some [(.skip,W1)])(h:CU P R ops rest (a.put o.dst undef) u W1=some [x]):CU P R ops (o::rest) a u W=some [x]:=by
 simp only[CU,hw,hc];exact Bo _ _ h
theorem vK{o:Oper}{rest:List Oper}{a:AI}{Zl:List PanicEntry}{W:CW}{v:Value}{x:Exit×AI×FrameMode×CW}(hw:DF ops o a=true)(hc:BF P o a.eval W=some [(.recover,W)])(h:CU P R ops rest (a.put o.dst v) (.panicking ({v,recovered:=true}::Zl)) W=some [x]):CU P R ops (o::rest) a (.panicking ({v,recovered:=false}::Zl)) W=some [x]:=by
 simp only[CU,hw,hc];exact Bo _ _ h
theorem vM{o:Oper}{rest:List Oper}{a:AI}{W:CW}{x:Exit×AI×FrameMode×CW}(hw:DF ops o a=true)(hc:BF P o a.eval W=some [(.recover,W)])(h:CU P R ops rest (a.put o.dst .nilIface) .returning W=some [x]):CU P R ops (o::rest) a .returning W=some [x]:=by
 simp only[CU,hw,hc];exact Bo _ _ h
theorem FA{K:Exit→Env→FrameMode→CW→Prop}:∀{rest:List Oper} {i:Nat} {sk:List Nat} {e:Env} {u:FrameMode} {W:CW} {a:AI},
  RW P ops i sk rest e u W K→AE a e []→∃a' e' u' W',CU P R ops rest a u W=some [(.normal,a',u',W')]∧AE a' e' []∧a'.nt=a.nt∧K .normal e' u' W'
 |[],i,sk,e,u,W,a,h,ha=>⟨a,e,u,W,rfl,ha,rfl,h⟩
 | o::rest,i,sk,e,u,W,a,h,ha=>by
  simp only[RW]at h;obtain⟨e1,C8,h,HT⟩:=La ha h
  cases hw:DF ops o a with
  |false=>
   rw[hw]at h;obtain⟨a',e',u',W',h1,h2,h3,h4⟩:=FA h (C8.put o.dst undef);exact⟨a',e',u',W',by simp only[CU,hw];exact h1,h2,by rw[h3,AI.Bd],h4⟩
  | true =>
   rw[hw]at h;simp only[cond_true]at h
   cases fe:isRec o with
   |true=>
    rw[fe]at h;simp only[cond_true]at h;have hc:=gW (P:=P) fe (e:=a.eval) (W:=W);unfold vI at h
    split at h
    ·obtain⟨a',e',u',W',h1,h2,h3,h4⟩:=FA h (C8.put o.dst _);exact⟨a',e',u',W',vK hw hc h1,h2,by rw[h3,AI.Bd],h4⟩
    ·obtain⟨a',e',u',W',h1,h2,h3,h4⟩:=FA h (C8.put o.dst _);exact⟨a',e',u',W',vM hw hc h1,h2,by rw[h3,AI.Bd],h4⟩
    ·exact h.elim
   | false=>
    rw[fe]at h;simp only[cond_false]at h
    cases hp:C1 P o with
    | true=>
     rw[hp]at h;simp only[cond_true]at h
     cases hx:qV P o e1.ev with
     |none=>rw[hx]at h;exact h.elim
     |some v=>
      rw[hx]at h;obtain⟨a',e',u',W',h1,h2,h3,h4⟩:=FA h (C8.put o.dst v);exact⟨a',e',u',W',TW hw (by rw[XA hp,C8.eval,hx];rfl) h1,h2,by rw[h3,AI.Bd],h4⟩
    | false=>
     rw[hp]at h;simp only[cond_false]at h
     cases hr:DU P o with
     | true=>
      rw[hr]at h;simp only[cond_true]at h
      cases hx:er P o e1.ev W with
      |none=>rw[hx]at h;exact h.elim
      |some v=>
       rw[hx]at h;obtain⟨a',e',u',W',h1,h2,h3,h4⟩:=FA h (C8.put o.dst v);exact⟨a',e',u',W',TW hw (by rw[MR hr,C8.eval,hx];rfl) h1,h2,by rw[h3,AI.Bd],h4⟩
     | false=>
      rw[hr]at h;simp only[cond_false]at h
      cases hs:OT o with
      | true=>
       rw[hs]at h;simp only[cond_true]at h
       cases hx:stO P o e1.ev W with
       |none=>rw[hx]at h;exact h.elim
       |some W1=>
        rw[hx]at h;obtain⟨a',e',u',W',h1,h2,h3,h4⟩:=FA h (C8.put o.dst undef);exact⟨a',e',u',W',vJ hw (by rw[u5 hs,C8.eval,hx];rfl) h1,h2,by rw[h3,AI.Bd],h4⟩
      | false=>
       rw[hs]at h;simp only[cond_false]at h
       cases zr:ACK o with
       |false=>rw[zr]at h;exact h.elim
       | true=>
        rw[zr]at h;simp only[cond_true]at h;unfold ACK at zr
        split at zr
        ·rename_i t ho;have AIu:zg P o e1.ev W=n_ P t W:=by simp only[zg,ho]
         rw[AIu]at h
         have JW:BF P o a.eval W=zh (n_ P t W):=by
          simp only[BF,ho,n_,zh]
          cases Hr P t with
          |none=>rfl
          |some z=>cases De P t<;>rfl
         cases hx:n_ P t W with
         |none=>rw[hx]at h;exact h.elim
         |some y=>
          obtain⟨v,W1⟩:=y;rw[hx]at h;obtain⟨a',e',u',W',h1,h2,h3,h4⟩:=FA h (C8.put o.dst v);exact⟨a',e',u',W',TW hw (by rw[JW,hx];rfl) h1,h2,by rw[h3,AI.Bd],h4⟩
        ·cases zr
theorem vN{fn:FuncId}{nt:Nat}:∀{c:Code} {e:Env} {u:FrameMode} {W:CW} {K:Exit→Env→FrameMode→CW→Prop} {a:AI},wS P L fn nt c e u W K→AE a e []→a.nt=nt→
  ∃n x a' e' u' W',VD P (DY P L n) fn c a u W=some [(x,a',u',W')]∧AE a' e' []∧a'.nt=nt∧K x e' u' W':=by
 intro c
 have base:∀{c:Code} {e:Env} {u:FrameMode} {W:CW} {K:Exit→Env→FrameMode→CW→Prop} {a:AI},(∀n,VD P (DY P L n) fn c a u W=(Dq ((DY P L n).code none fn c a W) λ(e,a,W)=>some [(e,a,u,W)]))→D8 P L none fn nt c e [] W (λx e ds W=>ds=[]∧K x e u W)→AE a e []→a.nt=nt→
   ∃n x a' e' u' W',VD P (DY P L n) fn c a u W=some [(x,a',u',W')]∧AE a' e' []∧a'.nt=nt∧K x e' u' W':=by
  intro c e u W K a he h ha hn;obtain⟨n,⟨x,a1,W1⟩,h1,e1,h2,h3,h4,h5⟩:=F_ h a ha hn;refine⟨n,x,a1,e1,u,W1,?_,by rw[h4]at h2;exact h2,h3,h5⟩;rw[he,h1];exact Bo _ _ rfl
 induction c with
 | region id ops d=>
  intro e u W K a h ha hn
  cases d with
  |true=>exact base (λn=>rfl) h ha hn
  |false=>
   obtain⟨a',e',u',W',h1,h2,h3,h4⟩:=FA (R:=DY P L 0) h ha;exact⟨0,.normal,a',e',u',W',h1,h2,by rw[h3,hn],h4⟩
 | seq x y Y9 Y'=>
  intro e u W K a h ha hn;obtain⟨n,x1,a1,e1,u1,W1,h1,h2,h3,h4⟩:=Y9 h ha hn
  cases x1 with
  |normal=>
   obtain⟨m,x2,a2,e2,u2,W2,h5,h6,h7,h8⟩:=Y' h4 h2 h3;refine⟨max n m,x2,a2,e2,u2,W2,?_,h6,h7,h8⟩;have h1':VD P (DY P L (max n m)) fn x a u W=some [(.normal,a1,u1,W1)]:=Wx (Ds (aa9 n m)) h1;have h5':VD P (DY P L (max n m)) fn y a1 u1 W1=some [(x2,a2,u2,W2)]:=Wx (Ds (aaZ n m)) h5;simp only[VD,h1'];exact Bo _ _ h5'
  |_=>
   refine⟨n,_,a1,e1,u1,W1,?_,h2,h3,h4⟩;simp only[VD,h1];exact Bo _ _ rfl
 | cond c x y Y9 Y'=>
  intro e u W K a h ha hn;obtain⟨b,hb,h⟩:=lE h;have hc:a.eval c=.bool b:=by rw[ha.eval];exact hb
  cases b with
  |true=>
   obtain⟨n,x1,a1,e1,u1,W1,h1,h2⟩:=Y9 h ha hn;exact⟨n,x1,a1,e1,u1,W1,by simp only[VD,hc];exact h1,h2⟩
  |false=>
   obtain⟨n,x1,a1,e1,u1,W1,h1,h2⟩:=Y' h ha hn;exact⟨n,x1,a1,e1,u1,W1,by simp only[VD,hc];exact h1,h2⟩
 |_=>intro e u W K a h ha hn;exact base (λn=>rfl) h ha hn
def Nz(P:Program)(L:List FuncId)(f:FuncId)(args:List Value)(u:FrameMode)(W:CW)(Q:FrameMode→CW→Prop):Prop:=∃n v u' W',(DY P L n).HO f args u W=some [(.returned v,u',W')]∧Q u' W'
theorem aB{f:FuncId}{fn:Func}{c:Code}{args:List Value}{u:FrameMode}{W:CW}{Q:FrameMode→CW→Prop}(hL:CB L f=true)(hf:P.funcs[f]?=some fn)(hc:fn.body=some c)(hle:Nat.ble args.length fn.ntmps=true)
  (h:wS P L f fn.ntmps c (Env.args args) u W λx e u W=>(x=.normal∨x=.ret)∧(∃v,CI P fn.results.toList e W=some v)∧Q u W):Nz P L f args u W Q:=by
 obtain⟨n,x,a,e,u',W',h1,h2,h3,hx,⟨v,hv⟩,hq⟩:=vN h (XE fn args) rfl;refine⟨n+1,v,u',W',?_,hq⟩;rw[Ij];simp only[CV,hL,hf,hc,hle,aav,cond_false,cond_true];rw[h1];refine Bo _ _ ?_;have hd:a.defers=[]:=h2.2;have hr:=P4 (e:=e) (ds:=[]) h2 hv;rcases hx with rfl|rfl<;>simp only[hd,List.isEmpty_nil,cond_true,hr]
def vO(P:Program)(L:List FuncId)(fn:Func)(Q:Ending→CW→Prop)(e:Env):List Deferred→FrameMode→CW→Prop
 |[],u,W=>match u with
  | .returning=>wV (CI P fn.results.toList e W) λv=>Q (.returned v) W
  | .panicking ch=>Q (.panicked ch) W
  | .run=>False
 |d::ds,u,W=>match d.target with
  | .fn (.func f) cap=>Nz P L f (d.args.toList++cap.toList) u W λu' W'=>vO P L fn Q e ds (settle u') W'
  |_=>False
theorem OV{fn:Func}{a:AI}{e:Env}{Q:Ending→CW→Prop}(ha:AE a e a.defers):∀(ds:List Deferred) (u:FrameMode) (W:CW),vO P L fn Q e ds u W→∃n o,leaves P (DY P L n) fn a ds u W=some [o]∧Q o.1 o.2
 | [],u,W,h=>by
  cases u with
  | returning=>
   cases hv:CI P fn.results.toList e W with
   |none=>simp only[vO,hv]at h;exact h.elim
   |some v=>
    simp only[vO,hv]at h;exact⟨0,(.returned v,W),by simp only[leaves,P4 ha hv],h⟩
  |panicking ch=>exact⟨0,(.panicked ch,W),rfl,h⟩
  |run=>exact h.elim
 | d::ds,u,W,h=>by
  obtain⟨tg,ACH⟩:=d
  cases tg with
  | fn f cap=>
   cases f with
   |func f=>
    obtain⟨n,v,u',W',h1,h2⟩:=h;obtain⟨m,o,h3,h4⟩:=OV ha ds _ _ h2;refine⟨max n m,o,?_,h4⟩;have h1':(DY P L (max n m)).HO f (ACH.toList++cap.toList) u W=some [(.returned v,u',W')]:=(Ds (aa9 n m)).HO h1;have h3':leaves P (DY P L (max n m)) fn a ds (settle u') W'=some [o]:=EL (Ds (aaZ n m)) h3;simp only[leaves];rw[h1'];exact Bo _ _ h3'
   |_=>exact h.elim
  |_=>exact h.elim
theorem vP{f:FuncId}{fn:Func}{c:Code}{args:List Value}{W:CW}{Q:Ending→CW→Prop}(hL:CB L f=true)(zm:CB L (f+1000000)=false)(hL3:CB L (f+2000000)=false)(hf:P.funcs[f]?=some fn)(hc:fn.body=some c)
  (hle:Nat.ble args.length fn.ntmps=true) (h:D8 P L none f fn.ntmps c (Env.args args) [] W λx e ds W=>match x with
   | .normal=>vO P L fn Q e ds .returning W
   | .ret=>vO P L fn Q e ds .returning W
   | .panic ch=>(∀k n m,e 0≠.complex k n m)∧vO P L fn Q e ds (.panicking ch) W
   |_=>False):AX P L f args W Q:=by
 obtain⟨n,⟨x,a,W1⟩,h1,e,h2,h3,h4⟩:=F_ h (IC fn args) (XE fn args) rfl;simp only at h2 h4
 have key:∀{m:Nat} {o:Ending×CW},behind P (DY P L (max n m)) fn x a W1=some [o]→(DY P L (max n m+1)).call f args W=some [o]:=by
  intro m o ho;rw[Ij];simp only[CV,hL,zm,hL3,hf,hc,hle,aav,cond_false,cond_true,ab4];rw[JV (aa9 n m) h1];refine FI ?_;rw[←ho]
  cases x<;>rfl
 cases x with
 |normal=>
  obtain⟨m,o,e1,e2⟩:=OV h2 a.defers .returning W1 h4;exact⟨_,o,key (m:=m) (EL (Ds (aaZ n m)) e1),e2⟩
 |ret=>
  obtain⟨m,o,e1,e2⟩:=OV h2 a.defers .returning W1 h4;exact⟨_,o,key (m:=m) (EL (Ds (aaZ n m)) e1),e2⟩
 | panic ch=>
  obtain⟨hb,h4⟩:=h4;obtain⟨m,o,e1,e2⟩:=OV h2 a.defers (.panicking ch) W1 h4;refine⟨_,o,key (m:=m) ?_,e2⟩
  have Hw:a.My=false:=by
   unfold AI.My
   split
   ·rename_i n m hg
    exfalso
    refine hb .f64 n m ?_;rw[←h2.1 0];unfold AI.at
    rw[hg];rfl
   ·rfl
  show cond a.My _ _=_;rw[Hw];exact EL (Ds (aaZ n m)) e1
 |_=>exact h4.elim
end
end Go.Ce
namespace Go.Ce
open Go Go.Proofs Go.Proofs.Tryz
def oI(ro:Option Nat)(K:AB):AB:=Ab (λa b c=>DG 24 a 12 c λd=>DG 24 a 12 c λf=>Dl 24 f c λg=>Iw (blt prog .min [3,3] [g,TN 1] c) λh i=>GC ((GG (Es 24 f c g))∧Ow (MU 24 (a 12) c f) (zp (Gn 24 (a 12) i d) 24 (a 12) c d)) (Gj K a (DB 8 Be 7 h 6 d (BK 55 h 54 g 53 f 52 d)) b i)) K
def qg:=by
 have h:=@oI.eq_1;dsimp at h;exact h
def AFv(v0 v1 v2:Value)(K:AB)(W:CW):=by
 have h:H5 19 56 v0 v1 v2 W K=(let a:=BK 17 v0 8 Be 7 Be 6 (.slice none 0 0);GJ 47 v0 W (λb c=>Db b λd=>Dc b λf=>Bp 78 c λc g=>Bj 78 c d g λg=>D3 f λh=>let a:=A_ 22 h 21 f 10 f 9 c (Dh 20 f 19 d 16 b 18 a);wI h (E9 K [v0,v1,v2] (DB 8 (TN 210) 7 Be 6 (.slice none 0 0) a) g) (CQ 78 c g λb=>ET 48 b v1 g (λd f=>Db d λg=>Dc d λh=>Bp 83 f λf i=>Bj 83 f g i λi=>D3 h λj=>let a:=F2 30 j 29 h (A_ 10 h 11 f 28 h 27 g (EY 23 d 26 25 v1 24 b a));wI j (E9 K [v0,v1,v2] (DB 8 (TN 212) 7 Be 6 (.slice none 0 0) a) i) (Bp 24 i λb d=>RR 73 #[] #[c,f,b] λc=>let a:=DB 32 c 31 v2 12 b a;ET 72 v2 c d (λc d=>XI .neq 30 c 0 λf=>let a:=XJ 35 f 34 c 13 c 33 a;wI f (E9 K [v0,v1,v2] (A_ 8 c 7 Be 6 (.slice none 0 0) 36 c a) d) (CQ 24 b d λb=>Dl 24 b d λc=>EB 19 56 [v0,v1,v2] (DB 39 Be 38 c 37 b a) d (oI none K))) λb c=>H6 K b v0 v1 v2 a c)) λc d=>H6 K c v0 v1 v2 (F2 25 v1 24 b a) d)) λb c=>H6 K b v0 v1 v2 a c):=by kernel_rfl
 dsimp at h;exact h
def oJ(ro:Option Nat)(K:AB):AB:=Ab (λa b c=>B_ a 39 λd=>Gt K a 39 d 51 b c) K
def qh:=by
 have h:=@oJ.eq_1;dsimp at h;exact h
def ACL(ro:Option Nat)(e:Env)(ds:List Deferred)(K:AB)(W:CW):=by
 have h:Dd ro 19 56 e ds W K=FU e 39 38 λa=>Gs a (KZ 24 e 37 e 39 λb=>CQ 56 b W λc=>Bp 56 W λd f=>Bj 56 d c f λf=>DG 24 e 12 f λg=>DG 83 e 11 f λh=>DG 78 e 9 f λi=>CQ 56 d f λj=>GD 77 h i j f (λk l=>Gr 24 g e 39 λm=>Bj 56 m k l λn=>HW (GS (NM 56 d f j) (NM 78 (DP e) f i) (gO 83 (EO e) f h (Jx True 24 (e 12) l g 24 (e 12) f g))) (oJ ro K) e 50 m (A_ 49 k 48 j 47 i 46 h (Gp 45 (e 39) 44 g 14 e 39 15 d (E_ 43 c 42 b 41 e 39 40 a))) ds n) λ_ _=>False) K 0 e 40 a ds W:=by kernel_rfl
 dsimp at h;exact h
theorem qi(Q:Ending→CW→Prop)(e:Env)(W:CW):AQ prog Tryz.f19 Q .ret e [] W=Q (.returned (.tuple #[e 6,e 7,e 8])) W:=by kernel_rfl
def AFw{Q v0 v1 v2 W}:=F1 19 56 [v0,v1,v2] Tryz.f19 Q W Tryz.func19 (by kernel_rfl)
theorem AFx(v0 v1:Value)(K:AB)(W:CW):D8 prog Bf none 72 14 (G_ prog 72) (Env.args [v0,v1]) [] W K=(Iw (n_ prog 30 W) λv4 W0=>wV (Kw prog 29 v0 W0) λv6=>wV (CF prog .gtr 3 true v6 (.int .i64 100000)) λv7=>wI v7 (wV (NK prog 30 v4 (.int .i64 2) W0) λW1=>K .ret (Env.of (Env.args [v0,v1]) [(7,v7),(6,v6),(5,v0),(4,v4)]) [] W1) (wV (ZT prog 170 [(0,v0)]) λv11=>Iw (bxw prog 170 v11 W0) λv12 W2=>Dt prog Bf v1 [v12] W2 (λv13 W3=>wV (NK prog 30 v4 (.int .i64 0) W3) λW5=>K .ret (Env.of (Env.args [v0,v1]) [(13,v13),(12,v12),(11,v11),(10,v0),(9,v1),(8,(.func (.func 109) #[] #[v4])),(7,v7),(6,v6),(5,v0),(4,v4)]) (({target:=.fn (.func 109) #[v4],args:=#[]}:Deferred)::[]) W5) (λch4 W4=>K (.panic ch4) (Env.of (Env.args [v0,v1]) [(12,v12),(11,v11),(10,v0),(9,v1),(8,(.func (.func 109) #[] #[v4])),(7,v7),(6,v6),(5,v0),(4,v4)]) (({target:=.fn (.func 109) #[v4],args:=#[]}:Deferred)::[]) W4))):=by kernel_rfl
def AFy(v0 v1 v2 v3:Value)(K:AB)(W:CW):=by
 have h:HM 73 9 [v0,v1,v2,v3] W K=CQ 78 v1 W λa=>RR 75 #[] #[v1,v2] λb=>let c:=HY 7 b 6 a 5 v0;GD 74 v0 a b W (λa b=>Bj 24 v3 a b λb=>GU K (Env.args [v0,v1,v2,v3]) 8 a c [] b) λa b=>Lb K a [v0,v1,v2,v3] c b:=by kernel_rfl
 dsimp at h;exact h
def AFz{Q v0 v1 v2 v3 W}:=F1 73 9 [v0,v1,v2,v3] Tryz.f73 Q W Tryz.func73 (by kernel_rfl)
def JY(ro:Option Nat)(K:AB):AB:=Ab (λe ds W=>K .ret (Env.of e [(6,(e 11)),(139,(e 11))]) ds W) K
def oK(ro:Option Nat)(K:AB):AB:=Ab (λa b c=>DG 3 a 10 c λd=>DG 3 a 8 c λf=>DQ .eql d f λg=>let h:=BK 120 g 119 g 118 f 117 d;wI g (Dl 51 (Da a) c λg=>H9 .eql 3 a 9 g λi=>let h:=Ep 126 i 125 (Bl 124 i 120 123 g (Bl 122 (Da a) 120 121 (DP a) h));wI i (DG 124 a 3 c λi=>DV i λj=>C0 170 j λk=>FT k c λl=>DG 124 a 3 c λm=>DV m λn=>BA 170 n λo=>CQ 29 o c λp=>Dl 29 p c λq=>DQ .eql l q λr=>Gc 76 r 4 c (λs t=>HA (GS (GG (Es 29 p c q)) (MU 29 o c p) (GS (MU 124 (Di a) c m) (MU 3 k c l) (GS (MU 124 (Di a) c i) (GG (Es 51 (Da a) c g)) (Gd 3 (CY a) c f (DW a) d)))) (JY ro K) a (F2 138 s 137 r (Bl 136 r 126 135 q (Bl 134 p 126 133 o (Bl 132 n 126 131 m (Bl 130 l 126 129 k (Bl 128 j 126 127 i h)))))) b t) λh j=>(Ld (Es 29 p c q) 29 o c p (Ld (Gn 124 (Di a) c m) 3 k c l (GS (Gn 124 (Di a) c i) (Es 51 (Da a) c g) (KY (Gn 3 (CY a) c f) 3 (DW a) c d))))∧XM (JY ro K) h Env.bad b j) (Gc 76 CL 4 c (λi j=>HA ((GG (Es 51 (Da a) c g))∧Gd 3 (CY a) c f (DW a) d) (JY ro K) a (DD 138 i 137 (Lf 136 126 135 (By 134 126 133 132 131 (By 130 126 129 128 127 h)))) b j) λh i=>((Es 51 (Da a) c g)∧KY (Gn 3 (CY a) c f) 3 (DW a) c d)∧XM (JY ro K) h Env.bad b i)) (Gc 76 CL 4 c (λg i=>HA (Gd 3 (CY a) c f (DW a) d) (JY ro K) a (Lg 138 g 137 136 undef 126 (By 135 126 134 133 132 (By 131 126 130 129 128 (Lg 127 undef 126 126 CL 125 (By 124 120 123 122 121 h))))) b i) λg h=>(KY (Gn 3 (CY a) c f) 3 (DW a) c d)∧XM (JY ro K) g Env.bad b h)) K
def aC:=by
 have h:=@oK.eq_1;dsimp at h;exact h
def AF0(v0 v1 v2:Value)(K:AB)(W:CW):=by
 have h:H5 74 140 v0 v1 v2 W K=GH 124 v0 W λa b=>GH 78 v1 b λb c=>CQ 124 a c λd=>let b:=eC 20 v2 (BK 19 d 6 (.slice none 0 0) 4 b 3 a);ET 92 d v2 c (λc d=>CQ 124 a d λa=>let b:=DB 22 a 7 c 21 c b;Gc 110 a 1000 d (λa c=>Bp 3 c λc d=>Bj 3 c a d λd=>FT c (TQ d 1 #[Be] 3) λf=>Iw (blt prog .min [3,3] [f,TN 1] (TQ d 1 #[Be] 3)) λg h=>(true=true)∧Bj 3 (.pointer (some ⟨CW.sz d,0,none⟩)) g h λi=>GS (Ik (NM 3 c (TQ d 1 #[Be] 3) f)) (Ik (GS True (RQ (some ⟨CW.sz d,0,none⟩) (RT (TQ d 1 #[Be] 3) d) h=true) (RQ (some ⟨CW.sz d,0,none⟩) (RT (TQ d 1 #[Be] 3) d) (TQ d 1 #[Be] 3)=true))) (FT c i λh=>EB 74 140 [v0,v1,v2] (eC 27 Be (A_ 26 h 11 (.slice none 0 0) 9 Be 10 (.pointer (some ⟨CW.sz d,0,none⟩)) (A_ 25 g 24 f 8 c 23 a b))) i (oK none K))) λa c=>H6 K a v0 v1 v2 b c) λa c=>H6 K a v0 v1 v2 b c:=by kernel_rfl
 dsimp at h;exact h
def MY(ro:Option Nat)(K:AB):AB:=Ab (λa b c=>B_ a 27 λd=>Gt K a 27 d 116 b c) K
def Lk:=by
 have h:=@MY.eq_1;dsimp at h;exact h
def dE(ro:Option Nat)(K:AB):AB:=Gu (λa b c=>DG 56 a 14 c λd=>M8 prog 24 1 [(0,d)] c λc f=>Li prog [24,24] (EO a) c f λf g=>GU (MY ro K) a 11 f (BK 115 f 114 c 113 d 112 (EO a)) b g) (MY ro K)
def aD:=by
 have h:=@dE.eq_1;dsimp at h;exact h
def OW(ro:Option Nat)(K:AB):AB:=Gu (λa b c=>Iw (mks prog 40 (a 15) (a 15) c) λc d=>D9 56 a 14 λf=>Bj 40 f c d λd=>DG 78 a 4 d λg=>DG 56 a 14 d λh=>let c:=eC 70 h (BK 69 g 68 f 67 c 66 (a 15));ET 62 g h d (λd f=>Gi prog Bf ro 74 140 (.rangeFunc (.tmp 71) #[72,73] (rfA prog 74 0) (zn prog 74 0)) (Env.of a (eC 71 d c)) b f (CX 2 (dE ro K))) λd f=>CJ (dE ro K) d a c b f) (MY ro K)
def aE:=by
 have h:=@OW.eq_1;dsimp at h;exact h
def Vl(ro:Option Nat)(K:AB):AB:=Gu (λa b c=>Gr 51 (Da a) a 13 λd=>As d c λf=>wV (ZT prog 56 [(0,f)]) λg=>Bp 56 c λc h=>Bj 56 c g h λh=>D9 78 a 4 λi=>CQ 76 i h λj=>BA 56 c λk=>As k h λl=>EW 76 j l false h λm=>Dl 29 m h λn=>KF 78 a 4 0 λo=>CQ 75 o h λp=>BA 56 c λq=>As q h λr=>EW 75 p r false h λs=>wV (fld prog 48 s 3) λt=>HK .neq 5 t .u8 0 λu=>let c:=A_ 63 u 62 t 61 s 60 r (A_ 59 q 58 p 57 o 15 n (A_ 56 n 55 m 54 l 53 k (A_ 52 j 51 i 14 c 50 g (E_ 49 f 48 d 47 a 13 46 (Da a)))));Dm u (DG 124 a 3 h λd=>Gc 110 d 200 h (λf g=>TM (OW ro K) a (FR 15 f 65 64 d c) b g) λf g=>CJ (OW ro K) f a (eC 64 d c) b g) (OW ro K) a c b h) (MY ro K)
def qj:=by
 have h:=@Vl.eq_1;dsimp at h;exact h
def ACN(ro:Option Nat)(e:Env)(ds:List Deferred)(K:AB)(W:CW):=by
 have h:Dd ro 74 140 e ds W K=FU e 27 26 λa=>Gs a (DG 3 e 10 W λb=>H9 .lss 3 e 27 b λc=>let a:=F2 32 c 31 b (E_ 30 (e 27) 12 (e 27) 29 e 27 28 a);Gc 76 c 4 W (λb c=>DG 124 e 3 c λd=>Dl 51 (Da e) c λf=>Lh f 1 λg=>Iw (blt prog .min [3,3] [DP e,g] c) λc h=>let a:=DB 39 c 38 g 37 f (A_ 36 (Da e) 35 (DP e) 34 d 33 b a);ET 110 d c h (λb c=>DQ .eql b (DP e) λd=>let a:=eC 43 d (XJ 42 (DP e) 41 b 13 b 40 a);Dm d (B_ e 9 λb=>TM (Vl ro K) e (qc 9 b 45 b 44 e 9 a) ds c) (Vl ro K) e a ds c) λb c=>CJ (MY ro K) b e a ds c) λb c=>CJ (MY ro K) b e a ds c) K 0 e 28 a ds W:=by kernel_rfl
 dsimp at h;exact h
theorem ACO(ro:Option Nat)(e:Env)(ds:List Deferred)(K:AB)(W:CW):D8 prog Bf ro 74 140 (rfA prog 74 0) e ds W K=(K .normal (Env.of e [(17,(e 73)),(16,(e 72))]) ds W):=by kernel_rfl
def ACP(ro:Option Nat)(e:Env)(ds:List Deferred)(K:AB)(W:CW):=by
 have h:qZ ro 74 140 (zn prog 74 0) e ds W K=c_ .eql 5 true e 17 (.int .u8 2) λa=>wI a (D9 56 e 14 λb=>C9 b W λc=>DG 124 e 3 W λd=>DG 3 e 10 W λf=>Ju f 1 λg=>DG 3 e 8 W λh=>Iw (blt prog .min [3,3] [g,h] W) λi j=>ET 110 d i j (λk l=>Gr 40 c e 16 λm=>Bj 3 m k l λn=>GC (GS (GG (NM 3 (CY e) W h)) (GG (NM 3 (DW e) W f)) (Ow (GG (Jx True 124 (Di e) j d 124 (Di e) W d)) (GG (Jx (Gn 40 b l c) 40 b j c 40 b W c)))) (DG 3 e 10 n λj=>D9 56 e 14 λl=>C9 l n λo=>Gr 40 o e 16 λp=>FT p n λq=>Iw (blt prog .max [3,3] [j,q] n) λr s=>Bj 3 (DW e) r s λs=>HA ((NM 3 p n q)∧H7 40 l n o 3 (DW e) n j) K e (DB 92 r 91 q 90 p (A_ 89 (e 16) 88 o 87 l 86 j (A_ 85 m 84 k 83 i 82 h (A_ 81 g 80 f 79 d 78 (e 16) (BK 77 c 76 b 75 a 74 (e 17)))))) ds s)) λa g=>(GS (MU 3 (CY e) W h) (MU 3 (DW e) W f) (Ow (zp (Gn 124 (Di e) j d) 124 (Di e) W d) (zp (Gn 40 b j c) 40 b W c)))∧XM K a Env.bad ds g) (DG 124 e 3 W λb=>let a:=Nw 93 b 75 a 74 e 17;Gc 110 b 2000000000 W (λb c=>D9 56 e 14 λd=>C9 d c λf=>ED .quo b 2 λg=>Gr 40 f e 16 λh=>Bj 3 h g c λc=>ED .rem b 2 λi=>ED .eql i 1 λj=>let a:=DB 103 j 102 i 101 b (A_ 100 h 99 g 98 b 97 (e 16) (Dh 96 f 95 d 18 b 94 a));Dm j (D9 56 e 14 λd=>C9 d c λf=>Ju b 1 λg=>wV (neg g) λh=>ED .quo h 2 λi=>Gr 40 f e 16 λj=>Bj 3 j i c λc=>TM K e (A_ 111 j 110 i 109 h 108 g (A_ 107 b 106 (e 16) 105 f 104 d a)) ds c) K e a ds c) λb c=>CJ K b e a ds c):=by kernel_rfl
 dsimp at h;exact h
theorem ql(Q:Ending→CW→Prop)(e:Env)(W:CW):AQ prog Tryz.f74 Q .ret e [] W=Q (.returned (e 6)) W:=by kernel_rfl
def AF1{Q v0 v1 v2 W}:=F1 74 140 [v0,v1,v2] Tryz.f74 Q W Tryz.func74 (by kernel_rfl)
def AF2(v0 v1 v2:Value)(K:AB)(W:CW):=by
 have h:H5 75 27 v0 v1 v2 W K=BA 78 v1 λa=>CQ 75 a W λb=>EW 75 b v0 true W λc=>Db c λd=>Dc c λf=>Bp 48 W λg h=>let a:=Ep 15 f 5 (A_ 4 g 14 f 13 d 8 c (BK 12 c 11 v0 10 b 9 a));Bj 48 g d h λb=>Gc 76 f 213 b (λb c=>BA 83 v2 λd=>CQ 81 d c λf=>EW 81 f v0 true c λg=>Db g λh=>Dc g λi=>Bp 58 c λc j=>Bj 58 c h j λj=>D3 i λk=>let a:=A_ 25 k 24 i 7 i 6 c (Dh 23 i 22 h 17 g 21 (A_ 20 v0 19 f 18 d 16 b a));Gc 76 k 214 j (λb c=>GU K (M6 v0 v1 v2) 26 b a [] c) λb c=>H6 K b v0 v1 v2 a c) λb c=>H6 K b v0 v1 v2 a c:=by kernel_rfl
 dsimp at h;exact h
def AF3{Q v0 v1 v2 W}:=F1 75 27 [v0,v1,v2] Tryz.f75 Q W Tryz.func75 (by kernel_rfl)
def AF4(v0 v1:Value)(K:AB)(W:CW):=by
 have h:Er 76 9 v0 v1 W K=D3 v0 λa=>Dm a (wV (ZT prog 167 [(0,v1)]) λb=>wV (mki prog 167 b) λc=>AIm c λd=>HX K d v0 v1 (eC 8 c (BK 7 b 6 v1 5 a 4 v0)) W) K (M9 v0 v1) (Fu 5 a 4 v0) [] W:=by kernel_rfl
 dsimp at h;exact h
def AF5{Q v0 v1 W}:=F1 76 9 [v0,v1] Tryz.f76 Q W Tryz.func76 (by kernel_rfl)
def oL(ro:Option Nat)(K:AB):AB:=Ab (λe ds W=>wV (ld prog 56 (e 9) W) λv51=>wV (NK prog 56 (e 6) v51 W) λW9=>K .ret (Env.of e [(51,v51)]) ds W9) K
def AF6(v0 v1 v2:Value)(K:AB)(W:CW):=by
 have h:H5 77 52 v0 v1 v2 W K=GH 83 v0 W λa b=>GH 78 v1 b λb c=>GH 56 v2 c λc d=>Bp 56 d λd f=>C0 83 a λg=>CQ 81 g f λh=>BA 56 c λi=>As i f λj=>EW 81 h j true f λk=>Db k λl=>Dc k λm=>Bp 58 f λf n=>Bj 58 f l n λn=>D3 m λo=>let a:=A_ 21 o 20 m 8 m 7 f (Dh 19 m 18 l 12 k 17 (A_ 16 j 15 i 14 h 13 g (BK 6 d 5 c 4 b 3 a)));wI o (CQ 56 c n λb=>Bj 56 d b n λc=>E9 K [v0,v1,v2] (eC 22 b a) c) (BA 58 f λc=>As c (Fx n) λd=>C0 78 b λb=>CQ 76 b (Fx n) λg=>BA 58 f λh=>As h (Fx n) λi=>EW 76 g i false (Fx n) λj=>Dl 29 j (Fx n) λk=>Iw (mks prog 40 k k (Fx n)) λl m=>wV (ZT prog 56 [(0,d),(1,l)]) λo=>(true=true)∧Bj 56 (.pointer (some ⟨CW.sz n,0,none⟩)) o m λp=>GS ((GC True (Es 29 j (Fx n) k))∧GS (GC True (Sq prog 76 g i false (Fx n)=some j)) (NM 9 h (Fx n) i) (gO 76 b (Fx n) g (Jx True 9 c m d 9 c (Fx n) d))) (Ik (GS True (RQ (some ⟨CW.sz n,0,none⟩) (RT (Fx n) n) m=true) (RQ (some ⟨CW.sz n,0,none⟩) (RT (Fx n) n) (Fx n)=true))) (Nv 58 f 2 λf=>C9 f p λm=>Fw m p λq=>EB 77 52 [v0,v1,v2] (DB 36 Be 35 q 34 m (A_ 33 f 9 (.pointer (some ⟨CW.sz n,0,none⟩)) 32 o 31 l (A_ 30 k 29 j 28 i 27 h (A_ 26 g 25 b 24 d 23 c a)))) p (oL none K))):=by kernel_rfl
 dsimp at h;exact h
def oM(ro:Option Nat)(K:AB):AB:=Ab (λa b c=>B_ a 36 λd=>Gt K a 36 d 50 b c) K
def qn:=by
 have h:=@oM.eq_1;dsimp at h;exact h
def ACQ(ro:Option Nat)(e:Env)(ds:List Deferred)(K:AB)(W:CW):=by
 have h:Dd ro 77 52 e ds W K=FU e 36 35 λa=>Gs a (KZ 40 e 34 e 36 λb=>FT b W λc=>D9 56 e 9 λd=>C9 d W λf=>D9 56 e 5 λg=>C9 g W λh=>Gr 40 h e 36 λi=>FT i W λj=>Gq 40 f c λk=>Bj 3 k j W λl=>HA ((MU 3 i W j)∧Gd 40 g W h d f) (oM ro K) e (DB 49 k 48 j 47 i (A_ 46 (e 36) 45 h 44 g 43 c (A_ 42 f 41 d 11 c 10 (e 36) (E_ 40 c 39 b 38 e 36 37 a)))) ds l) K 0 e 37 a ds W:=by kernel_rfl
 dsimp at h;exact h
def AF7{Q v0 v1 v2 W}:=F1 77 52 [v0,v1,v2] Tryz.f77 Q W Tryz.func77 (by kernel_rfl)
def MZ(ro:Option Nat)(K:AB):AB:=Ab (λe ds W=>K .ret (Env.of e [(4,(e 5)),(37,(e 5))]) ds W) K
def AF8(v0 v1:Value)(K:AB)(W:CW):=by
 have h:Er 92 38 v0 v1 W K=Gc 110 v0 128 W (λa b=>ED .eql a 1 λc=>let a:=BK 9 c 8 a 7 v0 4 (.slice none 0 0);Gc 76 c 4 b (λb c=>let a:=DB 11 v0 5 (.slice none 0 0) 10 b a;Gc 110 v0 100 c (λb c=>EB 92 38 [v0,v1] (F2 13 Be 12 b a) c (MZ none K)) λb c=>HX (MZ none K) b v0 v1 a c) λb c=>HX K b v0 v1 a c) λa b=>HX K a v0 v1 (Fu 7 v0 4 (.slice none 0 0)) b:=by kernel_rfl
 dsimp at h;exact h
def TX(ro:Option Nat)(K:AB):AB:=Ab (λa b c=>B_ a 13 λd=>Gt K a 13 d 36 b c) K
def Ll:=by
 have h:=@TX.eq_1;dsimp at h;exact h
def Ma(ro:Option Nat)(K:AB):AB:=Gu (λa b c=>Dt prog Bf (BN a) [Et a] c (λc d=>M8 prog 51 1 [(0,Et a)] d λd f=>Li prog [51,51] (GI a) d f λf g=>TM (TX ro K) a (EY 5 f 35 34 d 33 (Et a) (E_ 32 (GI a) 31 c 30 a 6 29 (BN a))) b g) λc d=>CJ (TX ro K) c a (Fu 30 (Et a) 29 (BN a)) b d) (TX ro K)
def TY:=by
 have h:=@Ma.eq_1;dsimp at h;exact h
def ACR(ro:Option Nat)(e:Env)(ds:List Deferred)(K:AB)(W:CW):=by
 have h:Dd ro 92 38 e ds W K=FU e 13 12 λa=>let b:=HY 16 (Ai e) 15 (Ai e) 14 a;Gs a (Gc 110 (Ai e) 60 W (λa c=>ET 121 (Ai e) a c (λc d=>wV (zf prog 29 9 c d) λf=>let a:=eC 20 f (EY 6 f 19 18 c 17 a b);GJ 101 f d (λb c=>let d:=H4 22 (Bl 24 f 22 23 (GI e) (Ep 22 b 21 a));let a:=GF 27 (By 26 22 25 24 23 (Ep 22 b 21 a));wI b (ET 54 (GI e) f c (λa b=>D3 a λc=>let a:=EY 27 c 26 22 Du 25 a d;Gc 76 c 4 b (λb c=>GU (Ma ro K) e 28 b a ds c) λb c=>CJ (Ma ro K) b e a ds c) λa b=>CJ (Ma ro K) a e d ds b) (Gc 76 CL 4 c (λb c=>GU (Ma ro K) e 28 b a ds c) λb c=>CJ (Ma ro K) b e a ds c)) λb c=>CJ (Ma ro K) b e a ds c) λc d=>CJ (TX ro K) c e (eC 17 a b) ds d) λa c=>CJ (TX ro K) a e b ds c) K 0 e 14 a ds W:=by kernel_rfl
 dsimp at h;exact h
theorem qo(Q:Ending→CW→Prop)(e:Env)(W:CW):AQ prog Tryz.f92 Q .ret e [] W=Q (.returned (e 4)) W:=by kernel_rfl
def AF9{Q v0 v1 W}:=F1 92 38 [v0,v1] Tryz.f92 Q W Tryz.func92 (by kernel_rfl)
theorem vQ(v0:Value)(u:FrameMode)(K:Exit→Env→FrameMode→CW→Prop)(W:CW):wS prog Bf 109 17 (G_ prog 109) (Env.args [v0]) u W K=(vI u λv4 u0=>wV (CF prog .neq 20 true v4 (.nilIface)) λv6=>wI v6 (wV (tas prog 167 v4 true) λv9=>wV (ext v9 0) λv10=>wV (ext v9 1) λv11=>Iw (n_ prog 167 W) λv2 W1=>wV (NK prog 167 v2 v10 W1) λW2=>wV (ngt v11) λv13=>wI v13 (False) ((([]:List Deferred)=[]∧wV (RL prog 167 v2 0) λv15=>wV (ld prog 30 v15 W2) λv16=>wV (NK prog 30 v0 v16 W2) λW3=>K .normal (Env.of (Env.args [v0]) [(16,v16),(15,v15),(13,v13),(12,v11),(3,v11),(2,v2),(11,v11),(10,v10),(7,v9),(9,v9),(8,v4),(6,v6),(5,v4),(1,v4),(4,v4)]) u0 W3))) ((([]:List Deferred)=[]∧K .normal (Env.of (Env.args [v0]) [(6,v6),(5,v4),(1,v4),(4,v4)]) u0 W))):=by kernel_rfl
def Vm(ro:Option Nat)(K:AB):AB:=Ab (λa b c=>Im .leq a 5 1 λd=>let f:=Nw 37 d 36 (BN a) 35 a 5;Gc 76 d 4 c (λc d=>Gj K a (DB 4 (GI a) 39 (GI a) 38 c f) b d) λc d=>CJ K c a f b d) K
def OX:=by
 have h:=@Vm.eq_1;dsimp at h;exact h
def ACS(v0 v1:Value)(K:AB)(W:CW):=by
 have h:Er 110 40 v0 v1 W K=EB 110 40 [v0,v1] (HY 6 Be 5 Be 4 Be) W (Vm none K):=by kernel_rfl
 dsimp at h;exact h
def Mb(ro:Option Nat)(K:AB):AB:=Ab (λe ds W=>K (.exit 0) e ds W) (CX 2 (CX 1 K))
def zs(ro:Option Nat)(e:Env)(ds:List Deferred)(K:AB)(W:CW):=by
 have h:Dd ro 110 40 e ds W K=Gc 121 (Ai e) 1 W (λa b=>Gq 29 a Be λc=>CQ 5 c b λd=>wV (cl prog 5 3 d) λf=>ED .rem f 128 λg=>DQ .shl g (Et e) λh=>H9 .or 3 e 5 h λi=>oF e 6 7 λj=>ED .lss f 128 λk=>let a:=FR 21 k 23 22 f (Gp 6 j 20 j 19 e 6 5 i (Gp 18 i 17 h 16 e 6 15 g (Dh 14 f 13 (GI e) 7 f 12 (BK 11 d 10 c 9 a 8 (Ai e)))));wI k (GZ f 0 λc=>let a:=FR 26 c 25 24 f a;let d:=H4 29 (HV 28 26 27 a);wI c (Gc 76 Du 4 b (λa b=>GU (Mb ro K) e 30 a d ds b) λa b=>CJ (Mb ro K) a e d ds b) (ED .eql j 7 λc=>let a:=eC 29 c (CP 28 c 26 27 j a);Gc 76 c 4 b (λb c=>GU (Mb ro K) e 30 b a ds c) λb c=>CJ (Mb ro K) b e a ds c)) (GZ j 40 λc=>let a:=FR 31 c 33 32 j a;Dm c (Gc 76 CL 4 b (λb c=>GU K e 34 b a ds c) λb c=>CJ K b e a ds c) K e a ds b)) λa b=>CJ K a e (Z' 8 (Ai e)) ds b:=by kernel_rfl
 dsimp at h;exact h
theorem lN(Q:Ending→CW→Prop)(e:Env)(W:CW):AQ prog Tryz.f110 Q .ret e [] W=Q (.returned (e 4)) W:=by kernel_rfl
def ACT{Q v0 v1 W}:=F1 110 40 [v0,v1] Tryz.f110 Q W Tryz.func110 (by kernel_rfl)
def ACU(v0 v1:Value)(K:AB)(W:CW):=by
 have h:Er 121 45 v0 v1 W K=DV v0 λa=>BA 170 a λb=>CQ 29 b W λc=>Dl 29 c W λd=>DV v0 λf=>C0 170 f λg=>FT g W λh=>DQ .sub d h λi=>DQ .geq i v1 λj=>Gc 76 j 4 W (λk l=>GC ((MU 3 g W h)∧qd (GG (Es 29 c W d)) 29 b W c) (DV v0 λm=>C0 170 m λn=>FT n l λo=>DQ .add o v1 λp=>DV v0 λq=>C0 170 q λr=>Bj 3 r p l λl=>DV v0 λs=>BA 170 s λt=>CQ 29 t l λu=>DV v0 λv=>C0 170 v λw=>FT w l λy=>DQ .sub y v1 λz=>DV v0 λa0=>C0 170 a0 λa1=>FT a1 l λa2=>DV v0 λa3=>C0 170 a3 λa4=>FT a4 l λa5=>wV (Sp prog 29 u (some z) (some a2) (some a5) l) λa6=>GC ((Sp prog 29 u (some z) (some a2) (some a5) l=some a6)∧Ld (Gn 3 a4 l a5) 3 a1 l a2 (KY (Gn 3 w l y) 29 t l u)) (Lj K v0 v1 (Ep 4 a6 44 (A_ 43 a5 42 a4 41 a3 40 v0 (A_ 39 a2 38 a1 37 a0 36 v0 (A_ 35 z 34 v1 33 y 32 w (A_ 31 v 30 v0 29 u 28 t (A_ 27 s 26 v0 25 r 24 q (A_ 23 p 22 v1 21 o 20 n (A_ 19 m 18 v0 17 k 16 j (A_ 15 v1 14 i 13 h 12 g (A_ 11 f 10 v0 9 d 8 c (BK 7 b 6 a 5 v0 4 (.slice none 0 0)))))))))))) l))) λa f=>((Gn 3 g W h)∧KY (Es 29 c W d) 29 b W c)∧XM K a Env.bad [] f:=by kernel_rfl
 dsimp at h;exact h
theorem lO(Q:Ending→CW→Prop)(e:Env)(W:CW):AQ prog Tryz.f121 Q .ret e [] W=Q (.returned (e 4)) W:=by kernel_rfl
def ACV{Q v0 v1 W}:=F1 121 45 [v0,v1] Tryz.f121 Q W Tryz.func121 (by kernel_rfl)
def dF(ro:Option Nat)(K:AB):AB:=Ab (λe ds W=>K .ret e ds W) K
def ACW(v0 v1 v2:Value)(K:AB)(W:CW):=by
 have h:H5 103 15 v0 v1 v2 W K=DQ .geq v0 v1 λa=>let b:=FR 10 a 9 8 v1 (DD 7 v0 6 []);Dm a (DQ .leq v0 v2 λa=>Lc (dF none K) (M6 v0 v1 v2) 6 a 14 (Ft 13 a 10 (Bl 12 v2 10 11 v0 b)) [] W) (dF none K) (M6 v0 v1 v2) (Il 6 CL 14 13 undef 10 12 10 11 b) [] W:=by kernel_rfl
 dsimp at h;exact h
theorem lP(Q:Ending→CW→Prop)(e:Env)(W:CW):AQ prog Tryz.f103 Q .ret e [] W=Q (.returned (e 6)) W:=by kernel_rfl
def ACX{Q v0 v1 v2 W}:=F1 103 15 [v0,v1,v2] Tryz.f103 Q W Tryz.func103 (by kernel_rfl)
def dG(ro:Option Nat)(K:AB):AB:=Ab (λe ds W=>K .ret e ds W) K
def ACY(v0:Value)(K:AB)(W:CW):=by
 have h:HM 100 9 [v0] W K=HK .eql 5 v0 .u8 1 λa=>let b:=Ep 5 a 4 (DD 3 v0 2 []);Ut a (dG none K) (Env.args [v0]) (JM 2 Du 8 7 5 6 b) [] W (HK .eql 5 v0 .u8 2 λa=>Lc (dG none K) (Env.args [v0]) 2 a 8 (CP 7 a 5 6 v0 b) [] W):=by kernel_rfl
 dsimp at h;exact h
theorem lQ(Q:Ending→CW→Prop)(e:Env)(W:CW):AQ prog Tryz.f100 Q .ret e [] W=Q (.returned (e 2)) W:=by kernel_rfl
def ACZ{Q v0 W}:=F1 100 9 [v0] Tryz.f100 Q W Tryz.func100 (by kernel_rfl)
def OY(ro:Option Nat)(K:AB):AB:=Ab (λe ds W=>K .ret e ds W) K
def ACa(v0:Value)(K:AB)(W:CW):=by
 have h:HM 101 12 [v0] W K=Dl 9 v0 W λa=>let b:=eC 4 a (DD 3 v0 2 []);GD 103 a (TN 1) (TN 60) W (λa c=>Dm a (Iw (cvs prog 9 29 v0 c) λc d=>let a:=H4 6 (Bl 8 c 6 7 v0 (Ep 6 a 5 b));ET 123 c (.func (.func 124) #[] #[]) d (λb c=>D3 b λd=>GU (OY none K) (Env.args [v0]) 2 d (EY 11 d 10 6 Du 9 b a) [] c) λb c=>Lb (OY none K) b [v0] a c) (OY none K) (Env.args [v0]) (DD 2 CL 11 (By 10 6 9 8 7 (Ep 6 a 5 b))) [] c) λa c=>Lb (OY none K) a [v0] b c:=by kernel_rfl
 dsimp at h;exact h
theorem XO(Q:Ending→CW→Prop)(e:Env)(W:CW):AQ prog Tryz.f101 Q .ret e [] W=Q (.returned (e 2)) W:=by kernel_rfl
def ACb{Q v0 W}:=F1 101 12 [v0] Tryz.f101 Q W Tryz.func101 (by kernel_rfl)
def ACc(v0 v1:Value)(K:AB)(W:CW):=by
 have h:Er 123 9 v0 v1 W K=(let a:=eC 6 v1 (DD 5 v0 4 []);ET 140 v0 v1 W (λb c=>ED .geq b 0 λd=>Lj K v0 v1 (FR 4 d 8 7 b a) c) λb c=>HX K b v0 v1 a c):=by kernel_rfl
 dsimp at h;exact h
theorem lR(Q:Ending→CW→Prop)(e:Env)(W:CW):AQ prog Tryz.f123 Q .ret e [] W=Q (.returned (e 4)) W:=by kernel_rfl
def ACd{Q v0 v1 W}:=F1 123 9 [v0,v1] Tryz.f123 Q W Tryz.func123 (by kernel_rfl)
def dH(ro:Option Nat)(K:AB):AB:=Ab (λe ds W=>K .ret (Env.of e [(4,(.int .i64 (-1)))]) ds W) K
def ACe(v0 v1:Value)(K:AB)(W:CW):=by
 have h:Er 140 19 v0 v1 W K=Dl 29 v0 W λa=>EB 140 19 [v0,v1] (BK 8 Be 7 a 6 v0 4 Be) W (dH none K):=by kernel_rfl
 dsimp at h;exact h
def Vn(ro:Option Nat)(K:AB):AB:=Ab (λa b c=>B_ a 8 λd=>Gt K a 8 d 18 b c) K
def aF:=by
 have h:=@Vn.eq_1;dsimp at h;exact h
def zt(ro:Option Nat)(e:Env)(ds:List Deferred)(K:AB)(W:CW):=by
 have h:Dd ro 140 19 e ds W K=FU e 8 7 λa=>Gs a (LA 29 e 8 λb=>CQ 5 b W λc=>let a:=Bz 15 c 14 b 13 e 8 12 (E_ 11 (BN e) 5 (CY e) 10 e 8 9 a);Dt prog Bf (BN e) [c] W (λb c=>Dm b (Gj (Vn ro K) e (DB 4 (CY e) 17 (CY e) 16 b a) ds c) (Vn ro K) e (eC 16 b a) ds c) λb c=>CJ (Vn ro K) b e a ds c) K 0 e 9 a ds W:=by kernel_rfl
 dsimp at h;exact h
theorem XP(Q:Ending→CW→Prop)(e:Env)(W:CW):AQ prog Tryz.f140 Q .ret e [] W=Q (.returned (e 4)) W:=by kernel_rfl
def ACf{Q v0 v1 W}:=F1 140 19 [v0,v1] Tryz.f140 Q W Tryz.func140 (by kernel_rfl)
def dI(ro:Option Nat)(K:AB):AB:=Ab (λe ds W=>K .ret e ds W) K
def ACg(v0:Value)(K:AB)(W:CW):=by
 have h:HM 124 9 [v0] W K=HK .lss 5 v0 .u8 33 λa=>let b:=Ep 5 a 4 (DD 3 v0 2 []);Ut a (dI none K) (Env.args [v0]) (JM 2 Du 8 7 5 6 b) [] W (HK .gtr 5 v0 .u8 126 λa=>Lc (dI none K) (Env.args [v0]) 2 a 8 (CP 7 a 5 6 v0 b) [] W):=by kernel_rfl
 dsimp at h;exact h
theorem lS(Q:Ending→CW→Prop)(e:Env)(W:CW):AQ prog Tryz.f124 Q .ret e [] W=Q (.returned (e 2)) W:=by kernel_rfl
def ACh{Q v0 W}:=F1 124 9 [v0] Tryz.f124 Q W Tryz.func124 (by kernel_rfl)
def ACi(v0 v1:Value)(K:AB)(W:CW):=by
 have h:Er 102 17 v0 v1 W K=GH 78 v0 W λa b=>Iw (mkm b) λb c=>Bp 181 c λc d=>Bj 181 c b d λd=>Iw (mkm d) λd f=>Bp 181 f λf g=>Bj 181 f d g λg=>Bp 161 g λg h=>RR 125 #[] #[a,c,g,f] λi=>Bj 161 g i h λh=>CQ 161 g h λj=>let a:=DB 13 v1 12 j 11 i (A_ 8 g 7 f 10 d 6 c (DD 9 b 5 (Fu 4 (.slice none 0 0) 2 a)));Dt prog Bf j [v1] h (λb c=>Db b λd=>Dc b λf=>Lj K v0 v1 (eC 5 f (A_ 4 d 16 f 15 d 14 b a)) c) λb c=>HX K b v0 v1 a c:=by kernel_rfl
 dsimp at h;exact h
theorem XQ(Q:Ending→CW→Prop)(e:Env)(W:CW):AQ prog Tryz.f102 Q .ret e [] W=Q (.returned (.tuple #[e 4,e 5])) W:=by kernel_rfl
def ACj{Q v0 v1 W}:=F1 102 17 [v0,v1] Tryz.f102 Q W Tryz.func102 (by kernel_rfl)
def oN(ro:Option Nat)(K:AB):AB:=Ab (λa b c=>Dl 29 (DW a) c λd=>ED .leq d 60 λf=>Gj K a (F2 7 f 6 (DW a) (E_ 83 f 82 d 81 a 10 80 (DW a))) b c) K
def II:=by
 have h:=@oN.eq_1;dsimp at h;exact h
def Mc(ro:Option Nat)(K:AB):AB:=Ab (λa b c=>KF 48 a 8 2 λd=>CQ 45 d c λf=>Dl 45 f c λg=>Ko ro 125 84 0 a (BK 51 Be 50 g 49 f 48 d) b c 0 (oN ro K)) K
def Jl:=by
 have h:=@Mc.eq_1;dsimp at h;exact h
def Vo(ro:Option Nat)(K:AB):AB:=Ab (λa b c=>DG 181 a 2 c λd=>wV (jt prog 181 d (Ai a) Du c) λc=>D9 48 a 8 λf=>As f c λg=>ZU .neq 9 true g (.string ⟨#[]⟩) λh=>let d:=F2 31 h 30 g (BK 29 f 10 (.slice none 0 0) 28 (Ai a) 27 d);Dm h (KF 78 a 1 0 λf=>CQ 75 f c λg=>D9 48 a 8 λh=>As h c λi=>EW 75 g i false c λj=>wV (fld prog 48 j 3) λk=>HK .neq 5 k .u8 0 λl=>let d:=DB 38 l 37 k 36 j (A_ 35 i 34 h 33 g 32 f d);wI l (Gj (Mc ro K) a (F2 7 CL 6 (.slice none 0 0) d) b c) (DG 161 a 3 c λf=>D9 48 a 8 λg=>As g c λh=>let d:=DB 42 h 41 g 40 f d;Dt prog Bf f [h] c (λc f=>Db c λg=>Dc c λh=>D3 h λi=>let c:=A_ 47 i 46 h 9 h 10 g (Dh 45 h 44 g 39 c 43 d);Dm i (Gj (Mc ro K) a (F2 7 CL 6 (.slice none 0 0) c) b f) (Mc ro K) a c b f) λc f=>CJ (Mc ro K) c a d b f)) (Mc ro K) a d b c) K
def TZ:=by
 have h:=@Vo.eq_1;dsimp at h;exact h
def Vp(ro:Option Nat)(K:AB):AB:=Ab (λe ds W=>wI (e 26) ((Vo ro K) .ret (Env.of e [(7,(.bool false)),(6,(.slice none 0 0))]) ds W) ((Vo ro K) .normal e ds W)) (Vo ro K)
def ACk(v0 v1 v2 v3 v4:Value)(K:AB)(W:CW):=by
 have h:HM 125 84 [v0,v1,v2,v3,v4] W K=BA 78 v1 λa=>CQ 75 a W λb=>EW 75 b v0 true W λc=>Db c λd=>Dc c λf=>Bp 48 W λg h=>Bj 48 g d h λh=>D3 f λi=>let a:=Ep 22 i 21 (XJ 20 f 9 f 8 g 19 (A_ 18 d 13 c 17 c 16 v0 (BK 15 b 14 a 7 CL 6 (.slice none 0 0))));Jw i (Vp none K) (Env.args [v0,v1,v2,v3,v4]) 26 (JM 25 undef 22 24 22 23 a) [] h (CQ 181 v2 h λb=>EW 181 b v0 false h λc=>GU (Vp none K) (Env.args [v0,v1,v2,v3,v4]) 26 c (H8 25 c 22 24 v0 22 23 b a) [] h):=by kernel_rfl
 dsimp at h;exact h
def dJ(ro:Option Nat)(K:AB):AB:=Ab (λa b c=>B_ a 51 λd=>Gt K a 51 d 79 b c) K
def aG:=by
 have h:=@dJ.eq_1;dsimp at h;exact h
def RX(ro:Option Nat)(K:AB):AB:=Gu (λa b c=>DG 181 a 4 c λd=>KF 72 a 12 0 λf=>As f c λg=>wV (jt prog 181 d g Du c) λc=>D9 72 a 12 λh=>CQ 5 h c λi=>M8 prog 29 1 [(0,i)] c λc j=>Li prog [29,29] (DW a) c j λj k=>GU (dJ ro K) a 10 j (A_ 78 j 77 c 76 i 75 h (BK 74 (DW a) 73 g 72 f 71 d)) b k) (dJ ro K)
def XR:=by
 have h:=@RX.eq_1;dsimp at h;exact h
def Jy(ro:Option Nat)(K:AB):AB:=Ab (λe ds W=>wI (e 70) ((RX ro K) .ret (Env.of e [(7,(.bool false)),(6,(.slice none 0 0))]) ds W) ((RX ro K) .normal e ds W)) (RX ro K)
def zu(ro:Option Nat)(e:Env)(ds:List Deferred)(K:AB)(W:CW):=by
 have h:Dd ro 125 84 e ds W K=FU e 51 50 λa=>Gs a (KZ 45 e 49 e 51 λb=>CQ 72 b W λc=>Bp 72 W λd f=>Bj 72 d c f λf=>BA 72 d λg=>As g f λh=>let a:=F2 56 h 55 g (BK 12 d 54 c 53 b 52 a);GJ 101 h f (λb c=>D3 b λf=>let a:=FR 59 f 58 57 b a;Jw f (Jy ro K) e 70 (JM 69 undef 65 68 65 67 (MT 66 undef 65 true 65 Du 64 (DL 63 59 62 61 60 a))) ds c (C0 72 d λb=>CQ 5 b c λf=>let a:=GF 59 (CP 61 f 59 60 b a);GJ 100 f c (λb c=>D3 b λf=>let a:=eC 65 f (EY 64 f 63 59 CL 62 b a);Jw f (Jy ro K) e 70 (DL 69 65 68 67 66 a) ds c (DG 181 e 4 c λb=>BA 72 d λd=>As d c λf=>EW 181 b f false c λg=>GU (Jy ro K) e 70 g (CP 69 g 65 68 f (CP 67 d 65 66 b a)) ds c)) λb c=>CJ (Jy ro K) b e a ds c)) λb c=>CJ (Jy ro K) b e a ds c) K 0 e 52 a ds W:=by kernel_rfl
 dsimp at h;exact h
theorem XS(Q:Ending→CW→Prop)(e:Env)(W:CW):AQ prog Tryz.f125 Q .ret e [] W=Q (.returned (.tuple #[e 6,e 7])) W:=by kernel_rfl
def ACl{Q v0 v1 v2 v3 v4 W}:=F1 125 84 [v0,v1,v2,v3,v4] Tryz.f125 Q W Tryz.func125 (by kernel_rfl)
end Go.Ce
namespace Go.Ce
theorem A7(W:CW)(o:Am)(b:Nat):(W.new o).obj b=if b=W.sz then some o else W.obj b:=by
 unfold CW.new CW.obj;simp only[Tr.Bc]
theorem G4(W:CW)(i:Nat)(o:Am)(b:Nat):(W.A6 i o).obj b=if b=i then some o else W.obj b:=by
 unfold CW.A6 CW.obj;simp only[Tr.Bc]
theorem HB(W:CW)(o:Am):(W.new o).sz=W.sz+1:=rfl
theorem vR(W:CW)(i:Nat)(o:Am):(W.A6 i o).sz=W.sz:=rfl
def CW.cell(W:CW)(b k:Nat):Option Value:=match W.obj b with
 |some (.cells c n z _)=>if k<n then some (cellAt c z k)else none
 |some (.fixed f n _)=>if k<n then some (f k)else none
 |_=>none
def Ag(W:CW):Prop:=∀i o,W.obj i=some o→i<W.sz
structure Kp(W W':CW):Prop where
 sz:W.sz≤W'.sz
 obj:∀b,b<W.sz→W'.obj b=W.obj b
structure Dn(b:Nat)(W W':CW):Prop where
 sz:W'.sz=W.sz
 obj:∀i,i≠b→W'.obj i=W.obj i
theorem Kp.refl(W:CW):Kp W W:=⟨aaf _,λ_ _=>rfl⟩
theorem Kp.trans{A B C:CW}(h:Kp A B)(k:Kp B C):Kp A C:=⟨abh h.sz k.sz,λb hb=>(k.obj b (abC hb h.sz)).trans (h.obj b hb)⟩
theorem Kp.new{W:CW}(o:Am):Kp W (W.new o):=⟨Nat.le_succ _,λb hb=>by rw[A7,aac (Nat.ne_of_lt hb)]⟩
theorem Kp.A6{A B C:CW}{b:Nat}(h:Kp A B)(hb:A.sz≤b)(k:Dn b B C):Kp A C:=⟨by rw[k.sz];exact h.sz,λi hi=>(k.obj i (by omega)).trans (h.obj i hi)⟩
theorem Ag.new{W:CW}(h:Ag W)(o:Am):Ag (W.new o):=by
 intro i u hu;rw[A7]at hu;rw[HB]
 split at hu
 ·omega
 ·have:=h i u hu;omega
theorem Ag.A6{W W':CW}{b:Nat}(h:Ag W)(hb:b<W.sz)(k:Dn b W W'):Ag W':=by
 intro i u hu;rw[k.sz]
 by_cases e:i=b
 ·omega
 ·rw[k.obj i e]at hu;exact h i u hu
theorem Dn.of(W:CW)(b:Nat)(o:Am):Dn b W (W.A6 b o):=⟨rfl,λi hi=>by rw[G4,aac hi]⟩
theorem dK{W:CW}(h:Ag W){b k:Nat}{v:Value}(hc:W.cell b k=some v):b<W.sz:=by
 unfold CW.cell at hc
 cases ho:W.obj b with
 |none=>rw[ho]at hc;cases hc
 |some o=>exact h b o ho
theorem P9{W W':CW}{b:Nat}(h:W'.obj b=W.obj b)(k:Nat):W'.cell b k=W.cell b k:=by unfold CW.cell;rw[h]
theorem Kp.cell{W W':CW}(h:Kp W W')(ht:Ag W){b k:Nat}{v:Value}(hc:W.cell b k=some v):W'.cell b k=some v:=by
 rw[P9 (h.obj b (dK ht hc))];exact hc
theorem Dn.cell{W W':CW}{i:Nat}(h:Dn i W W'){b:Nat}(hb:b≠i)(k:Nat):W'.cell b k=W.cell b k:=P9 (h.obj b hb) k
def Aq(W:CW)(b:Nat)(e:TypeId)(vs:List Value):Prop:=∃c n z,W.obj b=some (.cells c n z e)∧vs.length=n∧∀k v,vs[k]?=some v→cellAt c z k=v
theorem Aq.cell{W:CW}{b:Nat}{e:TypeId}{vs:List Value}(h:Aq W b e vs){k:Nat}{v:Value}(hk:vs[k]?=some v):W.cell b k=some v:=by
 obtain⟨c,n,z,ho,hn,hv⟩:=h;unfold CW.cell;rw[ho];have:k<n:=by rw[←hn];exact(aaa.1 hk).1
 simp only[aad this,hv k v hk]
theorem Aq.congr{W W':CW}{b:Nat}{e:TypeId}{vs:List Value}(h:Aq W b e vs)(ho:W'.obj b=W.obj b):Aq W' b e vs:=by
 obtain⟨c,n,z,h1,h2⟩:=h;exact⟨c,n,z,ho.trans h1,h2⟩
theorem Aq.lt{W:CW}(ht:Ag W){b:Nat}{e:TypeId}{vs:List Value}(h:Aq W b e vs):b<W.sz:=by
 obtain⟨c,n,z,h1,h2⟩:=h;exact ht _ _ h1
theorem Aq.ext{W W':CW}{b:Nat}{e:TypeId}{vs:List Value}(h:Aq W b e vs)(ht:Ag W)(k:Kp W W'):Aq W' b e vs:=h.congr (k.obj b (h.lt ht))
section
variable {P:Program}
theorem AD{t:TypeId}(h:agg? P t=some false){a:Addr}{W:CW}{v:Value}(hc:W.cell a.block a.off=some v):ld P t (.pointer (some a)) W=some v:=by
 unfold CW.cell at hc;unfold ld LS;simp only
 split at hc
 ·rename_i c n z e ho;rw[ho];simp only[h,cond_eq_ite]
  split at hc
  ·rename_i Ao;rw[aad (show Nat.blt a.off n=true from aan Ao)];exact hc
  ·cases hc
 ·rename_i f n e ho;rw[ho];simp only[h,cond_eq_ite]
  split at hc
  ·rename_i Ao;rw[aad (show Nat.blt a.off n=true from aan Ao)];exact hc
  ·cases hc
 ·cases hc
theorem HZ{c:Tr Value}{z:Array Value}:∀{vs:List Value} {k:Nat},(∀j v,vs[j]?=some v→cellAt c z (k+j)=v)→BE c z vs.length k=vs
 |[],_,_=>rfl
 |v::vs,k,h=>by
  simp only[aap,BE];have e:=h 0 v rfl;rw[aa6]at e;rw[e,HZ λj w hj=>?_];have:=h (j+1) w (by simpa using hj);rw[show k+1+j=k+(j+1) by omega];exact this
theorem P'{f:Nat→Value}:∀{vs:List Value} {k:Nat},(∀j v,vs[j]?=some v→f (k+j)=v)→FC f vs.length k=vs
 |[],_,_=>rfl
 |v::vs,k,h=>by
  simp only[aap,FC];have e:=h 0 v rfl;rw[aa6]at e;rw[e,P' λj w hj=>?_];have:=h (j+1) w (by simpa using hj);rw[show k+1+j=k+(j+1) by omega];exact this
def Cells(W:CW)(b k:Nat)(vs:List Value):Prop:=∀j v,vs[j]?=some v→W.cell b (k+j)=some v
theorem Cells.ext{W W':CW}{b k:Nat}{vs:List Value}(h:Cells W b k vs)(ht:Ag W)(hx:Kp W W'):Cells W' b k vs:=λj v hj=>hx.cell ht (h j v hj)
theorem Aq.cells{W:CW}{b:Nat}{e:TypeId}{vs:List Value}(h:Aq W b e vs):Cells W b 0 vs:=λj v hj=>by rw[aa0];exact h.cell hj
theorem Bn{t:TypeId}{m:Nat}(h:agg? P t=some true)(hs:De P t=some m){a:Addr}{W:CW}{vs:List Value}(hl:vs.length=m)(hm:0<m)(hc:Cells W a.block a.off vs):ld P t (.pointer (some a)) W=some (.agg vs.toArray):=by
 obtain⟨l,Y3⟩:∃l,l+1=m:=⟨m-1,by omega⟩
 have Uj:∃v,vs[l]?=some v:=⟨vs[l]'(by omega),ck _⟩
 obtain⟨v,hv⟩:=Uj;have OS:=hc l v hv;unfold CW.cell at OS;unfold ld LS;simp only
 split at OS
 ·rename_i c n z e ho
  split at OS
  ·rename_i Ao;rw[ho];simp only[h,hs,cond_eq_ite];rw[aad (aan (by omega)),←hl,HZ λj w hj=>?_];have:=hc j w hj;unfold CW.cell at this;rw[ho]at this;simp only at this
   split at this
   ·exact aa1 this
   ·cases this
  ·cases OS
 ·rename_i f n e ho
  split at OS
  ·rename_i Ao;rw[ho];simp only[h,hs,cond_eq_ite];rw[aad (aan (by omega)),←hl,P' λj w hj=>?_];have:=hc j w hj;unfold CW.cell at this;rw[ho]at this;simp only at this
   split at this
   ·exact aa1 this
   ·cases this
  ·cases OS
 ·cases OS
theorem Ad{α:Type}{x:Option α}{v:α}{K:α→Prop}(h:x=some v)(hk:K v):wV x K:=by rw[h];exact hk
theorem GL{x:Option (Value×CW)}{v:Value}{W:CW}{K:Value→CW→Prop}(h:x=some (v,W))(hk:K v W):Iw x K:=by rw[h];exact hk
theorem H'{t:TypeId}{n:Nat}{z:Value}(hz:Hr P t=some z)(hs:De P t=some n){W:CW}{K:Value→CW→Prop}(ht:Ag W)
  (hk:∀W1,Kp W W1→Ag W1→W1.sz=W.sz+1→Aq W1 W.sz t z.cells.toList→K (.pointer (some ⟨W.sz,0,none⟩)) W1):Iw (n_ P t W) K:=by
 refine GL (by unfold n_;rw[hz,hs]) (hk _ (.new _) (ht.new _) rfl ⟨.nil,_,_,by rw[A7,aad rfl],by simp,λk v hv=>?_⟩);have Ao:=(aaa.1 hv).1;simp only[abF]at Ao;unfold cellAt;simp only[Tr.get_nil];rw[acg Ao];rw[aba]at hv;simp only[aal,hv,abc]
theorem Fy{t:TypeId}{n:Nat}(hs:De P t=some n){v:Value}{W:CW}{K:Value→CW→Prop}(ht:Ag W)
  (hk:∀W1,Kp W W1→Ag W1→W1.sz=W.sz+1→Aq W1 W.sz t v.cells.toList→K (.pointer (some ⟨W.sz,0,none⟩)) W1):Iw (bxw P t v W) K:=by
 refine GL (by unfold bxw;rw[hs];rfl) (hk _ (.new _) (ht.new _) rfl ⟨_,_,_,by rw[A7,aad rfl],by simp,λk w hv=>?_⟩);have Ao:=(aaa.1 hv).1;rw[B6 _ _ _ Ao,aaj,hv];rfl
def putAt(vs:List Value)(k:Nat)(ws:List Value):List Value:=vs.take k++ws++vs.drop (k+ws.length)
theorem dL{vs ws:List Value}{k:Nat}(h:k+ws.length≤vs.length):(putAt vs k ws).length=vs.length:=by
 simp only[putAt,aah,aaI,abN];omega
theorem Jm{vs ws:List Value}{k:Nat}(h:k+ws.length≤vs.length)(j:Nat):(putAt vs k ws)[j]?=if k≤j∧j<k+ws.length then ws[j-k]? else vs[j]?:=by
 have h1:(vs.take k).length=k:=by rw[aaI];omega
 simp only[putAt,aaO]
 by_cases h2:j<k
 ·rw[aat (by omega),aac (by omega),aaW,aad h2]
 ·rw[aay (by omega),h1]
  by_cases h3:j<k+ws.length
  ·rw[aat (by omega),aad ⟨by omega,h3⟩]
  ·rw[aay (by omega),aac (by omega),abv];congr 1;omega
theorem Aq.put{W:CW}{b:Nat}{e:TypeId}{vs ws:List Value}{k:Nat}(h:Aq W b e vs)(hk:k+ws.length≤vs.length):∃c n z,W.obj b=some (.cells c n z e)∧vs.length=n∧Aq (W.A6 b (.cells (c.AS k ws) n z e)) b e (putAt vs k ws):=by
 obtain⟨c,n,z,ho,hn,hv⟩:=h;refine⟨c,n,z,ho,hn,_,_,_,by rw[G4,aad rfl],by rw[dL hk,hn],λj v hj=>?_⟩;rw[Jm hk]at hj;unfold cellAt;rw[Tr.KL]
 split at hj
 ·rename_i h1;rw[aad h1,hj]
 ·rename_i h1;rw[aac h1];exact hv j v hj
theorem Ac{t:TypeId}(hs:De P t=some 1){a:Addr}{v:Value}(h1:BG v=true){W:CW}{e:TypeId}{vs:List Value}(hb:Aq W a.block e vs)(ha:a.off<vs.length){K:CW→Prop}
  (hk:∀W1,Dn a.block W W1→Aq W1 a.block e (putAt vs a.off [v])→K W1):wV (NK P t (.pointer (some a)) v W) K:=by
 obtain⟨c,n,z,ho,hn,jm⟩:=hb.put (k:=a.off) (ws:=[v]) (by simp only[aaJ];omega);refine Ad ?_ (hk _ (Dn.of _ _ _) jm);have:NK P t (.pointer (some a)) v W=Kv P t a v W:=rfl;rw[this];unfold Kv;rw[ho];have Ao:Nat.blt a.off n=true:=aan (by omega)
 cases v<;>first|(cases h1;done)|(simp only[hs,Ao,abE,ab9,cond_true,Tr.AS])
theorem Fg{t:TypeId}{m:Nat}(hs:De P t=some m){a:Addr}{ws:List Value}(h1:ws.all BG=true)(hm:ws.length=m){W:CW}{e:TypeId}{vs:List Value}(hb:Aq W a.block e vs)(ha:a.off+m≤vs.length){K:CW→Prop}
  (hk:∀W1,Dn a.block W W1→Aq W1 a.block e (putAt vs a.off ws)→K W1):wV (NK P t (.pointer (some a)) (.agg ws.toArray) W) K:=by
 obtain⟨c,n,z,ho,hn,jm⟩:=hb.put (k:=a.off) (ws:=ws) (by omega);refine Ad ?_ (hk _ (Dn.of _ _ _) jm);have:NK P t (.pointer (some a)) (.agg ws.toArray) W=Kv P t a (.agg ws.toArray) W:=rfl;rw[this];unfold Kv;rw[ho];have Ao:Nat.ble (a.off+m) n=true:=aan (by omega);simp only[hs,Ao,hm,acK,abE,ab9,cond_true,h1]
end
theorem AA{α:Type}(v:α)(K:α→Prop):wV (some v) K=K v:=rfl
theorem vS(v:Value)(W:CW)(K:Value→CW→Prop):Iw (some (v,W)) K=K v W:=rfl
theorem BB(X Y:Prop):wI (.bool true) X Y=X:=rfl
theorem AZ(X Y:Prop):wI (.bool false) X Y=Y:=rfl
theorem AW(b:Bool):ngt (.bool b)=some (.bool (!b)):=rfl
theorem BI(Y:Env→List Deferred→CW→Prop)(K:AB)(e:Env)(ds:List Deferred)(W:CW):Ab Y K .normal e ds W=Y e ds W:=rfl
theorem NP(Y:Env→List Deferred→CW→Prop)(K:AB)(e:Env)(ds:List Deferred)(W:CW):Ab Y K .ret e ds W=K .ret e ds W:=rfl
theorem Oy(Y:Env→List Deferred→CW→Prop)(K:AB)(i:Nat)(e:Env)(ds:List Deferred)(W:CW):Ab Y K (.exit i) e ds W=K (.exit i) e ds W:=rfl
theorem aH(Y:Env→List Deferred→CW→Prop)(K:AB)(ch:List PanicEntry)(e:Env)(ds:List Deferred)(W:CW):Ab Y K (.panic ch) e ds W=K (.panic ch) e ds W:=rfl
theorem zw(i:Nat)(K:AB)(e:Env)(ds:List Deferred)(W:CW):CX i K .normal e ds W=K .normal e ds W:=rfl
theorem Tm(i:Nat)(K:AB)(e:Env)(ds:List Deferred)(W:CW):CX i K .ret e ds W=K .ret e ds W:=rfl
theorem oO(i:Nat)(K:AB)(ch:List PanicEntry)(e:Env)(ds:List Deferred)(W:CW):CX i K (.panic ch) e ds W=K (.panic ch) e ds W:=rfl
theorem IJ(i j:Nat)(K:AB)(e:Env)(ds:List Deferred)(W:CW):CX i K (.exit j) e ds W=if j=i then K .normal e ds W else K (.exit j) e ds W:=by
 simp only[CX,cond_eq_ite,abz]
theorem jv(vs:List Value)(t:Nat):Env.args vs t=(vs[t]?).getD undef:=by
 unfold Env.args
 cases vs[t]? <;>rfl
def EC(I:Nat→Env→List Deferred→CW→Prop)(k:Nat)(K:AB):AB:=λx e ds W=>match x with
 | .normal=>∃k',k'<k∧I k' e ds W
 |x=>K x e ds W
theorem Uu(I:Nat→Env→List Deferred→CW→Prop)(k:Nat)(K:AB)(e:Env)(ds:List Deferred)(W:CW):EC I k K .normal e ds W=∃k',k'<k∧I k' e ds W:=rfl
theorem tKr(I:Nat→Env→List Deferred→CW→Prop)(k:Nat)(K:AB)(e:Env)(ds:List Deferred)(W:CW):EC I k K .ret e ds W=K .ret e ds W:=rfl
theorem VM(I:Nat→Env→List Deferred→CW→Prop)(k:Nat)(K:AB)(i:Nat)(e:Env)(ds:List Deferred)(W:CW):EC I k K (.exit i) e ds W=K (.exit i) e ds W:=rfl
theorem tKp(I:Nat→Env→List Deferred→CW→Prop)(k:Nat)(K:AB)(ch:List PanicEntry)(e:Env)(ds:List Deferred)(W:CW):EC I k K (.panic ch) e ds W=K (.panic ch) e ds W:=rfl
theorem DX{P:Program}{L:List FuncId}{ro:Option Nat}{fn:FuncId}{nt:Nat}{b:Code}{K:AB}(I:Nat→Env→List Deferred→CW→Prop)(k:Nat){e:Env}{ds:List Deferred}{W:CW}(h0:I k e ds W)
  (M1:∀k e ds W,I k e ds W→D8 P L ro fn nt b e ds W (EC I k K)):Gi P L ro fn nt (.loop b) e ds W K :=
 AFf I (λk e ds W hi=>M1 k e ds W hi) k e ds W h0
def H_(v:Value)(W:CW):Ending→CW→Prop:=λe W'=>e=.returned v∧W'=W
theorem A4{P:Program}{L:List FuncId}{f:FuncId}{args:List Value}{W:CW}{K:Value→CW→Prop}{KP:List PanicEntry→CW→Prop}{v:Value}(h:AX P L f args W (H_ v W))(hk:K v W):AX P L f args W (BO K KP) :=
 h.mono λe W' ⟨he,hw⟩=>by subst he;subst hw;exact hk
theorem G5{P:Program}{L:List FuncId}{f:FuncId}{first cap:Array Value}{args:List Value}{W:CW}{K:Value→CW→Prop}{KP:List PanicEntry→CW→Prop}{fn:Func}(hf:P.funcs[f]?=some fn)(hb:fn.body.isNone=false)
  (h:AX P L f (first.toList++args++cap.toList) W (BO K KP)):Dt P L (.func (.func f) first cap) args W K KP:=by
 unfold Dt JI;simp only;have:KJ P f (first.toList++args++cap.toList) W=none:=by unfold KJ;rw[hf];simp only[hb,cond_false]
 rw[this];exact h
def At{α:Type}(n:Nat)(R:Nat→Nat→α→Prop)(v:Value)(l:List α):Prop:=∃a cap,v=.slice a l.length cap∧∀i x,l[i]?=some x→∃p,a=some p∧R p.block (p.off+i*n) x
section
variable {P:Program}{t:TypeId}{k:Bool}
theorem BJ(kk:IntKind)(a b:Int):CF P .eql t k (.int kk a) (.int kk b)=some (.bool (a==b)):=by simp[CF,Oo]
theorem CM(kk:IntKind)(a b:Int):CF P .neq t k (.int kk a) (.int kk b)=some (.bool (a !=b)):=by simp[CF,Oo]
theorem Af(kk:IntKind)(a b:Int):CF P .lss t k (.int kk a) (.int kk b)=some (.bool (decide (a<b))):=by simp[CF,Oo]
theorem Dv(kk:IntKind)(a b:Int):CF P .leq t k (.int kk a) (.int kk b)=some (.bool (decide (a≤b))):=by simp[CF,Oo]
theorem Bt(kk:IntKind)(a b:Int):CF P .gtr t k (.int kk a) (.int kk b)=some (.bool (decide (a>b))):=by simp[CF,Oo]
theorem CC(kk:IntKind)(a b:Int):CF P .geq t k (.int kk a) (.int kk b)=some (.bool (decide (a≥b))):=by simp[CF,Oo]
theorem AO(kk:IntKind)(a b:Int):CF P .add t k (.int kk a) (.int kk b)=some (.int kk (kk.wrap (a+b))):=by simp[CF,Oo]
theorem Ae(kk:IntKind)(a b:Int):CF P .sub t k (.int kk a) (.int kk b)=some (.int kk (kk.wrap (a-b))):=by simp[CF,Oo]
theorem Lm(kk:IntKind)(a b:Int):CF P .mul t k (.int kk a) (.int kk b)=some (.int kk (kk.wrap (a*b))):=by simp[CF,Oo]
theorem XT(kk:IntKind)(a b:Int)(h:b≠0):CF P .quo t k (.int kk a) (.int kk b)=some (.int kk (kk.wrap (a.tdiv b))):=by simp[CF,Oo,beq_false_of_ne h]
theorem XU(kk:IntKind)(a b:Int)(h:b≠0):CF P .rem t k (.int kk a) (.int kk b)=some (.int kk (a.tmod b)):=by simp[CF,Oo,beq_false_of_ne h]
theorem Tn(a b:ByteArray):CF P .eql t k (.string a) (.string b)=some (.bool (Y2 (sb a) (sb b))):=rfl
theorem OZ(a b:ByteArray):CF P .neq t k (.string a) (.string b)=some (.bool (!Y2 (sb a) (sb b))):=rfl
theorem aI(a b:ByteArray):CF P .lss t k (.string a) (.string b)=some (.bool (Hu (sb a) (sb b))):=rfl
theorem aJ(a b:ByteArray):CF P .geq t k (.string a) (.string b)=some (.bool (!Hu (sb a) (sb b))):=rfl
theorem Ln:∀l:List UInt8,Y2 l l=true
 |[]=>rfl
 |a::l=>by simp only[Y2,abE,Ln l,ab9]
theorem zx{a b:ByteArray}:Y2 (sb a) (sb b)=true↔a=b:=⟨LX,λh=>by rw[h];exact Ln _⟩
theorem RY(a b:ByteArray):Y2 (sb a) (sb b)=decide (a=b):=by
 cases h:Y2 (sb a) (sb b)with
 |true=>exact(decide_eq_true (LX h)).symm
 |false=>exact(decide_eq_false λe=>by rw[zx.2 e]at h;cases h).symm
theorem Aj{el:TypeId}(u:P.underlying t=some (.slice el))(a:Option Addr)(n c:Nat)(W:CW):Kw P t (.slice a n c) W=some (.int .i64 n):=by unfold Kw;rw[u]
theorem N0(u:P.underlying t=some .string)(s:ByteArray)(W:CW):Kw P t (.string s) W=some (.int .i64 s.size):=by unfold Kw;rw[u]
theorem Ay{el:TypeId}{n:Nat}(u:P.underlying t=some (.slice el))(hs:De P el=some n){a:Addr}{len cap:Nat}{kk:IntKind}{i:Nat}(hi:i<len):lD P t (.slice (some a) len cap) (.int kk i)=some (.pointer (some ⟨a.block,a.off+i*n,none⟩)):=by
 unfold lD;simp only[u,CS,hs];simp only[cond_eq_ite];rw[aad (by simp only[dy,decide_eq_true_eq];omega)];simp
theorem wrap64{x:Int}(h1:-9223372036854775808≤x)(h2:x≤9223372036854775807):IntKind.i64.wrap x=x:=by
 unfold IntKind.wrap;simp[IntKind.bits,IntKind.signed];omega
end
theorem jw{α:Type}(a:α)(l:List α):(a::l)[0]?=some a:=rfl
theorem vT{α:Type}(a:α)(l:List α)(i:Nat):(a::l)[i+1]?=l[i]?:=rfl
theorem aK{α:Type}(a b:α):(some a).getD b=a:=rfl
end Go.Ce
namespace Go.Ce
open Go Go.Proofs Go.Proofs.Tryz
structure Vq where
 name:ByteArray
 kind:Int
structure AV where
 name:ByteArray
 BR:ByteArray
 fields:List Vq
 elem:Int
structure Bq where
 type:ByteArray
 to:ByteArray
 map:List Int
structure BC where
 type:ByteArray
 AL:List Int
def Eh(W:CW)(b o:Nat)(x:Int):Prop:=W.cell b o=some (.int .i64 x)∧-9223372036854775808≤x∧x≤9223372036854775807
structure RZ(W:CW)(b o:Nat)(x:Vq):Prop where
 name:W.cell b o=some (.string x.name)
 kind:W.cell b (o+1)=some (.int .u8 x.kind)
 lo:0≤x.kind
 hi:x.kind<256
structure JZ(W:CW)(b o:Nat)(x:AV):Prop where
 name:W.cell b o=some (.string x.name)
 BR:W.cell b (o+1)=some (.string x.BR)
 fields:∃v,W.cell b (o+2)=some v∧At 2 (RZ W) v x.fields
 elem:W.cell b (o+3)=some (.int .u8 x.elem)
 binds:∃a l k,W.cell b (o+4)=some (.slice a l k)
 lo:0≤x.elem
 hi:x.elem<256
def N1(W:CW)(el:TypeId)(v:Value):Prop:=∀a l c,v=.slice a l c→ME W a el=true∧l≤c
theorem N1.of{W W':CW}{el:TypeId}{v:Value}(h:N1 W el v)(ho:∀b o,W.obj b=some o→(∃c n z e,o=.cells c n z e)∨(∃f n e,o=.fixed f n e)→W'.obj b=some o):N1 W' el v:=by
 intro a l c hv;obtain⟨h1,h2⟩:=h a l c hv;refine⟨?_,h2⟩
 cases a with
 |none=>rfl
 | some a=>
  unfold ME at h1 ⊢;simp only[aaQ]at h1 ⊢
  rcases h1 with h1|h1
  ·exact .inl h1
  ·right
   cases hb:W.obj a.block with
   |none=>rw[hb]at h1;cases h1
   |some o=>
    rw[hb]at h1
    cases o with
    |cells c n z e=>rw[ho _ _ hb (.inl ⟨_,_,_,_,rfl⟩)];exact h1
    |fixed f n e=>rw[ho _ _ hb (.inr ⟨_,_,_,rfl⟩)];exact h1
    |_=>cases h1
theorem N1.kp{W W':CW}{el:TypeId}{v:Value}(h:N1 W el v)(ht:Ag W)(k:Kp W W'):N1 W' el v:=h.of λb o hb _=>by rw[k.obj b (ht _ _ hb)];exact hb
structure XV(W:CW)(b o:Nat)(x:Bq):Prop where
 type:W.cell b o=some (.string x.type)
 to:W.cell b (o+1)=some (.string x.to)
 map:∃v,W.cell b (o+2)=some v∧At 1 (Eh W) v x.map∧N1 W 3 v
structure JC(W:CW)(b o:Nat)(x:BC):Prop where
 type:W.cell b o=some (.string x.type)
 AL:∃v,W.cell b (o+1)=some v∧At 1 (Eh W) v x.AL
theorem u9:prog.underlying 9=some .string:=by kernel_rfl
theorem Y1:prog.underlying 22=some (.slice 48):=by kernel_rfl
theorem u23:prog.underlying 23=some (.slice 58):=by kernel_rfl
theorem VT:prog.underlying 24=some (.slice 56):=by kernel_rfl
theorem VN:prog.underlying 29=some (.slice 5):=by kernel_rfl
theorem KB:prog.underlying 40=some (.slice 3):=by kernel_rfl
theorem u45:prog.underlying 45=some (.slice 72):=by kernel_rfl
theorem gX:prog.underlying 51=some (.slice 9):=by kernel_rfl
theorem s3:De prog 3=some 1:=by kernel_rfl
theorem s5:De prog 5=some 1:=by kernel_rfl
theorem s9:De prog 9=some 1:=by kernel_rfl
theorem jx:De prog 48=some 5:=by kernel_rfl
theorem LD:De prog 56=some 2:=by kernel_rfl
theorem jy:De prog 58=some 3:=by kernel_rfl
theorem s72:De prog 72=some 2:=by kernel_rfl
theorem a3:agg? prog 3=some false:=by kernel_rfl
theorem a5:agg? prog 5=some false:=by kernel_rfl
theorem a9:agg? prog 9=some false:=by kernel_rfl
theorem a29:agg? prog 29=some false:=by kernel_rfl
theorem Uv:agg? prog 40=some false:=by kernel_rfl
theorem a45:agg? prog 45=some false:=by kernel_rfl
theorem a48:agg? prog 48=some true:=by kernel_rfl
theorem gY:agg? prog 56=some true:=by kernel_rfl
theorem a58:agg? prog 58=some true:=by kernel_rfl
theorem a72:agg? prog 72=some true:=by kernel_rfl
theorem Md(a:Addr):RL prog 48 (.pointer (some a)) 0=some (.pointer (some ⟨a.block,a.off,none⟩)):=by kernel_rfl
theorem dM(a:Addr):RL prog 48 (.pointer (some a)) 1=some (.pointer (some ⟨a.block,a.off+1,none⟩)):=by kernel_rfl
theorem Rq(a:Addr):RL prog 48 (.pointer (some a)) 2=some (.pointer (some ⟨a.block,a.off+2,none⟩)):=by kernel_rfl
theorem dN(a:Addr):RL prog 48 (.pointer (some a)) 3=some (.pointer (some ⟨a.block,a.off+3,none⟩)):=by kernel_rfl
theorem dO(a:Addr):RL prog 72 (.pointer (some a)) 0=some (.pointer (some ⟨a.block,a.off,none⟩)):=by kernel_rfl
theorem oP(a:Addr):RL prog 72 (.pointer (some a)) 1=some (.pointer (some ⟨a.block,a.off+1,none⟩)):=by kernel_rfl
theorem G6(a:Addr):RL prog 56 (.pointer (some a)) 0=some (.pointer (some ⟨a.block,a.off,none⟩)):=by kernel_rfl
theorem FJ(a:Addr):RL prog 56 (.pointer (some a)) 1=some (.pointer (some ⟨a.block,a.off+1,none⟩)):=by kernel_rfl
theorem Rr(a:Addr):RL prog 58 (.pointer (some a)) 0=some (.pointer (some ⟨a.block,a.off,none⟩)):=by kernel_rfl
theorem Oa(a:Addr):RL prog 58 (.pointer (some a)) 1=some (.pointer (some ⟨a.block,a.off+1,none⟩)):=by kernel_rfl
theorem Rs(a:Addr):RL prog 58 (.pointer (some a)) 2=some (.pointer (some ⟨a.block,a.off+2,none⟩)):=by kernel_rfl
theorem gZ(n a b:Int)(W:CW):AX prog Bf 103 [.int .i64 n,.int .i64 a,.int .i64 b] W (H_ (.bool (decide (a≤n)&&decide (n≤b))) W):=by
 refine ACX ?_;rw[ACW];simp only[CC,Dv,AA];refine AH (λh=>?_) (λh=>?_)<;>simp only[dF,BI,lP,AG]<;>refine⟨?_,rfl⟩<;>simp at h<;>simp[h]
 omega
theorem aL(n:Int)(W:CW):AX prog Bf 100 [.int .u8 n] W (H_ (.bool (n==1||n==2)) W):=by
 refine ACZ ?_;rw[ACY];simp only[BJ,AA];refine AH (λh=>?_) (λh=>?_)<;>simp only[dG,BI,lQ,AG]<;>refine⟨?_,rfl⟩<;>simp[h]
theorem dP(n:Int)(W:CW):AX prog Bf 124 [.int .u8 n] W (H_ (.bool (decide (n<33)||decide (n>126))) W):=by
 refine ACh ?_;rw[ACg];simp only[Af,Bt,AA];refine AH (λh=>?_) (λh=>?_)<;>simp only[dI,BI,lS,AG]<;>refine⟨?_,rfl⟩<;>simp[h]
end Go.Ce
namespace Go.Ce
def qp(T:Tr Value)(t:Nat):Value:=match T.get t with|some v=>v|none=>undef
theorem dQ(a:AI)(t:Nat):a.at t=qp a.t t:=by
 unfold AI.at qp
 cases a.t.get t<;>rfl
def EE(W:CW)(l:Nat)(st:LoopState)(Dr:Option Code)(fn:FuncId)(e:Env)(nt:Nat)(ps:Array Tmp)(A B:Code)(d:Nat):Prop :=
 ∃T:Tr Value,W.obj l=some (.loop st Dr fn T nt ps A B d)∧∀t,qp T t=e t
theorem EE.congr{W W':CW}{l:Nat}{st:LoopState}{Dr:Option Code}{fn:FuncId}{e:Env}{nt:Nat}{ps:Array Tmp}{A B:Code}{d:Nat}(h:EE W l st Dr fn e nt ps A B d)(ho:W'.obj l=W.obj l):EE W' l st Dr fn e nt ps A B d:=by
 obtain⟨T,h1,h2⟩:=h;exact⟨T,ho.trans h1,h2⟩
def Env.Fi(e:Env):List (Tmp×Value)→Env
 |[]=>e
 |p::ps=>Env.Fi (λt=>if t=p.1 then p.2 else e t) ps
theorem oQ:∀(ps:List (Tmp×Value)) (T:Tr Value) (e:Env),(∀t,qp T t=e t)→
  ∀t,qp (ps.foldl (λt (p:Tmp×Value)=>t.set p.1 p.2) T) t=e.Fi ps t
 |[],T,e,h=>h
 |p::ps,T,e,h=>by
  intro t;refine oQ ps (T.set p.1 p.2) _ (λt=>?_) t;unfold qp;rw[Tr.Bc]
  by_cases ht:t=p.1
  ·rw[aad ht,aad ht]
  ·rw[aac ht,aac ht];exact h t
def AIv(l:Nat)(Q:Ending→CW→Prop):AB:=λx _ ds W=>∃st Dr fn e nt ps A B d,EE W l st Dr fn e nt ps A B d∧match x with
 | .normal=>∀W',Dn l W W'→EE W' l .ready none fn e nt ps A B d→Q (.returned (.bool true)) W'
 | .ret=>∀W',Dn l W W'→EE W' l .done (some .ret) fn e nt ps A B d→Q (.returned (.bool false)) W'
 | .exit id=>∀W',Dn l W W'→EE W' l .done (some (.exit id)) fn e nt ps A B d→Q (.returned (.bool false)) W'
 | .panic ch=>ds=[]∧Q (.panicked ch) W
 |_=>False
section
variable {P:Program}{L:List FuncId}
theorem oR{l:Nat}{args:List Value}{W:CW}{Q:Ending→CW→Prop}{Dr:Option Code}{fn:FuncId}{e:Env}{nt:Nat}{ps:Array Tmp}{A B:Code}{d:Nat}(hl:EE W l .ready Dr fn e nt ps A B d)(hn:args.length=ps.size)
  (h:D8 P L (some l) fn nt A (e.Fi (ps.toList.zip args)) [] W λx e1 ds W1=>x=.normal∧∃ga e2 nt1 ps1 A1 B1 d1,EE W1 l .ready ga fn e2 nt1 ps1 A1 B1 d1∧∀W2,Dn l W1 W2→EE W2 l .busy ga fn e2 nt1 ps1 A1 B1 d1→D8 P L (some l) fn nt B e1 ds W2 (AIv l Q)):Js P L l args W Q:=by
 obtain⟨T,ho,hT⟩:=hl
 let a0:AI:=⟨(ps.toList.zip args).foldl (λt (p:Tmp×Value)=>t.set p.1 p.2) T,nt,[]⟩
 have hae:AE a0 (e.Fi (ps.toList.zip args)) []:=⟨λt=>by rw[dQ];exact oQ _ T e hT t,rfl⟩
 obtain⟨n,⟨x1,a1,W1⟩,h1,e1,h2,h3,h4⟩:=F_ h a0 hae rfl;simp only at h2 h3 h4;obtain⟨rfl,ga,e2,nt1,ps1,A1,B1,d1,fz,h4⟩:=h4;obtain⟨T1,ho1,hT1⟩:=fz;obtain⟨m,⟨x2,a2,W2⟩,h5,e3,h6,h7,h8⟩:=F_ (h4 _ (Dn.of W1 l (.loop .busy ga fn T1 nt1 ps1 A1 B1 d1)) ⟨T1,by rw[G4,aad rfl],hT1⟩) a1 h2 h3;simp only at h8;obtain⟨st,ALC,fn2,e4,nt2,ps2,A2,B2,d2,PG,h8⟩:=h8;obtain⟨T2,ho2,hT2⟩:=PG;have up1:(DY P L (max n m)).code (some l) fn A a0 W=some [(.normal,a1,W1)]:=JV (aa9 n m) h1;have up2:(DY P L (max n m)).code (some l) fn B a1 (W1.A6 l (.loop .busy ga fn T1 nt1 ps1 A1 B1 d1))=some [(x2,a2,W2)]:=JV (aaZ n m) h5
 have key:∀{o:Ending×CW},(match x2 with
   | .normal=>WT l none W2
   | .ret=>WT l (some .ret) W2
   | .exit id=>WT l (some (.exit id)) W2
   | .panic ch=>cond a2.defers.isEmpty (some [(.panicked ch,W2)]) none
   |_=>none)=some [o]→(DY P L (max n m+1)).round l args W=some [o]:=by
  intro o hx;rw[Ij];simp only[CV,ho];have hq:Nat.beq args.length ps.size=true:=by rw[hn];exact abE _
  rw[hq];simp only[cond_true];rw[show(DY P L (max n m)).code (some l) fn A ⟨(ps.toList.zip args).foldl (λt (p:Tmp×Value)=>t.set p.1 p.2) T,nt,[]⟩ W=some [(.normal,a1,W1)]from up1];refine Bo _ _ ?_;simp only[ho1];rw[up2];refine Bo _ _ ?_;rw[←hx]
  cases x2<;>rfl
 cases x2 with
 |normal=>exact⟨_,(.returned (.bool true),W2.A6 l (.loop .ready none fn2 T2 nt2 ps2 A2 B2 d2)),key (by simp only[WT,ho2];rfl),h8 _ (Dn.of _ _ _) ⟨T2,by rw[G4,aad rfl],hT2⟩⟩
 |ret=>exact⟨_,(.returned (.bool false),W2.A6 l (.loop .done (some .ret) fn2 T2 nt2 ps2 A2 B2 d2)),key (by simp only[WT,ho2];rfl),h8 _ (Dn.of _ _ _) ⟨T2,by rw[G4,aad rfl],hT2⟩⟩
 |exit id=>exact⟨_,(.returned (.bool false),W2.A6 l (.loop .done (some (.exit id)) fn2 T2 nt2 ps2 A2 B2 d2)),key (by simp only[WT,ho2];rfl),h8 _ (Dn.of _ _ _) ⟨T2,by rw[G4,aad rfl],hT2⟩⟩
 |panic ch=>
  obtain⟨hd,hq⟩:=h8;exact⟨_,(.panicked ch,W2),key (by simp only[hd];rfl),hq⟩
 |goto id=>exact h8.elim
 |outgrown=>exact h8.elim
def lT(l:Nat)(e:Env)(ds:List Deferred)(K:AB):Ending→CW→Prop:=λen W=>(∃v,en=.returned v)∧∃st Dr fn e0 nt ps A B d,EE W l st Dr fn e0 nt ps A B d∧st≠.busy∧∀W',Dn l W W'→match Dr with
 |none=>K .normal e ds W'
 |some .ret=>K .ret e ds W'
 |some (.exit id)=>K (.exit id) e ds W'
 |_=>False
def mark(r:Nat):Deferred:={target:=.collected r,args:=#[]}
def Vr(Dr:Option Code)(a:AI)(W:CW):PV:=match Dr with
 |none=>some [(.normal,a,W)]
 |some .ret=>some [(.ret,a,W)]
 |some (.exit id)=>some [(.exit id,a,W)]
 |_=>none
theorem lU{ro:Option Nat}{fn:FuncId}{nt:Nat}{f:Operand}{ps:Array Tmp}{A B:Code}{e:Env}{ds:List Deferred}{W W1:CW}{K:AB}{dl:Nat}{mk:List Deferred}{g:FuncId}{args:List Value}(har:WS ro W=some (dl,mk,W1))
  (hf:JI (e.ev f) [.func (.yield W1.sz) #[] #[]]=some (.enter g args))
  (h:∀W2,Dn W1.sz (W1.new .deferred) W2→EE W2 W1.sz .ready none fn e nt ps A B dl→AX P L g args W2 (lT W1.sz e (mk++ds) K)):Gi P L ro fn nt (.rangeFunc f ps A B) e ds W K:=by
 intro a ha hn;have h0:W1.new (.loop .ready none fn a.t a.nt ps A B dl)=(W1.new .deferred).A6 W1.sz (.loop .ready none fn a.t a.nt ps A B dl)∨True:=.inr trivial;have hu:Dn W1.sz (W1.new .deferred) (W1.new (.loop .ready none fn a.t a.nt ps A B dl)):=⟨rfl,λi hi=>by rw[A7,A7,aac hi,aac hi]⟩
 have hl:EE (W1.new (.loop .ready none fn a.t a.nt ps A B dl)) W1.sz .ready none fn e nt ps A B dl:=⟨a.t,by rw[A7,aad rfl,hn],λt=>(dQ a t).symm.trans (ha.1 t)⟩
 obtain⟨n,⟨en,W3⟩,h1,⟨v,hv⟩,st,Dr,Vj,e0,gb,gd,A',B',d',⟨T,ho,hT⟩,D1,hk⟩:=h _ hu hl;simp only at hv;subst hv;have ALL:AE ({a with defers:=mk++a.defers}:AI) e (mk++ds):=⟨ha.1,by rw[ha.2]⟩
 have key:∀{o:Exit×AI×CW},Vr Dr {a with defers:=mk++a.defers} (W3.A6 W1.sz (.loop .exhausted Dr Vj T gb gd A' B' d'))=some [o]→(DY P L (n+1)).code ro fn (.rangeFunc f ps A B) a W=some [o]:=by
  intro o hx;rw[Ij];show Bs P (DY P L n) ro fn (.rangeFunc f ps A B) a W=some [o];unfold Bs;simp only[har,ha.eval,hf];rw[h1];refine Bo _ _ ?_;simp only[ho];rw[←hx]
  cases st<;>first|exact(D1 rfl).elim|(cases Dr with|none=>rfl|some c=>cases c<;>rfl)
 have hk:=hk _ (Dn.of W3 W1.sz (.loop .exhausted Dr Vj T gb gd A' B' d'))
 have fin:∀x:Exit,Vr Dr {a with defers:=mk++a.defers} (W3.A6 W1.sz (.loop .exhausted Dr Vj T gb gd A' B' d'))=some [(x,({a with defers:=mk++a.defers}:AI),W3.A6 W1.sz (.loop .exhausted Dr Vj T gb gd A' B' d'))]→K x e (mk++ds) (W3.A6 W1.sz (.loop .exhausted Dr Vj T gb gd A' B' d'))→uz P L ro fn (.rangeFunc f ps A B) a W λx a' W'=>∃e',AE a' e' a'.defers∧a'.nt=nt∧K x e' a'.defers W':=by
  intro x hx hK
  refine⟨n+1,_,key hx,e,?_,hn,?_⟩
  ·exact⟨ha.1,rfl⟩
  ·show K x e (mk++a.defers) _;rw[ha.2];exact hK
 cases Dr with
 |none=>exact fin .normal rfl hk
 |some c=>
  cases c<;>first|exact hk.elim|exact fin _ rfl hk
def oS(l:Nat)(e:Env)(ds:List Deferred)(K:AB):Ending→CW→Prop
 | .panicked ch,W=>K (.panic ch) e ds W
 |en,W=>lT l e ds K en W
theorem gf{ro:Option Nat}{fn:FuncId}{nt:Nat}{f:Operand}{ps:Array Tmp}{A B:Code}{e:Env}{ds:List Deferred}{W W1:CW}{K:AB}{dl:Nat}{mk:List Deferred}{g:FuncId}{args:List Value}(har:WS ro W=some (dl,mk,W1))
  (hf:JI (e.ev f) [.func (.yield W1.sz) #[] #[]]=some (.enter g args))
  (h:∀W2,Dn W1.sz (W1.new .deferred) W2→EE W2 W1.sz .ready none fn e nt ps A B dl→AX P L g args W2 (oS W1.sz e (mk++ds) K)):Gi P L ro fn nt (.rangeFunc f ps A B) e ds W K:=by
 ·intro a ha hn;have hu:Dn W1.sz (W1.new .deferred) (W1.new (.loop .ready none fn a.t a.nt ps A B dl)):=⟨rfl,λi hi=>by rw[A7,A7,aac hi,aac hi]⟩
  have hl:EE (W1.new (.loop .ready none fn a.t a.nt ps A B dl)) W1.sz .ready none fn e nt ps A B dl:=⟨a.t,by rw[A7,aad rfl,hn],λt=>(dQ a t).symm.trans (ha.1 t)⟩
  obtain⟨n,⟨en,W3⟩,h1,vU⟩:=h _ hu hl
  cases en with
  |panicked ch=>
   refine⟨n+1,(.panic ch,{a with defers:=mk++a.defers},W3),?_,e,⟨ha.1,rfl⟩,hn,?_⟩
   ·rw[Ij];show Bs P (DY P L n) ro fn (.rangeFunc f ps A B) a W=_;unfold Bs;simp only[har,ha.eval,hf];rw[h1];exact Bo _ _ rfl
   ·show K (.panic ch) e (mk++a.defers) W3;rw[ha.2];exact vU
  | returned v=>
   obtain⟨_,st,Dr,Vj,e0,gb,gd,A',B',d',⟨T,ho,hT⟩,D1,hk⟩:=vU;have hk:=hk _ (Dn.of W3 W1.sz (.loop .exhausted Dr Vj T gb gd A' B' d'))
   have key:∀{o:Exit×AI×CW},Vr Dr {a with defers:=mk++a.defers} (W3.A6 W1.sz (.loop .exhausted Dr Vj T gb gd A' B' d'))=some [o]→(DY P L (n+1)).code ro fn (.rangeFunc f ps A B) a W=some [o]:=by
    intro o hx;rw[Ij];show Bs P (DY P L n) ro fn (.rangeFunc f ps A B) a W=some [o];unfold Bs;simp only[har,ha.eval,hf];rw[h1];refine Bo _ _ ?_;simp only[ho];rw[←hx]
    cases st<;>first|exact(D1 rfl).elim|(cases Dr with|none=>rfl|some c=>cases c<;>rfl)
   have fin:∀x:Exit,Vr Dr {a with defers:=mk++a.defers} (W3.A6 W1.sz (.loop .exhausted Dr Vj T gb gd A' B' d'))=some [(x,({a with defers:=mk++a.defers}:AI),W3.A6 W1.sz (.loop .exhausted Dr Vj T gb gd A' B' d'))]→K x e (mk++ds) (W3.A6 W1.sz (.loop .exhausted Dr Vj T gb gd A' B' d'))→uz P L ro fn (.rangeFunc f ps A B) a W λx a' W'=>∃e',AE a' e' a'.defers∧a'.nt=nt∧K x e' a'.defers W':=by
    intro x hx hK;refine⟨n+1,_,key hx,e,⟨ha.1,rfl⟩,hn,?_⟩;show K x e (mk++a.defers) _;rw[ha.2];exact hK
   cases Dr with
   |none=>exact fin .normal rfl hk
   |some c=>cases c<;>first|exact hk.elim|exact fin _ rfl hk
  |outgrown=>obtain⟨⟨v,hv⟩,_⟩:=vU;cases hv
theorem vV{fn:FuncId}{nt:Nat}{f:Operand}{ps:Array Tmp}{A B:Code}{e:Env}{ds:List Deferred}{W:CW}{K:AB}{g:FuncId}{args:List Value}(ht:Ag W)
  (hf:JI (e.ev f) [.func (.yield (W.sz+1)) #[] #[]]=some (.enter g args))
  (h:∀W2,Kp W W2→Ag W2→W2.sz=W.sz+2→W2.obj W.sz=some .deferred→EE W2 (W.sz+1) .ready none fn e nt ps A B W.sz→AX P L g args W2 (oS (W.sz+1) e (mark W.sz::ds) K)):Gi P L none fn nt (.rangeFunc f ps A B) e ds W K:=by
 refine gf (dl:=W.sz) (mk:=[mark W.sz]) (W1:=W.new .deferred) rfl hf λW2 hu hl=>?_;have k1:Kp W (W.new .deferred):=.new _;have k2:Kp W ((W.new .deferred).new .deferred):=k1.trans (.new _);have t2:Ag ((W.new .deferred).new .deferred):=(ht.new _).new _;refine h W2 (k2.A6 (by rw[HB];omega) hu) (t2.A6 (by simp only[HB];omega) hu) (by rw[hu.sz];rfl) ?_ hl;rw[hu.obj _ (by rw[HB];omega),A7,aac (by rw[HB];omega),A7,aad rfl]
theorem zy{fn:FuncId}{nt:Nat}{f:Operand}{ps:Array Tmp}{A B:Code}{e:Env}{ds:List Deferred}{W:CW}{K:AB}{g:FuncId}{args:List Value}(ht:Ag W)
  (hf:JI (e.ev f) [.func (.yield (W.sz+1)) #[] #[]]=some (.enter g args))
  (h:∀W2,Kp W W2→Ag W2→W2.sz=W.sz+2→W2.obj W.sz=some .deferred→EE W2 (W.sz+1) .ready none fn e nt ps A B W.sz→AX P L g args W2 (lT (W.sz+1) e (mark W.sz::ds) K)):Gi P L none fn nt (.rangeFunc f ps A B) e ds W K:=by
 refine lU (dl:=W.sz) (mk:=[mark W.sz]) (W1:=W.new .deferred) rfl hf λW2 hu hl=>?_;have k1:Kp W (W.new .deferred):=.new _;have k2:Kp W ((W.new .deferred).new .deferred):=k1.trans (.new _);have t2:Ag ((W.new .deferred).new .deferred):=(ht.new _).new _;refine h W2 (k2.A6 (by rw[HB];omega) hu) (t2.A6 (by simp only[HB];omega) hu) (by rw[hu.sz];rfl) ?_ hl;rw[hu.obj _ (by rw[HB];omega),A7,aac (by rw[HB];omega),A7,aad rfl]
end
section
variable {κ:Type} [DecidableEq κ]
def look(m:List (κ×Value))(s:κ)(i:Nat):Option (Nat×Value):=match m with
 |[]=>none
 |p::m=>if s=p.1 then some (i,p.2)else look m s (i+1)
def Me(m:List (κ×Value))(s:κ):Option Value:=match m with
 |[]=>none
 |p::m=>if s=p.1 then some p.2 else Me m s
def dR(m:List (κ×Value))(s:κ)(x:Value):List (κ×Value):=match m with
 |[]=>[(s,x)]
 |p::m=>if s=p.1 then(s,x)::m else p::dR m s x
theorem Jn:∀(m:List (κ×Value)) (s:κ) (x:Value) (u:κ),Me (dR m s x) u=if u=s then some x else Me m u
 |[],s,x,u=>by simp[dR,Me]
 | p::m,s,x,u=>by
  simp only[dR]
  by_cases h:s=p.1
  ·rw[aad h];simp only[Me]
   by_cases hu:u=s
   ·rw[aad hu,aad hu]
   ·rw[aac hu,aac hu,aac (by rw[←h];exact hu)]
  ·rw[aac h];simp only[Me]
   by_cases hu:u=p.1
   ·rw[aad hu,aad hu,aac (λe=>h (by rw[←e];exact hu))]
   ·rw[aac hu,aac hu,Jn m s x u]
theorem gg:∀(m:List (κ×Value)) (s:κ) (i:Nat),(look m s i).map (·.2)=Me m s
 |[],s,i=>rfl
 |p::m,s,i=>by
  simp only[look,Me]
  by_cases h:s=p.1
  ·rw[aad h,aad h];rfl
  ·rw[aac h,aac h];exact gg m s (i+1)
def Ge(enc:κ→Value)(W:CW)(r:Nat)(m:List (κ×Value)):Prop:=∃es Ez,W.obj r=some (.map es Ez)∧es.map (λe=>(e.key,e.val))=m.map λp=>(enc p.1,p.2)
theorem Ge.congr{enc:κ→Value}{W W':CW}{r:Nat}{m:List (κ×Value)}(h:Ge enc W r m)(ho:W'.obj r=W.obj r):Ge enc W' r m:=by
 obtain⟨es,Ez,h1,h2⟩:=h;exact⟨es,Ez,ho.trans h1,h2⟩
theorem Ge.lt{enc:κ→Value}{W:CW}(ht:Ag W){r:Nat}{m:List (κ×Value)}(h:Ge enc W r m):r<W.sz:=by
 obtain⟨es,Ez,h1,h2⟩:=h;exact ht _ _ h1
theorem Ge.kp{enc:κ→Value}{W W':CW}{r:Nat}{m:List (κ×Value)}(h:Ge enc W r m)(ht:Ag W)(k:Kp W W'):Ge enc W' r m:=h.congr (k.obj r (h.lt ht))
variable {enc:κ→Value}{d:TypeDesc}
theorem XW(hk:∀a b,O1 d (enc a) (enc b)=some (decide (a=b)))(s:κ):∀(es:List MapEntry) (m:List (κ×Value)) (i:Nat),es.map (λe=>(e.key,e.val))=m.map (λp=>(enc p.1,p.2))→LR d (enc s) es i=some (look m s i)
 |[],[],i,_=>rfl
 |e::es,p::m,i,h=>by
  simp only[abr,abK,aar]at h;obtain⟨⟨h1,h2⟩,h3⟩:=h;simp only[LR,look];rw[h1,hk]
  by_cases hs:s=p.1
  ·rw[aad hs,decide_eq_true hs];simp only[h2]
  ·rw[aac hs,decide_eq_false hs];exact XW hk s es m (i+1) h3
 |[],_::_,_,h=>by cases h
 |_::_,[],_,h=>by cases h
theorem oT(hk:∀a b,O1 d (enc a) (enc b)=some (decide (a=b)))(s:κ)(x:Value):∀(es:List MapEntry) (m:List (κ×Value)) (i j:Nat) (y:Value),es.map (λe=>(e.key,e.val))=m.map (λp=>(enc p.1,p.2))→look m s i=some (j,y)→
  (KI x (enc s) (j-i) es).map (λe=>(e.key,e.val))=(dR m s x).map (λp=>(enc p.1,p.2))∧i≤j
 |[],[],i,j,y,_,hl=>by cases hl
 | e::es,p::m,i,j,y,h,hl=>by
  simp only[abr,abK,aar]at h;obtain⟨⟨h1,h2⟩,h3⟩:=h;simp only[look]at hl;simp only[dR]
  by_cases hs:s=p.1
  ·rw[aad hs]at hl;rw[aad hs]
   cases hl
   refine⟨?_,aaf _⟩;rw[abB];simp only[KI,abr,h3]
  ·rw[aac hs]at hl;rw[aac hs];obtain⟨h4,h5⟩:=oT hk s x es m (i+1) j y h3 hl;refine⟨?_,by omega⟩;rw[show j-i=(j-(i+1))+1 by omega];simp only[KI,abr,h4,h1,h2]
 |[],_::_,_,_,_,h,_=>by cases h
 |_::_,[],_,_,_,h,_=>by cases h
theorem PJ(s:κ)(x:Value):∀(m:List (κ×Value)) (i:Nat),look m s i=none→dR m s x=m++[(s,x)]
 |[],i,_=>rfl
 |p::m,i,h=>by
  simp only[look]at h;simp only[dR]
  by_cases hs:s=p.1
  ·rw[aad hs]at h;cases h
  ·rw[aac hs]at h ⊢;rw[PJ s x m _ h];rfl
variable {P:Program}{t kt el:TypeId}{z:Value}
theorem Mf(u:P.underlying t=some (.map kt el))(uk:P.underlying kt=some d)(hd:Jh d=true)(hz:Hr P el=some z)(hk:∀a b,O1 d (enc a) (enc b)=some (decide (a=b))){W:CW}{r:Nat}{m:List (κ×Value)}(h:Ge enc W r m)(s:κ)(ok:Bool) :
  Sq P t (.map (some r)) (enc s) ok W=some (match Me m s with
   |some x=>cond ok (.tuple #[x,.bool true]) x
   |none=>cond ok (.tuple #[z,.bool false]) z):=by
 obtain⟨es,Ez,h1,h2⟩:=h;unfold Sq O2;simp only[u,uk,hd,hz,h1,CS,cond_true];rw[XW hk s es m 0 h2];simp only;have:=gg m s 0
 cases hl:look m s 0 with
 |none=>rw[hl]at this;rw[←this];rfl
 |some p=>rw[hl]at this;obtain⟨i,x⟩:=p;rw[←this];rfl
theorem gh(u:P.underlying t=some (.map kt el))(uk:P.underlying kt=some d)(hd:Jh d=true)(hk:∀a b,O1 d (enc a) (enc b)=some (decide (a=b))){W:CW}{r:Nat}{m:List (κ×Value)}(h:Ge enc W r m){s:κ}{x:Value}{K:CW→Prop}
  (hK:∀W1,Dn r W W1→Ge enc W1 r (dR m s x)→K W1):wV (jt P t (.map (some r)) (enc s) x W) K:=by
 obtain⟨es,Ez,h1,h2⟩:=h;have hf:=XW hk s es m 0 h2
 cases hl:look m s 0 with
 |none=>
  rw[hl]at hf
  refine Ad (v:=W.A6 r (.map (es++[{key:=enc s,val:=x,born:=Ez}]) (Ez+1))) ?_ (hK _ (Dn.of _ _ _) ⟨_,_,by rw[G4,aad rfl],?_⟩)
  ·unfold jt O2;simp only[u,uk,hd,h1,CS,cond_true,hf]
  ·rw[PJ s x m 0 hl,aa5,aa5,h2];rfl
 |some p=>
  obtain⟨j,y⟩:=p;rw[hl]at hf;obtain⟨h3,_⟩:=oT hk s x es m 0 j y h2 hl;rw[acQ]at h3;refine Ad (v:=W.A6 r (.map (KI x (enc s) j es) Ez)) ?_ (hK _ (Dn.of _ _ _) ⟨_,_,by rw[G4,aad rfl],h3⟩);unfold jt O2;simp only[u,uk,hd,h1,CS,cond_true,hf]
theorem XX{W:CW}{K:Value→CW→Prop}(ht:Ag W)(hk:∀W1,Kp W W1→Ag W1→W1.sz=W.sz+1→Ge enc W1 W.sz []→K (.map (some W.sz)) W1):Iw (mkm W) K :=
 hk _ (.new _) (ht.new _) rfl ⟨[],0,by rw[A7,aad rfl],rfl⟩
end
theorem G7(a b:ByteArray):O1 .string (.string a) (.string b)=some (decide (a=b)):=by
 simp only[O1,RY]
section
variable {P:Program}
theorem Ob{W:CW}{a:Addr}{cs:List Value}(h:Cells W a.block a.off cs):FD (some a) cs.length W=some cs:=by
 unfold FD;simp only[cond_eq_ite]
 cases cs with
 |nil=>rfl
 | cons c cs=>
  rw[aac (by simp)];have Uj:∃v,(c::cs)[cs.length]?=some v:=⟨(c::cs)[cs.length]'(by simp),ck _⟩
  obtain⟨v,hv⟩:=Uj;have OS:=h _ v hv;unfold CW.cell at OS
  split at OS
  ·rename_i t n z e ho
   split at OS
   ·rename_i Ao;rw[ho];simp only[aap];rw[aad (aan (by omega))]
    have:=HZ (c:=t) (z:=z) (vs:=c::cs) (k:=a.off) λj w hj=>by
     have:=h j w hj;unfold CW.cell at this;rw[ho]at this;simp only at this
     split at this
     ·exact aa1 this
     ·cases this
    rw[←this];simp
   ·cases OS
  ·rename_i f n e ho
   split at OS
   ·rename_i Ao;rw[ho];simp only[aap];rw[aad (aan (by omega))]
    have:=P' (f:=f) (vs:=c::cs) (k:=a.off) λj w hj=>by
     have:=h j w hj;unfold CW.cell at this;rw[ho]at this;simp only at this
     split at this
     ·exact aa1 this
     ·cases this
    rw[←this];simp
   ·cases OS
  ·cases OS
inductive C'(W:CW)(el:TypeId)(n:Nat):Value→List Value→Prop where
 |nil:C' W el n (.slice none 0 0) []
 |some {b len:Nat} {cs:List Value} (h:Aq W b el cs) (hl:cs.length=len*n):C' W el n (.slice (some ⟨b,0,none⟩) len len) cs
structure AIw(v:Value)(W W':CW):Prop where
 sz:W'.sz=W.sz+1
 top:Ag W→Ag W'
 obj:∀i,i<W.sz→(∀b l c,v=.slice (some b) l c→i≠b.block)→W'.obj i=W.obj i
theorem oU{t u el:TypeId}{ts:List TypeId}{n bytes:Nat}{z:Value}(ut:P.underlying t=some (.slice el))(hu:JH P u=true)(hs:De P el=some n)(hz:Hr P el=some z)(yu:z.cells.size=n)(hn:0<n)(yv:(P.info? el).map (·.bytes)=some bytes)(hb:bytes≤1024)
  {W:CW} (ht:Ag W) {v x:Value} {cs news:List Value} {m:Nat} (hv:C' W el n v cs) (hx:j6 x=some m) (hm:0<m) (VO:Ia x m n W=some news) (h1:news.all BG=true) (LO:news.length=m*n) (To:cs.length+m≤1000000) {K:Value→CW→Prop}
  (hk:∀W1 len,AIw v W W1→(cs++news).length=len*n→Aq W1 W.sz el (cs++news)→K (.slice (some ⟨W.sz,0,none⟩) len len) W1):Iw (app P (t::u::ts) v x W) K:=by
 have lV:Nat.ble ((P.info? el).map (·.bytes)|>.getD 2000) 1024=true:=by rw[yv];exact aan hb
 unfold app;simp only[hu,cond_true]
 cases hv with
 | nil=>
  have hc:HN P t (.slice none 0 0) x W=some (.slice (some ⟨W.sz,0,none⟩) (0+m) (0+m),W.new (.cells (Tr.nil.AS 0 news) ((0+m)*n) #[] el)):=by
   unfold HN;simp only[ut,hx,CS,hs,hz,VO,h1,LO,abE,yu,lV,abb,abT];rw[show Nat.blt 0 n=true from aan hn,show Nat.ble (0+m) 1000000=true from aan (by simp only[aaP]at To;omega)];simp only[ab9,cond_true];rw[show Nat.ble (0+m) 0=false from by cases h:Nat.ble (0+m) 0 with|false=>rfl|true=>have:=aam h;omega];simp only[cond_false]
  refine GL hc (hk _ _ ⟨rfl,λht=>ht.new _,λi hi _=>by rw[A7,aac (by omega)]⟩ (by rw[abf,LO];congr 1;omega) ⟨_,_,_,by rw[A7,aad rfl],by rw[abf,LO];congr 1;omega,λk w hw=>?_⟩);rw[abf]at hw;rw[B6 _ _ _ (aaa.1 hw).1,aaj,hw];rfl
 | @some b len cs hB hl=>
  obtain⟨c,k,zz,ho,LM,A5⟩:=hB;have hlen:len≤cs.length:=by rw[hl];exact Nat.le_mul_of_pos_right _ hn
  have LN:BE c zz (len*n) 0=cs:=by
   rw[←hl];exact HZ λj w hj=>by rw[aa0];exact A5 j w hj
  have hc:HN P t (.slice (some ⟨b,0,none⟩) len len) x W=some (.slice (some ⟨W.sz,0,none⟩) (len+m) (len+m),(W.A6 b .dead).new (.cells (Tr.nil.AS 0 (cs++news)) ((len+m)*n) #[] el)):=by
   unfold HN;simp only[ut,hx,CS,hs,hz,VO,h1,LO,abE,yu,lV,abb,abT];rw[show Nat.blt 0 n=true from aan hn,show Nat.ble (len+m) 1000000=true from aan (by omega)];simp only[ab9,cond_true];rw[show Nat.ble (len+m) len=false from by cases h:Nat.ble (len+m) len with|false=>rfl|true=>have:=aam h;omega];simp only[cond_false,abL,ho,abE,abT,aa0,LN];rw[show Nat.ble (len*n) k=true from aan (by omega)];simp only[cond_true]
  refine GL hc (hk _ _ ⟨rfl,λht=>Ag.new (ht.A6 (ht _ _ ho) (Dn.of _ _ _)) _,λi hi Dg=>by
    have:=Dg ⟨b,0,none⟩ len len rfl
    rw[A7,aac (by rw[vR];omega),G4,aac this]⟩ (by rw[aah,hl,LO,←abu]) ⟨_,_,_,by rw[A7,aad (by rw[vR])],by rw[aah,hl,LO,←abu],λk w hw=>?_⟩)
  rw[B6 _ _ _ (aaa.1 hw).1,aaj,hw];rfl
end
end Go.Ce
namespace Go.Ce
open Go Go.Proofs Go.Proofs.Tryz
def z_(v:Value)(W:CW):Ending→CW→Prop:=λe W'=>e=.returned v∧Kp W W'∧Ag W'
theorem Rt{P:Program}{L:List FuncId}{f:FuncId}{args:List Value}{W:CW}{K:Value→CW→Prop}{KP:List PanicEntry→CW→Prop}{v:Value}(h:AX P L f args W (z_ v W))(hk:∀W1,Kp W W1→Ag W1→K v W1):AX P L f args W (BO K KP) :=
 h.mono λe W' ⟨he,h1,h2⟩=>by subst he;exact hk W' h1 h2
def Lo(W:CW)(b o:Nat)(x:UInt8):Prop:=W.cell b o=some (.int .u8 x.toNat)
def Mg(x:UInt8):Bool:=decide ((x.toNat:Int)<33)||decide ((x.toNat:Int)>126)
def Jz{α:Type}(l:List α)(p:α→Bool):Int:=match l.findIdx? p with
 |some i=>i
 |none=>-1
theorem Lp{α:Type}{l:List α}{p:α→Bool}{i:Nat}(h:i<l.length)(hp:p l[i]=true)(Bw:∀j x,j<i→l[j]?=some x→p x=false):Jz l p=i:=by
 have:l.findIdx? p=some i:=by
  rw[aaq];exact⟨h,hp,λj hj=>by rw[Bw j l[j] hj (ck _)];simp⟩
 simp[Jz,this]
theorem Jo{α:Type}{l:List α}{p:α→Bool}(Bw:∀(j:Nat) x,j<l.length→l[j]?=some x→p x=false):Jz l p=-1:=by
 have:l.findIdx? p=none:=by
  rw[aaL];intro x hx;obtain⟨j,hj,rfl⟩:=abQ.1 hx;exact Bw j l[j] hj (ck _)
 simp[Jz,this]
theorem gi{v:Value}{l:List UInt8}{W:CW}(hl:At 1 (Lo W) v l)(hlen:l.length<1000000):AX prog Bf 140 [v,.func (.func 124) #[] #[]] W (H_ (.int .i64 (Jz l Mg)) W):=by
 refine ACf ?_;rw[ACe];obtain⟨a,cap,rfl,A5⟩:=hl;rw[Aj VN];simp only[AA];refine DX (λk e ds W'=>W'=W∧ds=[]∧∃i:Nat,e 0=.slice a l.length cap∧e 1=.func (.func 124) #[] #[]∧e 7=.int .i64 l.length∧e 8=.int .i64 i∧i≤l.length∧k=l.length-i∧∀j x,j<i→l[j]?=some x→Mg x=false) l.length ⟨rfl,rfl,0,rfl,rfl,rfl,rfl,by omega,by omega,by omega⟩ ?_;rintro k e ds W' ⟨rfl,rfl,i,h0,h1,h7,h8,hi,rfl,Bw⟩;rw[zt,h0,h1,h7,h8];simp only[AA,Af]
 refine AH (λh=>?_) (λh=>?_)
 ·have Ao:i<l.length:=by simpa using h
  have hx:=ck Ao;obtain⟨p,rfl,hp⟩:=A5 i _ hx;rw[Ay VN s5 Ao];simp only[AA,AD a5 (a:=⟨p.block,p.off+i*1,none⟩) hp];refine G5 Tryz.func124 (by kernel_rfl) (A4 (dP _ _) ?_)
  refine AH (λhq=>?_) (λhq=>?_)
  ·simp only[aF,NP,tKr,Tm,dH,XP,AG,↓reduceIte];refine⟨?_,rfl⟩;rw[Lp Ao hq Bw]
  ·simp only[aF,BI,AG,AN,Nat.reduceEqDiff,↓reduceIte,h0,h1,h7,h8,AO,AA,Uu]
   refine⟨l.length-(i+1),by omega,trivial,trivial,i+1,trivial,trivial,trivial,?_,Ao,rfl,λj x hj Mh=>?_⟩
   ·rw[wrap64 (by omega) (by omega)];rfl
   ·rcases aaD.1 hj with h2|rfl
    ·exact Bw j x h2 Mh
    ·rw[hx]at Mh;cases Mh;exact hq
 ·have Ji:i=l.length:=by have:¬i<l.length:=(by simpa using h);omega
  simp only[VM,IJ,dH,BI,XP,AG,↓reduceIte];refine⟨?_,rfl⟩;rw[Jo λj x hj hx=>Bw j x (by omega) hx]
theorem XY{v:Value}{l:List UInt8}{W:CW}(hl:At 1 (Lo W) v l)(hlen:l.length<1000000):AX prog Bf 123 [v,.func (.func 124) #[] #[]] W (H_ (.bool (l.any Mg)) W):=by
 refine ACd ?_;rw[ACc];refine A4 (gi hl hlen) ?_;simp only[CC,AA,lR,AG,↓reduceIte];refine⟨?_,rfl⟩;congr 2
 cases h:l.any Mg with
 |true=>
  obtain⟨x,hx,hb⟩:=aaH.1 h;unfold Jz
  cases h2:l.findIdx? Mg with
  |none=>rw[aaL]at h2;rw[h2 x hx]at hb;cases hb
  |some i=>simp
 | false=>
  rw[Jo λj x hj hx=>by
   have:=abU.1 h x (aai hx)
   simpa using this]
  rfl
def Dj(s:ByteArray):Bool:=(decide ((1:Int)≤s.size)&&decide ((s.size:Int)≤60))&& !(sb s).any Mg
theorem AF'{s:ByteArray}{W:CW}(ht:Ag W){K:Value→CW→Prop}(hk:∀v W1,Kp W W1→Ag W1→At 1 (Lo W1) v (sb s)→K v W1):Iw (cvs prog 9 29 (.string s) W) K:=by
 have hc:cvs prog 9 29 (.string s) W=some (.slice (some ⟨W.sz,0,none⟩) s.size s.size,W.new (.cells (Tr.nil.AS 0 (C_ (sb s))) s.size #[] 5)):=by kernel_rfl
 have Hs:(sb s).length=s.size:=by cases s;exact abF
 refine GL hc (hk _ _ (.new _) (ht.new _) ⟨some ⟨W.sz,0,none⟩,s.size,by rw[Hs],λi x hx=>⟨_,rfl,?_⟩⟩);have Ao:=(aaa.1 hx).1;unfold Lo CW.cell;rw[A7,aad rfl];simp only[aa0,ac2];rw[aad (by omega),B6 _ _ _ (by simp[C_];exact Ao)];simp[C_,aaj,hx]
theorem N2{s:ByteArray}{W:CW}(ht:Ag W)(hlen:s.size<1000000):AX prog Bf 101 [.string s] W (z_ (.bool (Dj s)) W):=by
 have Hs:(sb s).length=s.size:=by cases s;exact abF
 refine ACb ?_;rw[ACa,N0 u9];simp only[AA];refine A4 (gZ _ _ _ _) ?_
 refine AH (λh=>?_) (λh=>?_)
 ·refine AF' ht λv W1 k1 t1 hv=>?_;refine A4 (XY hv (by omega)) ?_;simp only[AW,AA,OY,BI,XO,AG,↓reduceIte];refine⟨?_,k1,t1⟩;simp only[Dj,h,abb]
 ·simp only[OY,BI,XO,AG,↓reduceIte];refine⟨?_,.refl _,ht⟩;simp only[Dj,h,ab4]
theorem Lq(s:ByteArray):(sb s).length=s.size:=by cases s;exact abF
end Go.Ce
namespace Go.Ce
section
variable {P:Program}
def BZ(A:Nat)(v:Value):Prop:=∀b l c,v=.slice (some b) l c→A≤b.block
theorem BZ.nil(A l c:Nat):BZ A (.slice none l c):=λb l c h=>by cases h
theorem Tp{A:Nat}{len:Nat}{b:Nat}(h:A≤b):BZ A (.slice (some ⟨b,0,none⟩) len len):=λb l c h=>by cases h;assumption
structure LF(v:Value)(W W':CW):Prop where
 sz:W.sz≤W'.sz
 obj:∀i,i<W.sz→(∀b l c,v=.slice (some b) l c→i≠b.block)→W'.obj i=W.obj i
theorem LF.kp{v:Value}{A W W':CW}(h:LF v W W')(k:Kp A W)(hv:BZ A.sz v):Kp A W' :=
 ⟨by have:=h.sz;have:=k.sz;omega,λi hi=>by
  rw[h.obj i (by have:=k.sz;omega) (λb l c e=>by have:=hv b l c e;omega)]
  exact k.obj i hi⟩
theorem vW{t el:TypeId}{ts:List TypeId}{n bytes:Nat}{z x:Value}{xs:List Value}(ut:P.underlying t=some (.slice el))(hs:De P el=some n)(hz:Hr P el=some z)(yu:z.cells.size=n)(hn:0<n)(yv:(P.info? el).map (·.bytes)=some bytes)(hb:bytes≤1024)
  (ACm:∀W,W_ P t 1 [(0,x)] W=some (.slice (some ⟨W.sz,0,none⟩) 1 1,W.new (.cells (Tr.nil.AS 0 xs) xs.length #[] el))) (qO:xs.length=n) (RJ:xs.all BG=true)
  {W:CW} (ht:Ag W) {v:Value} {cs:List Value} (hv:C' W el n v cs) (To:cs.length<900000) {K:Value→Value→CW→Prop}
  (hk:∀u v1 W1,LF v W W1→Ag W1→C' W1 el n v1 (cs++xs)→(∀A,A≤W.sz→BZ A v1)→K u v1 W1):Iw (W_ P t 1 [(0,x)] W) λu W1=>Iw (app P (t::t::ts) v u W1) λv1 W2=>K u v1 W2:=by
 refine GL (ACm W) ?_;have hkp:Kp W (W.new (.cells (Tr.nil.AS 0 xs) xs.length #[] el)):=.new _
 have hB:Aq (W.new (.cells (Tr.nil.AS 0 xs) xs.length #[] el)) W.sz el xs:=⟨_,_,_,by rw[A7,aad rfl],rfl,λk w hw=>by
  rw[B6 _ _ _ (aaa.1 hw).1,aaj,hw];rfl⟩
 have Iu:C' (W.new (.cells (Tr.nil.AS 0 xs) xs.length #[] el)) el n v cs:=by
  cases hv with
  |nil=>exact .nil
  |some h hl=>exact .some (h.ext ht hkp) hl
 have ew:∀b l c,v=.slice (some b) l c→b.block<W.sz:=by
  intro b l c e
  cases hv with
  |nil=>cases e
  |some h hl=>cases e;exact h.lt ht
 have hu:JH P t=true:=by unfold JH;rw[ut]
 refine oU (x:=.slice (some ⟨W.sz,0,none⟩) 1 1) (m:=1) (news:=xs) ut hu hs hz yu hn yv hb (ht.new _) Iu rfl (by omega) ?_ RJ (by omega) (by omega) λW1 len hg hl P_=>?_
 ·show FD (some ⟨W.sz,0,none⟩) (1*n) _=some xs;rw[acD,←qO];exact Ob hB.cells
 ·refine hk _ _ W1 ⟨by rw[hg.sz,HB];omega,λi hi Dg=>?_⟩ (hg.top (ht.new _)) (.some P_ hl) (λA hA b l c e=>by cases e;rw[HB];show A≤W.sz+1;omega);rw[hg.obj i (by rw[HB];omega) Dg,A7,aac (by omega)]
end
end Go.Ce
namespace Go.Ce
open Go Go.Proofs Go.Proofs.Tryz
theorem At.imp{α:Type}{n:Nat}{R S:Nat→Nat→α→Prop}{v:Value}{l:List α}(h:At n R v l)(hi:∀b o x,R b o x→S b o x):At n S v l:=by
 obtain⟨a,cap,h1,h2⟩:=h;exact⟨a,cap,h1,λi x hx=>by obtain⟨p,hp,hr⟩:=h2 i x hx;exact⟨p,hp,hi _ _ _ hr⟩⟩
theorem RZ.kp{W W':CW}{b o:Nat}{x:Vq}(h:RZ W b o x)(ht:Ag W)(k:Kp W W'):RZ W' b o x:=⟨k.cell ht h.name,k.cell ht h.kind,h.lo,h.hi⟩
theorem JZ.kp{W W':CW}{b o:Nat}{x:AV}(h:JZ W b o x)(ht:Ag W)(k:Kp W W'):JZ W' b o x :=
 ⟨k.cell ht h.name,k.cell ht h.BR,by obtain⟨v,h1,h2⟩:=h.fields;exact⟨v,k.cell ht h1,h2.imp λ_ _ _ hr=>hr.kp ht k⟩,k.cell ht h.elem,by obtain⟨a,l,n,h1⟩:=h.binds;exact⟨a,l,n,k.cell ht h1⟩,h.lo,h.hi⟩
def Dw:ByteArray:=⟨#[]⟩
def QA(c:List AV)(i:Nat):Option Nat:=match c[i]? with
 | some x=>match c.findIdx? (λy=>decide (y.name=x.BR))with
  |some j=>match c[j]? with
   |some y=>if y.elem=0 then some j else none
   |none=>none
  |none=>none
 |none=>none
def Bg(c:List AV):Nat→Nat→Option (List Nat)
 | f,i=>match c[i]? with
  |none=>none
  | some x=>if x.BR=Dw then some [i]else match f with
   |0=>none
   |f+1=>match QA c i with
    |some j=>(Bg c f j).map (i::·)
    |none=>none
termination_by f=>f
theorem z3:Hr prog 3=some (.int .i64 0):=by kernel_rfl
theorem by3:(prog.info? 3).map (·.bytes)=some 8:=by kernel_rfl
theorem vX(n:Int)(W:CW):W_ prog 40 1 [(0,.int .i64 n)] W=some (.slice (some ⟨W.sz,0,none⟩) 1 1,W.new (.cells (Tr.nil.AS 0 [.int .i64 n]) [Value.int .i64 n].length #[] 3)):=by kernel_rfl
theorem gj{P:Program}{t el el':TypeId}(u:P.underlying t=some (.slice el')){W W':CW}{v:Value}{cs:List Value}(h:C' W el 1 v cs):Kw P t v W'=some (.int .i64 cs.length):=by
 cases h with
 |nil=>rw[Aj u];rfl
 |some hB hl=>rw[Aj u,hl,ac2]
theorem Fh{c:List AV}{f i:Nat}{x:AV}(hx:c[i]?=some x)(hs:x.BR=Dw):Bg c f i=some [i]:=by
 unfold Bg;rw[hx];simp only[hs,aaA]
theorem QB{c:List AV}{i:Nat}{x:AV}(hx:c[i]?=some x)(hs:x.BR≠Dw):Bg c 0 i=none:=by
 unfold Bg;rw[hx];simp only[hs,abk]
theorem IK{c:List AV}{f i:Nat}{x:AV}(hx:c[i]?=some x)(hs:x.BR≠Dw):Bg c (f+1) i=match QA c i with
  |some j=>(Bg c f j).map (i::·)
  |none=>none:=by
 rw[Bg,hx];simp only[hs,abk]
end Go.Ce
namespace Go.Ce
section
variable {α:Type}{W:CW}{b n:Nat}{enc:α→List Value}
theorem QC(hn:∀x,(enc x).length=n):∀(l:List α) (o:Nat),Cells W b o (l.flatMap enc)→∀i x,l[i]?=some x→Cells W b (o+i*n) (enc x)
 |[],o,_=>λi x h=>by cases h
 | y::l,o,h=>by
  intro i x hx;rw[aas]at h
  cases i with
  |zero=>
   cases hx
   intro j v hj;rw[abl,aa6];exact h j v (by rw[aat (aaa.1 hj).1];exact hj)
  | succ i=>
   have:=QC hn l (o+n) (λj v hj=>by
    have:=h (n+j) v (by rw[aay (by rw[hn];omega),hn,Nat.add_sub_cancel_left];exact hj)
    rwa[show o+(n+j)=o+n+j by omega]at this) i x (by simpa using hx)
   rwa[show o+n+i*n=o+(i+1)*n by rw[acG];omega]at this
end
section
variable {P:Program}
theorem ACn{t u el:TypeId}{ts:List TypeId}{n bytes:Nat}{z:Value}(ut:P.underlying t=some (.slice el))(hu:JH P u=true)(hs:De P el=some n)(hz:Hr P el=some z)(yu:z.cells.size=n)(hn:0<n)(yv:(P.info? el).map (·.bytes)=some bytes)(hb:bytes≤1024)
  {W:CW} (ht:Ag W) {v:Value} {cs news:List Value} {a:Option Addr} {m cap:Nat} (hv:C' W el n v cs) (VO:0<m→∃p,a=some p∧Cells W p.block p.off news) (h1:news.all BG=true) (LO:news.length=m*n) (To:cs.length+m≤1000000) {K:Value→CW→Prop}
  (hk:∀v1 W1,LF v W W1→Ag W1→C' W1 el n v1 (cs++news)→(∀A,A≤W.sz→BZ A v→BZ A v1)→K v1 W1):Iw (app P (t::u::ts) v (.slice a m cap) W) K:=by
 rcases abM m with rfl|hm
 ·have LZ:news=[]:=aaF.1 (by rw[LO,abl]);subst LZ;have lV:Nat.ble ((P.info? el).map (·.bytes)|>.getD 2000) 1024=true:=by rw[yv];exact aan hb
  have zQ:Ia (.slice a 0 cap) 0 n W=some []:=by
   show FD a (0*n) W=some [];rw[abl];unfold FD
   cases a<;>rfl
  have hc:app P (t::u::ts) v (.slice a 0 cap) W=some (v,W):=by
   unfold app;simp only[hu,cond_true]
   cases hv with
   |nil=>
    unfold HN;simp only[ut,j6,CS,hs,hz,zQ,List.all_nil,aaP,abl,abE,yu,lV,abb,abT];rw[show Nat.blt 0 n=true from aan hn];rfl
   | @some b len cs hB hl=>
    have hlen:len≤cs.length:=by rw[hl];exact Nat.le_mul_of_pos_right _ hn
    unfold HN;simp only[ut,j6,CS,hs,hz,zQ,List.all_nil,aaP,abl,abE,yu,lV,abb,abT,aa6];rw[show Nat.blt 0 n=true from aan hn,show Nat.ble len 1000000=true from aan (by omega),show Nat.ble len len=true from aan (aaf _)];rfl
  refine GL hc (hk v W ⟨aaf _,λ_ _ _=>rfl⟩ ht (by rw[aaR];exact hv) (λA _ h=>h))
 ·obtain⟨p,rfl,OS⟩:=VO hm
  refine oU (m:=m) ut hu hs hz yu hn yv hb ht hv rfl hm ?_ h1 LO To λW1 len hg hl hB=>?_
  ·show FD (some p) (m*n) W=some news;rw[←LO];exact Ob OS
  ·exact hk _ W1 ⟨by rw[hg.sz];omega,hg.obj⟩ (hg.top ht) (.some hB hl) (λA hA _=>Tp hA)
end
end Go.Ce
