/- A part of the proof: Gb. -/
import Derived.Test.YtmknebebbbjdlaaGreatW02
set_option linter.unusedSectionVars false
set_option linter.unusedVariables false
set_option linter.unusedSimpArgs false
set_option linter.defProp false
set_option maxRecDepth 200000
namespace Go.Ce
def AE4:Option Nat→Option Nat→Bool
 |none,none=>true
 |some i,some j=>Nat.beq i j
 |_,_=>false
theorem Yx{a b:Option Nat}(h:AE4 a b=true):a=b:=by
 cases a<;>cases b<;>first|rfl|(cases h;done)|skip
 rw[aab h]
def addrEq(a b:Addr):Bool:=Nat.beq a.block b.block&&Nat.beq a.off b.off&&AE4 a.spot b.spot
theorem SX{a b:Addr}(h:addrEq a b=true):a=b:=by
 simp only[addrEq,dy]at h;obtain⟨a1,a2,a3⟩:=a;obtain⟨b1,b2,b3⟩:=b;have h1:=aab h.1.1;have h2:=aab h.1.2;have h3:=Yx h.2;simp only at h1 h2 h3;rw[h1,h2,h3]
def SY:Nat→Value→Value→Bool
 |0,_,_=>false
 |n+1,v,w=>match v,w with
  | .bool a,.bool b=>a==b
  | .int j a,.int k b=>decide (j=k)&&a==b
  | .pointer none,.pointer none=>true
  | .pointer (some a),.pointer (some b)=>addrEq a b
  | .slice none n c,.slice none m d=>Nat.beq n m&&Nat.beq c d
  | .slice (some a) n c,.slice (some b) m d=>addrEq a b&&(Nat.beq n m&&Nat.beq c d)
  | .map a,.map b=>AE4 a b
  | .nilIface,.nilIface=>true
  | .nilFunc,.nilFunc=>true
  | .string a,.string b=>Y2 (sb a) (sb b)
  | .iface t v,.iface u w=>Nat.beq t u&&SY n v w
  | .agg x,.agg y=>Nat.beq x.size y.size&&(x.toList.zip y.toList).all λ(v,w)=>SY n v w
  | .tuple x,.tuple y=>Nat.beq x.size y.size&&(x.toList.zip y.toList).all λ(v,w)=>SY n v w
  | .func (.func f) x x',.func (.func g) y y'=>Nat.beq f g&&(Nat.beq x.size y.size&&(x.toList.zip y.toList).all λ(v,w)=>SY n v w)&&(Nat.beq x'.size y'.size&&(x'.toList.zip y'.toList).all λ(v,w)=>SY n v w)
  | .func (.yield f) x x',.func (.yield g) y y'=>Nat.beq f g&&(Nat.beq x.size y.size&&(x.toList.zip y.toList).all λ(v,w)=>SY n v w)&&(Nat.beq x'.size y'.size&&(x'.toList.zip y'.toList).all λ(v,w)=>SY n v w)
  | .complex .f32 a b,.complex .f32 c d=>Nat.beq a c&&Nat.beq b d
  |_,_=>false
theorem Mx:∀(n:Nat) (v w:Value),SY n v w=true→v=w:=by
 intro n
 induction n with
 |zero=>intro v w h;simp[SY]at h
 | succ n ih=>
  intro v w h;unfold SY at h;split at h<;>first|(exact(ac7 h).elim)|skip
  all_goals (try simp only[dy]at h)
  all_goals first
   |rfl
   |(have:=eq_of_beq h;subst this;rfl)
   |(have:=LX h;subst this;rfl)
   |(have:=Yx h;subst this;rfl)
   |(have:=SX h;subst this;rfl)
   |(obtain⟨h1,h2⟩:=h;have h1:=of_decide_eq_true h1;have h2:=eq_of_beq h2;subst h1;subst h2;rfl)
   |(obtain⟨h1,h2⟩:=h;have h1:=aab h1;have h2:=aab h2;subst h1;subst h2;rfl)
   |(obtain⟨h1,h2,h3⟩:=h;have h1:=SX h1;have h2:=aab h2;have h3:=aab h3;subst h1;subst h2;subst h3;rfl)
   |(obtain⟨h1,h2⟩:=h;have h1:=aab h1;have h2:=ih _ _ h2;subst h1;subst h2;rfl)
   |(obtain⟨h1,h2⟩:=h;rw[KQ h1 h2 (λv w=>ih v w)])
   |(obtain⟨⟨h1,h2,h3⟩,h4,h5⟩:=h;have h1:=aab h1;rw[h1,KQ h2 h3 (λv w=>ih v w),KQ h4 h5 (λv w=>ih v w)])
def ABK:List Value→List Value→Bool
 |[],[]=>true
 |v::vs,w::ws=>SY 8 v w&&ABK vs ws
 |_,_=>false
theorem Yy:∀{vs ws:List Value},ABK vs ws=true→vs=ws
 |[],[],_=>rfl
 |v::vs,w::ws,h=>by
  simp only[ABK,dy]at h;rw[Mx 8 _ _ h.1,Yy h.2]
 |[],_::_,h=>by cases h
 |_::_,[],h=>by cases h
def ovX:Option Value→Option Value→Bool
 |none,none=>true
 |some v,some w=>SY 8 v w
 |_,_=>false
theorem sv{a b:Option Value}(h:ovX a b=true):a=b:=by
 cases a<;>cases b<;>first|rfl|(cases h;done)|skip
 rw[Mx 8 _ _ h]
def tvX:Tr Value→Tr Value→Bool
 | .nil,.nil=>true
 | .node l v r,.node l' v' r'=>ovX v v'&&tvX l l'&&tvX r r'
 |_,_=>false
theorem On:∀{a b:Tr Value},tvX a b=true→a=b
 | .nil,.nil,_=>rfl
 | .node l v r,.node l' v' r',h=>by
  simp only[tvX,dy]at h;rw[sv h.1.1,On h.1.2,On h.2]
 | .nil,.node _ _ _,h=>by cases h
 | .node _ _ _,.nil,h=>by cases h
def esX:List MapEntry→List MapEntry→Bool
 |[],[]=>true
 |a::az,b::bs=>SY 8 a.key b.key&&SY 8 a.val b.val&&Nat.beq a.born b.born&&esX az bs
 |_,_=>false
theorem bZ:∀{a b:List MapEntry},esX a b=true→a=b
 |[],[],_=>rfl
 |⟨k,v,n⟩::az,⟨k',v',n'⟩::bs,h=>by
  simp only[esX,dy]at h;rw[Mx 8 _ _ h.1.1.1,Mx 8 _ _ h.1.1.2,aab h.1.2,bZ h.2]
 |[],_::_,h=>by cases h
 |_::_,[],h=>by cases h
def oX:Am→Am→Bool
 | .cells c n z e,.cells c' n' z' e'=>Nat.beq n n'&&Nat.beq e e'&&ABK z.toList z'.toList&&tvX c c'
 | .map es k,.map CO k'=>Nat.beq k k'&&esX es CO
 |_,.dead=>true
 |_,_=>false
theorem yk{a b:Am}(h:oX a b=true):b=.dead∨b=a:=by
 unfold oX at h;split at h<;>first|(exact .inl rfl)|(cases h;done)|skip
 all_goals
  simp only[dy]at h
  first
   |(obtain⟨⟨⟨h1,h2⟩,h3⟩,h4⟩:=h;rw[aab h1,aab h2,acE (Yy h3),On h4];exact .inr rfl)
   |(obtain⟨h1,h2⟩:=h;rw[aab h1,bZ h2];exact .inr rfl)
def ooX:Option Am→Option Am→Bool
 |_,none=>true
 |some a,some b=>oX a b
 |_,_=>false
def thX:Tr Am→Tr Am→Bool
 |_,.nil=>true
 | .node l v r,.node l' v' r'=>ooX v v'&&(thX l l'&&thX r r')
 |_,_=>false
theorem UL:∀{a b:Tr Am},thX a b=true→∀i o,b.get i=some o→∃o',a.get i=some o'∧(o=.dead∨o=o')
 |_,.nil,_,_,_,ho=>by cases ho
 | .nil,.node ..,h,_,_,_=>by cases h
 | .node l v r,.node l' v' r',h,i,o,ho=>by
  simp only[thX,dy]at h;simp only[Tr.get,cond_eq_ite]at ho ⊢
  by_cases h0:Nat.beq i 0=true
  ·rw[aad h0]at ho;subst ho
   cases v with
   |none=>cases h.1
   |some a=>exact⟨a,aad h0,yk h.1⟩
  ·rw[aac h0]at ho ⊢
   split at ho
   ·rename_i h1;rw[aad h1];exact UL h.2.1 _ _ ho
   ·rename_i h1;rw[aac h1];exact UL h.2.2 _ _ ho
def Yz(o:PV)(A:AI)(W:CW):Bool:=match o with
 |some [(.normal,a,V)]=>tvX a.t A.t&&Nat.beq a.nt A.nt&&a.defers.isEmpty&&A.defers.isEmpty&&Nat.beq V.sz W.sz&&thX V.h W.h
 |_=>false
def Y0(P:Program)(fn:Func)(o:PV):Bool:=match o with
 |some [(.ret,a,W)]=>a.defers.isEmpty&&match F5 P fn a W with
  |some (.bool b)=>b
  |_=>false
 |_=>false
section
variable {P:Program}{L:List FuncId}{w0:World}{f:FuncId}{fn:Func}
theorem IH.Yz(hS:∀n,Wo P w0 n (Y8 P L n))(Aa:∀d,d∈B9 P f→codeOk P fn.ntmps false d=true){i:Nat}(j n:Nat){a A:AI}{W V:CW}(h:Yz (D2 (Y8 P L n) none f (((B9 P f).drop i).take j) a W) A V=true)
  (hk:IH P w0 f fn (i+j) A V):IH P w0 f fn i a W:=by
 unfold Ce.Yz at h
 split at h
 ·rename_i a1 V1 ho;simp only[dy,List.isEmpty_iff]at h;obtain⟨⟨⟨⟨⟨h1,h2⟩,h3⟩,h4⟩,h5⟩,h6⟩:=h
  have e:a1=A:=by
   obtain⟨t,n,d⟩:=a1;obtain⟨t',n',d'⟩:=A;simp only at h1 h2 h3 h4;rw[On h1,aab h2,h3,h4]
  subst e;exact IH.seg hS Aa j n ho ⟨aab h5,UL h6⟩ hk
 ·cases h
theorem IH.ends(hS:∀n,Wo P w0 n (Y8 P L n))(Aa:∀d,d∈B9 P f→codeOk P fn.ntmps false d=true){i:Nat}(n:Nat){a:AI}{W:CW}(h:Y0 P fn (D2 (Y8 P L n) none f ((B9 P f).drop i) a W)=true):IH P w0 f fn i a W:=by
 unfold Y0 at h
 split at h
 ·rename_i a1 W1 ho;simp only[dy,List.isEmpty_iff]at h;obtain⟨h1,h2⟩:=h
  split at h2
  ·rename_i b hv;subst h2;exact IH.end hS Aa n ho h1 hv
  ·cases h2
 ·cases h
end
end Go.Ce
