/- A part of the proof: Gb. -/
import Derived.Test.YtmknebebbbjdlaaGreatW02
set_option linter.unusedSectionVars false
set_option linter.unusedVariables false
set_option linter.unusedSimpArgs false
set_option linter.defProp false
set_option maxRecDepth 200000
namespace Go.Ce
def AGs:Option Nat→Option Nat→Bool
 |none,none=>true
 |some i,some j=>Nat.beq i j
 |_,_=>false
theorem au{a b:Option Nat}(h:AGs a b=true):a=b:=by
 cases a<;>cases b<;>first|rfl|(cases h;done)|skip
 rw[aac h]
def addrEq(a b:Addr):Bool:=Nat.beq a.block b.block&&Nat.beq a.off b.off&&AGs a.spot b.spot
theorem UE{a b:Addr}(h:addrEq a b=true):a=b:=by
 simp only[addrEq,aab]at h;obtain⟨a1,a2,a3⟩:=a;obtain⟨b1,b2,b3⟩:=b;have h1:=aac h.1.1;have h2:=aac h.1.2;have h3:=au h.2;simp only at h1 h2 h3;rw[h1,h2,h3]
def UF:Nat→Value→Value→Bool
 |0,_,_=>false
 |n+1,v,w=>match v,w with
  | .bool a,.bool b=>a==b
  | .int j a,.int k b=>decide (j=k)&&a==b
  | .pointer none,.pointer none=>true
  | .pointer (some a),.pointer (some b)=>addrEq a b
  | .slice none n c,.slice none m d=>Nat.beq n m&&Nat.beq c d
  | .slice (some a) n c,.slice (some b) m d=>addrEq a b&&(Nat.beq n m&&Nat.beq c d)
  | .map a,.map b=>AGs a b
  | .nilIface,.nilIface=>true
  | .nilFunc,.nilFunc=>true
  | .string a,.string b=>bA (sb a) (sb b)
  | .iface t v,.iface u w=>Nat.beq t u&&UF n v w
  | .agg x,.agg y=>Nat.beq x.size y.size&&(x.toList.zip y.toList).all λ(v,w)=>UF n v w
  | .tuple x,.tuple y=>Nat.beq x.size y.size&&(x.toList.zip y.toList).all λ(v,w)=>UF n v w
  | .func (.func f) x x',.func (.func g) y y'=>Nat.beq f g&&(Nat.beq x.size y.size&&(x.toList.zip y.toList).all λ(v,w)=>UF n v w)&&(Nat.beq x'.size y'.size&&(x'.toList.zip y'.toList).all λ(v,w)=>UF n v w)
  | .func (.yield f) x x',.func (.yield g) y y'=>Nat.beq f g&&(Nat.beq x.size y.size&&(x.toList.zip y.toList).all λ(v,w)=>UF n v w)&&(Nat.beq x'.size y'.size&&(x'.toList.zip y'.toList).all λ(v,w)=>UF n v w)
  | .complex .f32 a b,.complex .f32 c d=>Nat.beq a c&&Nat.beq b d
  |_,_=>false
theorem Nt:∀(n:Nat) (v w:Value),UF n v w=true→v=w:=by
 intro n
 induction n with
 |zero=>intro v w h;simp[UF]at h
 | succ n ih=>
  intro v w h;unfold UF at h;split at h<;>first|(exact(Bool.false_ne_true h).elim)|skip
  all_goals (try simp only[aab]at h)
  all_goals first
   |rfl
   |(have:=eq_of_beq h;subst this;rfl)
   |(have:=MR h;subst this;rfl)
   |(have:=au h;subst this;rfl)
   |(have:=UE h;subst this;rfl)
   |(obtain⟨h1,h2⟩:=h;have h1:=of_decide_eq_true h1;have h2:=eq_of_beq h2;subst h1;subst h2;rfl)
   |(obtain⟨h1,h2⟩:=h;have h1:=aac h1;have h2:=aac h2;subst h1;subst h2;rfl)
   |(obtain⟨h1,h2,h3⟩:=h;have h1:=UE h1;have h2:=aac h2;have h3:=aac h3;subst h1;subst h2;subst h3;rfl)
   |(obtain⟨h1,h2⟩:=h;have h1:=aac h1;have h2:=ih _ _ h2;subst h1;subst h2;rfl)
   |(obtain⟨h1,h2⟩:=h;rw[Lk h1 h2 (λv w=>ih v w)])
   |(obtain⟨⟨h1,h2,h3⟩,h4,h5⟩:=h;have h1:=aac h1;rw[h1,Lk h2 h3 (λv w=>ih v w),Lk h4 h5 (λv w=>ih v w)])
def ACs:List Value→List Value→Bool
 |[],[]=>true
 |v::vs,w::ws=>UF 8 v w&&ACs vs ws
 |_,_=>false
theorem aw:∀{vs ws:List Value},ACs vs ws=true→vs=ws
 |[],[],_=>rfl
 |v::vs,w::ws,h=>by
  simp only[ACs,aab]at h;rw[Nt 8 _ _ h.1,aw h.2]
 |[],_::_,h=>by cases h
 |_::_,[],h=>by cases h
def ovX:Option Value→Option Value→Bool
 |none,none=>true
 |some v,some w=>UF 8 v w
 |_,_=>false
theorem wX{a b:Option Value}(h:ovX a b=true):a=b:=by
 cases a<;>cases b<;>first|rfl|(cases h;done)|skip
 rw[Nt 8 _ _ h]
def tvX:Tr Value→Tr Value→Bool
 | .nil,.nil=>true
 | .node l v r,.node l' v' r'=>ovX v v'&&tvX l l'&&tvX r r'
 |_,_=>false
theorem P9:∀{a b:Tr Value},tvX a b=true→a=b
 | .nil,.nil,_=>rfl
 | .node l v r,.node l' v' r',h=>by
  simp only[tvX,aab]at h;rw[wX h.1.1,P9 h.1.2,P9 h.2]
 | .nil,.node _ _ _,h=>by cases h
 | .node _ _ _,.nil,h=>by cases h
def esX:List MapEntry→List MapEntry→Bool
 |[],[]=>true
 |a::az,b::bs=>UF 8 a.key b.key&&UF 8 a.val b.val&&Nat.beq a.born b.born&&esX az bs
 |_,_=>false
theorem eo:∀{a b:List MapEntry},esX a b=true→a=b
 |[],[],_=>rfl
 |⟨k,v,n⟩::az,⟨k',v',n'⟩::bs,h=>by
  simp only[esX,aab]at h;rw[Nt 8 _ _ h.1.1.1,Nt 8 _ _ h.1.1.2,aac h.1.2,eo h.2]
 |[],_::_,h=>by cases h
 |_::_,[],h=>by cases h
def oX:BF→BF→Bool
 | .cells c n z e,.cells c' n' z' e'=>Nat.beq n n'&&Nat.beq e e'&&ACs z.toList z'.toList&&tvX c c'
 | .map es k,.map DO k'=>Nat.beq k k'&&esX es DO
 |_,.dead=>true
 |_,_=>false
theorem ABA{a b:BF}(h:oX a b=true):b=.dead∨b=a:=by
 unfold oX at h;split at h<;>first|(exact .inl rfl)|(cases h;done)|skip
 all_goals
  simp only[aab]at h
  first
   |(obtain⟨⟨⟨h1,h2⟩,h3⟩,h4⟩:=h;rw[aac h1,aac h2,acE (aw h3),P9 h4];exact .inr rfl)
   |(obtain⟨h1,h2⟩:=h;rw[aac h1,eo h2];exact .inr rfl)
def ooX:Option BF→Option BF→Bool
 |_,none=>true
 |some a,some b=>oX a b
 |_,_=>false
def thX:Tr BF→Tr BF→Bool
 |_,.nil=>true
 | .node l v r,.node l' v' r'=>ooX v v'&&(thX l l'&&thX r r')
 |_,_=>false
theorem Vs:∀{a b:Tr BF},thX a b=true→∀i o,b.get i=some o→∃o',a.get i=some o'∧(o=.dead∨o=o')
 |_,.nil,_,_,_,ho=>by cases ho
 | .nil,.node ..,h,_,_,_=>by cases h
 | .node l v r,.node l' v' r',h,i,o,ho=>by
  simp only[thX,aab]at h;simp only[Tr.get,cond_eq_ite]at ho ⊢
  by_cases h0:Nat.beq i 0=true
  ·rw[aae h0]at ho;subst ho
   cases v with
   |none=>cases h.1
   |some a=>exact⟨a,aae h0,ABA h.1⟩
  ·rw[aad h0]at ho ⊢
   split at ho
   ·rename_i h1;rw[aae h1];exact Vs h.2.1 _ _ ho
   ·rename_i h1;rw[aad h1];exact Vs h.2.2 _ _ ho
def a8(o:RB)(A:AN)(W:CW):Bool:=match o with
 |some [(.normal,a,V)]=>tvX a.t A.t&&Nat.beq a.nt A.nt&&a.defers.isEmpty&&A.defers.isEmpty&&Nat.beq V.sz W.sz&&thX V.h W.h
 |_=>false
def a_(P:Program)(fn:Func)(o:RB):Bool:=match o with
 |some [(.ret,a,W)]=>a.defers.isEmpty&&match Gg P fn a W with
  |some (.bool b)=>b
  |_=>false
 |_=>false
section
variable {P:Program}{L:List FuncId}{w0:World}{f:FuncId}{fn:Func}
theorem JL.a8(hS:∀n,Yr P w0 n (bM P L n))(Al:∀d,d∈C8 P f→codeOk P fn.ntmps false d=true){i:Nat}(j n:Nat){a A:AN}{W V:CW}(h:a8 (Ee (bM P L n) none f (((C8 P f).drop i).take j) a W) A V=true)
  (hk:JL P w0 f fn (i+j) A V):JL P w0 f fn i a W:=by
 unfold Ce.a8 at h
 split at h
 ·rename_i a1 V1 ho;simp only[aab,List.isEmpty_iff]at h;obtain⟨⟨⟨⟨⟨h1,h2⟩,h3⟩,h4⟩,h5⟩,h6⟩:=h
  have e:a1=A:=by
   obtain⟨t,n,d⟩:=a1;obtain⟨t',n',d'⟩:=A;simp only at h1 h2 h3 h4;rw[P9 h1,aac h2,h3,h4]
  subst e;exact JL.seg hS Al j n ho ⟨aac h5,Vs h6⟩ hk
 ·cases h
theorem JL.ends(hS:∀n,Yr P w0 n (bM P L n))(Al:∀d,d∈C8 P f→codeOk P fn.ntmps false d=true){i:Nat}(n:Nat){a:AN}{W:CW}(h:a_ P fn (Ee (bM P L n) none f ((C8 P f).drop i) a W)=true):JL P w0 f fn i a W:=by
 unfold a_ at h
 split at h
 ·rename_i a1 W1 ho;simp only[aab,List.isEmpty_iff]at h;obtain⟨h1,h2⟩:=h
  split at h2
  ·rename_i b hv;subst h2;exact JL.end hS Al n ho h1 hv
  ·cases h2
 ·cases h
end
end Go.Ce
