/- A part of the proof: Gb. -/
import Derived.Test.YtmknebebbbjdlaaGreatW02
set_option linter.unusedSectionVars false
set_option linter.unusedVariables false
set_option linter.unusedSimpArgs false
set_option maxRecDepth 200000
namespace Go.Ce
def qU:Option Nat→Option Nat→Bool
 | none,none=>true
 | some i,some j=>Nat.beq i j
 | _,_=>false
theorem M8 {a b:Option Nat} (h:qU a b=true):a=b:=by
 cases a <;> cases b <;> first | rfl | (cases h; done) | skip
 rw [Nat.eq_of_beq_eq_true h]
def addrEq (a b:Addr):Bool:=Nat.beq a.block b.block && Nat.beq a.off b.off && qU a.spot b.spot
theorem OJ {a b:Addr} (h:addrEq a b=true):a=b:=by
 simp only [addrEq,Bool.and_eq_true] at h; obtain ⟨a1,a2,a3⟩:=a; obtain ⟨b1,b2,b3⟩:=b; have h1:=Nat.eq_of_beq_eq_true h.1.1; have h2:=Nat.eq_of_beq_eq_true h.1.2; have h3:=M8 h.2; simp only at h1 h2 h3; rw [h1,h2,h3]
def OK:Nat→Value→Value→Bool
 | 0,_,_=>false
 | n+1,v,w=>match v,w with
  | .bool a,.bool b=>a == b
  | .int j a,.int k b=>decide (j=k) && a == b
  | .pointer none,.pointer none=>true
  | .pointer (some a),.pointer (some b)=>addrEq a b
  | .slice none n c,.slice none m d=>Nat.beq n m && Nat.beq c d
  | .slice (some a) n c,.slice (some b) m d=>addrEq a b && (Nat.beq n m && Nat.beq c d)
  | .map a,.map b=>qU a b
  | .nilIface,.nilIface=>true
  | .nilFunc,.nilFunc=>true
  | .string a,.string b=>UG (sb a) (sb b)
  | .iface t v,.iface u w=>Nat.beq t u && OK n v w
  | .agg x,.agg y=>Nat.beq x.size y.size && (x.toList.zip y.toList).all fun (v,w)=>OK n v w
  | .tuple x,.tuple y=>Nat.beq x.size y.size && (x.toList.zip y.toList).all fun (v,w)=>OK n v w
  | .func (.func f) x x',.func (.func g) y y'=>Nat.beq f g && (Nat.beq x.size y.size && (x.toList.zip y.toList).all fun (v,w)=>OK n v w) && (Nat.beq x'.size y'.size && (x'.toList.zip y'.toList).all fun (v,w)=>OK n v w)
  | .func (.yield f) x x',.func (.yield g) y y'=>Nat.beq f g && (Nat.beq x.size y.size && (x.toList.zip y.toList).all fun (v,w)=>OK n v w) && (Nat.beq x'.size y'.size && (x'.toList.zip y'.toList).all fun (v,w)=>OK n v w)
  | .complex .f32 a b,.complex .f32 c d=>Nat.beq a c && Nat.beq b d
  | _,_=>false
theorem KB:∀ (n:Nat) (v w:Value),OK n v w=true→v=w:=by
 intro n
 induction n with
 | zero=>intro v w h; simp [OK] at h
 | succ n ih =>
  intro v w h; unfold OK at h; split at h <;> first | (exact (Bool.false_ne_true h).elim) | skip
  all_goals (try simp only [Bool.and_eq_true] at h)
  all_goals first
   | rfl
   | (have:=eq_of_beq h; subst this; rfl)
   | (have:=Ks h; subst this; rfl)
   | (have:=M8 h; subst this; rfl)
   | (have:=OJ h; subst this; rfl)
   | (obtain ⟨h1,h2⟩:=h; have h1:=of_decide_eq_true h1; have h2:=eq_of_beq h2; subst h1; subst h2; rfl)
   | (obtain ⟨h1,h2⟩:=h; have h1:=Nat.eq_of_beq_eq_true h1; have h2:=Nat.eq_of_beq_eq_true h2; subst h1; subst h2; rfl)
   | (obtain ⟨h1,h2,h3⟩:=h; have h1:=OJ h1; have h2:=Nat.eq_of_beq_eq_true h2; have h3:=Nat.eq_of_beq_eq_true h3; subst h1; subst h2; subst h3; rfl)
   | (obtain ⟨h1,h2⟩:=h; have h1:=Nat.eq_of_beq_eq_true h1; have h2:=ih _ _ h2; subst h1; subst h2; rfl)
   | (obtain ⟨h1,h2⟩:=h; rw [IK h1 h2 (fun v w=>ih v w)])
   | (obtain ⟨⟨h1,h2,h3⟩,h4,h5⟩:=h; have h1:=Nat.eq_of_beq_eq_true h1; rw [h1,IK h2 h3 (fun v w=>ih v w),IK h4 h5 (fun v w=>ih v w)])
def qV:List Value→List Value→Bool
 | [],[]=>true
 | v::vs,w::ws=>OK 8 v w && qV vs ws
 | _,_=>false
theorem T6:∀ {vs ws:List Value},qV vs ws=true→vs=ws
 | [],[],_=>rfl
 | v::vs,w::ws,h=>by
  simp only [qV,Bool.and_eq_true] at h; rw [KB 8 _ _ h.1,T6 h.2]
 | [],_::_,h=>by cases h
 | _::_,[],h=>by cases h
def ovX:Option Value→Option Value→Bool
 | none,none=>true
 | some v,some w=>OK 8 v w
 | _,_=>false
theorem im {a b:Option Value} (h:ovX a b=true):a=b:=by
 cases a <;> cases b <;> first | rfl | (cases h; done) | skip
 rw [KB 8 _ _ h]
def w7:Tr Value→Tr Value→Bool
 | .nil,.nil=>true
 | .node l v r,.node l' v' r'=>ovX v v' && w7 l l' && w7 r r'
 | _,_=>false
theorem JX:∀ {a b:Tr Value},w7 a b=true→a=b
 | .nil,.nil,_=>rfl
 | .node l v r,.node l' v' r',h=>by
  simp only [w7,Bool.and_eq_true] at h; rw [im h.1.1,JX h.1.2,JX h.2]
 | .nil,.node _ _ _,h=>by cases h
 | .node _ _ _,.nil,h=>by cases h
def esX:List MapEntry→List MapEntry→Bool
 | [],[]=>true
 | a::az,b::bs=>OK 8 a.key b.key && OK 8 a.val b.val && Nat.beq a.born b.born && esX az bs
 | _,_=>false
theorem Vo:∀ {a b:List MapEntry},esX a b=true→a=b
 | [],[],_=>rfl
 | ⟨k,v,n⟩::az,⟨k',v',n'⟩::bs,h=>by
  simp only [esX,Bool.and_eq_true] at h; rw [KB 8 _ _ h.1.1.1,KB 8 _ _ h.1.1.2,Nat.eq_of_beq_eq_true h.1.2,Vo h.2]
 | [],_::_,h=>by cases h
 | _::_,[],h=>by cases h
def lnX:List Nat→List Nat→Bool
 | [],[]=>true
 | a::az,b::bs=>Nat.beq a b && lnX az bs
 | _,_=>false
theorem PO:∀ {a b:List Nat},lnX a b=true→a=b
 | [],[],_=>rfl
 | a::az,b::bs,h=>by
  simp only [lnX,Bool.and_eq_true] at h; rw [Nat.eq_of_beq_eq_true h.1,PO h.2]
 | [],_::_,h=>by cases h
 | _::_,[],h=>by cases h
def stX:LoopState→LoopState→Bool
 | .ready,.ready | .busy,.busy | .done,.done | .exhausted,.exhausted=>true
 | _,_=>false
theorem iq {a b:LoopState} (h:stX a b=true):a=b:=by cases a <;> cases b <;> first | rfl | cases h
def pdX:Option Code→Option Code→Bool
 | none,none=>true
 | some .ret,some .ret=>true
 | some (.exit i),some (.exit j)=>Nat.beq i j
 | _,_=>false
theorem ir {a b:Option Code} (h:pdX a b=true):a=b:=by
 unfold pdX at h; split at h <;> first | rfl | (cases h; done) | skip
 rw [Nat.eq_of_beq_eq_true h]
def oX:As→As→Option (List (Code × Code))
 | .cells c n z e,.cells c' n' z' e'=>cond (Nat.beq n n' && Nat.beq e e' && qV z.toList z'.toList && w7 c c') (some []) none
 | .map es k,.map By k'=>cond (Nat.beq k k' && esX es By) (some []) none
 | .iter m s l t,.iter m' s' l' t'=>cond (qU m m' && Nat.beq s s' && lnX l l' && Nat.beq t t') (some []) none
 | .loop s p f t n q a b d,.loop s' p' f' t' n' q' a' b' d'=>cond (stX s s' && pdX p p' && Nat.beq f f' && w7 t t' && Nat.beq n n' && lnX q.toList q'.toList && Nat.beq d d') (some [(a,a'),(b,b')]) none
 | .deferred,.deferred=>some []
 | .dead,.dead=>some []
 | _,_=>none
theorem nP {a b:As} {l:List (Code × Code)} (h:oX a b=some l) (hl:∀ p,p ∈ l→p.1=p.2):a=b:=by
 unfold oX at h; split at h <;> first | rfl | (cases h; done) | skip
 all_goals
  rw [cond_eq_ite] at h
  split at h
  ·rename_i hc; simp only [Bool.and_eq_true] at hc
   first
    | (obtain ⟨⟨⟨h1,h2⟩,h3⟩,h4⟩:=hc; rw [Nat.eq_of_beq_eq_true h1,Nat.eq_of_beq_eq_true h2,Array.ext' (T6 h3),JX h4])
    | (obtain ⟨h1,h2⟩:=hc; rw [Nat.eq_of_beq_eq_true h1,Vo h2])
    | (obtain ⟨⟨⟨h1,h2⟩,h3⟩,h4⟩:=hc; rw [M8 h1,Nat.eq_of_beq_eq_true h2,PO h3,Nat.eq_of_beq_eq_true h4])
    | (
      obtain ⟨⟨⟨⟨⟨⟨h1,h2⟩,h3⟩,h4⟩,h5⟩,h6⟩,h7⟩:=hc
      cases h
      have e1:=hl _ (List.mem_cons_self ..); have e2:=hl _ (List.mem_cons_of_mem _ (List.mem_cons_self ..)); simp only at e1 e2
      rw [iq h1,ir h2,Nat.eq_of_beq_eq_true h3,JX h4,Nat.eq_of_beq_eq_true h5,Array.ext' (PO h6),Nat.eq_of_beq_eq_true h7,e1,e2])
  ·cases h
def ooX:Option As→Option As→Option (List (Code × Code))
 | none,none=>some []
 | some a,some b=>oX a b
 | _,_=>none
def thX:Tr As→Tr As→Option (List (Code × Code))
 | .nil,.nil=>some []
 | .node l v r,.node l' v' r'=>match ooX v v' with
  | some x=>match thX l l' with
   | some y=>match thX r r' with
    | some z=>some (x++(y++z))
    | none=>none
   | none=>none
  | none=>none
 | _,_=>none
theorem PQ:∀ {a b:Tr As} {l:List (Code × Code)},thX a b=some l→(∀ p,p ∈ l→p.1=p.2)→a=b
 | .nil,.nil,_,_,_=>rfl
 | .node l v r,.node l' v' r',m,h,hm=>by
  simp only [thX] at h
  split at h
  ·rename_i x hx
   split at h
   ·rename_i y hy
    split at h
    ·rename_i z hz
     cases h
     have e1:=PQ hy fun p hp=>hm p (List.mem_append_right _ (List.mem_append_left _ hp)); have e2:=PQ hz fun p hp=>hm p (List.mem_append_right _ (List.mem_append_right _ hp))
     have e3:v=v':=by
      cases v <;> cases v' <;> first | rfl | (cases hx; done) | skip
      rw [nP hx fun p hp=>hm p (List.mem_append_left _ hp)]
     rw [e1,e2,e3]
    ·cases h
   ·cases h
  ·cases h
 | .nil,.node _ _ _,_,h,_=>by cases h
 | .node _ _ _,.nil,_,h,_=>by cases h
def jP (o:Jb) (A:AI) (W:CW):Option (List (Code × Code)):=match o with
 | some [(.normal,a,V)]=>cond (w7 a.t A.t && Nat.beq a.nt A.nt && a.defers.isEmpty && A.defers.isEmpty && Nat.beq V.sz W.sz) (thX V.h W.h) none
 | _=>none
def T7 (l:List Code):List (Code × Code):=l.map fun c=>(c,c)
theorem D_ {o:Jb} {A:AI} {W:CW} {l:List Code} (h:jP o A W=some (T7 l)):o=some [(.normal,A,W)]:=by
 unfold jP at h
 split at h
 ·rename_i a V; rw [cond_eq_ite] at h
  split at h
  ·rename_i hc; simp only [Bool.and_eq_true,List.isEmpty_iff] at hc; obtain ⟨⟨⟨⟨h1,h2⟩,h3⟩,h4⟩,h5⟩:=hc
   have e:=PQ h fun p hp=>by
    obtain ⟨c,_,rfl⟩:=List.mem_map.1 hp; rfl
   obtain ⟨t,n,d⟩:=a; obtain ⟨t',n',d'⟩:=A; obtain ⟨g,s⟩:=V; obtain ⟨g',s'⟩:=W; simp only at h1 h2 h3 h4 h5 e; rw [JX h1,Nat.eq_of_beq_eq_true h2,h3,h4,Nat.eq_of_beq_eq_true h5,e]
  ·cases h
 ·cases h
def T8 (P:Program) (fn:Func) (o:Jb):Bool:=match o with
 | some [(.ret,a,W)]=>a.defers.isEmpty && match FG P fn a W with
  | some (.bool b)=>b
  | _=>false
 | _=>false
theorem Uk {P:Program} {L:List FuncId} {f:FuncId} {fn:Func} {i n:Nat} {a:AI} {W:CW} (hL:Be L f=true) (og:Be L (f+1000000)=false) (kY:Be L (f+2000000)=false) (hf:P.funcs[f]?=some fn) (hb:fn.body.isSome=true)
  (EA:T8 P fn (BQ (Z4 P L n) none f ((C8 P f).drop i) a W)=true) (Gp:∀ x a' W',Hr P L f i a W x a' W'→Hr P L f 0 (F6 fn []) (W0 0) x a' W'):∃ n,LX ((CM P L n).call f [] (W0 0))=true:=by
 unfold T8 at EA
 split at EA
 ·rename_i a1 W1 ho; simp only [Bool.and_eq_true,List.isEmpty_iff] at EA; obtain ⟨h1,h2⟩:=EA
  split at h2
  ·rename_i b hv; subst h2; obtain ⟨m,hm⟩:=Hr.call hL og kY hf hb (Nat.ble_eq_true_of_le (Nat.zero_le _)) (Gp _ _ _ (Hr.end n ho)) h1 hv; exact ⟨m,by rw [hm]; rfl⟩
  ·cases h2
 ·cases EA
end Go.Ce
