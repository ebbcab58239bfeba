/- A part of the proof: Gb. -/
import Derived.Test.YtmknebebbbjdlaaGreatW02
set_option linter.unusedSectionVars false
set_option linter.unusedVariables false
set_option linter.unusedSimpArgs false
set_option linter.defProp false
set_option maxRecDepth 200000
namespace Go.Ce
def yn:Option Nat→Option Nat→Bool
 | none,none=>true
 | some i,some j=>Nat.beq i j
 | _,_=>false
theorem PY {a b:Option Nat} (h:yn a b=true):a=b:=by
 cases a <;> cases b <;> first | rfl | (cases h; done) | skip
 rw [Nat.eq_of_beq_eq_true h]
def addrEq (a b:Addr):Bool:=Nat.beq a.block b.block && Nat.beq a.off b.off && yn a.spot b.spot
theorem R7 {a b:Addr} (h:addrEq a b=true):a=b:=by
 simp only [addrEq,Bool.and_eq_true] at h; obtain ⟨a1,a2,a3⟩:=a; obtain ⟨b1,b2,b3⟩:=b; have h1:=Nat.eq_of_beq_eq_true h.1.1; have h2:=Nat.eq_of_beq_eq_true h.1.2; have h3:=PY h.2; simp only at h1 h2 h3; rw [h1,h2,h3]
def R8:Nat→Value→Value→Bool
 | 0,_,_=>false
 | n+1,v,w=>match v,w with
  | .bool a,.bool b=>a == b
  | .int j a,.int k b=>decide (j=k) && a == b
  | .pointer none,.pointer none=>true
  | .pointer (some a),.pointer (some b)=>addrEq a b
  | .slice none n c,.slice none m d=>Nat.beq n m && Nat.beq c d
  | .slice (some a) n c,.slice (some b) m d=>addrEq a b && (Nat.beq n m && Nat.beq c d)
  | .map a,.map b=>yn a b
  | .nilIface,.nilIface=>true
  | .nilFunc,.nilFunc=>true
  | .string a,.string b=>YK (sb a) (sb b)
  | .iface t v,.iface u w=>Nat.beq t u && R8 n v w
  | .agg x,.agg y=>Nat.beq x.size y.size && (x.toList.zip y.toList).all fun (v,w)=>R8 n v w
  | .tuple x,.tuple y=>Nat.beq x.size y.size && (x.toList.zip y.toList).all fun (v,w)=>R8 n v w
  | .func (.func f) x x',.func (.func g) y y'=>Nat.beq f g && (Nat.beq x.size y.size && (x.toList.zip y.toList).all fun (v,w)=>R8 n v w) && (Nat.beq x'.size y'.size && (x'.toList.zip y'.toList).all fun (v,w)=>R8 n v w)
  | .func (.yield f) x x',.func (.yield g) y y'=>Nat.beq f g && (Nat.beq x.size y.size && (x.toList.zip y.toList).all fun (v,w)=>R8 n v w) && (Nat.beq x'.size y'.size && (x'.toList.zip y'.toList).all fun (v,w)=>R8 n v w)
  | .complex .f32 a b,.complex .f32 c d=>Nat.beq a c && Nat.beq b d
  | _,_=>false
theorem Md:∀ (n:Nat) (v w:Value),R8 n v w=true→v=w:=by
 intro n
 induction n with
 | zero=>intro v w h; simp [R8] at h
 | succ n ih =>
  intro v w h; unfold R8 at h; split at h <;> first | (exact (Bool.false_ne_true h).elim) | skip
  all_goals (try simp only [Bool.and_eq_true] at h)
  all_goals first
   | rfl
   | (have:=eq_of_beq h; subst this; rfl)
   | (have:=M6 h; subst this; rfl)
   | (have:=PY h; subst this; rfl)
   | (have:=R7 h; subst this; rfl)
   | (obtain ⟨h1,h2⟩:=h; have h1:=of_decide_eq_true h1; have h2:=eq_of_beq h2; subst h1; subst h2; rfl)
   | (obtain ⟨h1,h2⟩:=h; have h1:=Nat.eq_of_beq_eq_true h1; have h2:=Nat.eq_of_beq_eq_true h2; subst h1; subst h2; rfl)
   | (obtain ⟨h1,h2,h3⟩:=h; have h1:=R7 h1; have h2:=Nat.eq_of_beq_eq_true h2; have h3:=Nat.eq_of_beq_eq_true h3; subst h1; subst h2; subst h3; rfl)
   | (obtain ⟨h1,h2⟩:=h; have h1:=Nat.eq_of_beq_eq_true h1; have h2:=ih _ _ h2; subst h1; subst h2; rfl)
   | (obtain ⟨h1,h2⟩:=h; rw [KL h1 h2 (fun v w=>ih v w)])
   | (obtain ⟨⟨h1,h2,h3⟩,h4,h5⟩:=h; have h1:=Nat.eq_of_beq_eq_true h1; rw [h1,KL h2 h3 (fun v w=>ih v w),KL h4 h5 (fun v w=>ih v w)])
def yo:List Value→List Value→Bool
 | [],[]=>true
 | v::vs,w::ws=>R8 8 v w && yo vs ws
 | _,_=>false
theorem X8:∀ {vs ws:List Value},yo vs ws=true→vs=ws
 | [],[],_=>rfl
 | v::vs,w::ws,h=>by
  simp only [yo,Bool.and_eq_true] at h; rw [Md 8 _ _ h.1,X8 h.2]
 | [],_::_,h=>by cases h
 | _::_,[],h=>by cases h
def ovX:Option Value→Option Value→Bool
 | none,none=>true
 | some v,some w=>R8 8 v w
 | _,_=>false
theorem qg {a b:Option Value} (h:ovX a b=true):a=b:=by
 cases a <;> cases b <;> first | rfl | (cases h; done) | skip
 rw [Md 8 _ _ h]
def tvX:Tr Value→Tr Value→Bool
 | .nil,.nil=>true
 | .node l v r,.node l' v' r'=>ovX v v' && tvX l l' && tvX r r'
 | _,_=>false
theorem L4:∀ {a b:Tr Value},tvX a b=true→a=b
 | .nil,.nil,_=>rfl
 | .node l v r,.node l' v' r',h=>by
  simp only [tvX,Bool.and_eq_true] at h; rw [qg h.1.1,L4 h.1.2,L4 h.2]
 | .nil,.node _ _ _,h=>by cases h
 | .node _ _ _,.nil,h=>by cases h
def esX:List MapEntry→List MapEntry→Bool
 | [],[]=>true
 | a::az,b::bs=>R8 8 a.key b.key && R8 8 a.val b.val && Nat.beq a.born b.born && esX az bs
 | _,_=>false
theorem aD:∀ {a b:List MapEntry},esX a b=true→a=b
 | [],[],_=>rfl
 | ⟨k,v,n⟩::az,⟨k',v',n'⟩::bs,h=>by
  simp only [esX,Bool.and_eq_true] at h; rw [Md 8 _ _ h.1.1.1,Md 8 _ _ h.1.1.2,Nat.eq_of_beq_eq_true h.1.2,aD h.2]
 | [],_::_,h=>by cases h
 | _::_,[],h=>by cases h
def lnX:List Nat→List Nat→Bool
 | [],[]=>true
 | a::az,b::bs=>Nat.beq a b && lnX az bs
 | _,_=>false
theorem Tj:∀ {a b:List Nat},lnX a b=true→a=b
 | [],[],_=>rfl
 | a::az,b::bs,h=>by
  simp only [lnX,Bool.and_eq_true] at h; rw [Nat.eq_of_beq_eq_true h.1,Tj h.2]
 | [],_::_,h=>by cases h
 | _::_,[],h=>by cases h
def stX:LoopState→LoopState→Bool
 | .ready,.ready | .busy,.busy | .done,.done | .exhausted,.exhausted=>true
 | _,_=>false
theorem qh {a b:LoopState} (h:stX a b=true):a=b:=by cases a <;> cases b <;> first | rfl | cases h
def pdX:Option Code→Option Code→Bool
 | none,none=>true
 | some .ret,some .ret=>true
 | some (.exit i),some (.exit j)=>Nat.beq i j
 | _,_=>false
theorem qi {a b:Option Code} (h:pdX a b=true):a=b:=by
 unfold pdX at h; split at h <;> first | rfl | (cases h; done) | skip
 rw [Nat.eq_of_beq_eq_true h]
def oX:Az→Az→Option (List (Code × Code))
 | .cells c n z e,.cells c' n' z' e'=>cond (Nat.beq n n' && Nat.beq e e' && yo z.toList z'.toList && tvX c c') (some []) none
 | .map es k,.map C3 k'=>cond (Nat.beq k k' && esX es C3) (some []) none
 | .iter m s l t,.iter m' s' l' t'=>cond (yn m m' && Nat.beq s s' && lnX l l' && Nat.beq t t') (some []) none
 | .loop s p f t n q a b d,.loop s' p' f' t' n' q' a' b' d'=>cond (stX s s' && pdX p p' && Nat.beq f f' && tvX t t' && Nat.beq n n' && lnX q.toList q'.toList && Nat.beq d d') (some [(a,a'),(b,b')]) none
 | .deferred,.deferred=>some []
 | .dead,.dead=>some []
 | _,_=>none
theorem vu {a b:Az} {l:List (Code × Code)} (h:oX a b=some l) (hl:∀ p,p ∈ l→p.1=p.2):a=b:=by
 unfold oX at h; split at h <;> first | rfl | (cases h; done) | skip
 all_goals
  rw [cond_eq_ite] at h
  split at h
  ·rename_i hc; simp only [Bool.and_eq_true] at hc
   first
    | (obtain ⟨⟨⟨h1,h2⟩,h3⟩,h4⟩:=hc; rw [Nat.eq_of_beq_eq_true h1,Nat.eq_of_beq_eq_true h2,Array.ext' (X8 h3),L4 h4])
    | (obtain ⟨h1,h2⟩:=hc; rw [Nat.eq_of_beq_eq_true h1,aD h2])
    | (obtain ⟨⟨⟨h1,h2⟩,h3⟩,h4⟩:=hc; rw [PY h1,Nat.eq_of_beq_eq_true h2,Tj h3,Nat.eq_of_beq_eq_true h4])
    | (
      obtain ⟨⟨⟨⟨⟨⟨h1,h2⟩,h3⟩,h4⟩,h5⟩,h6⟩,h7⟩:=hc
      cases h
      have e1:=hl _ (List.mem_cons_self ..); have e2:=hl _ (List.mem_cons_of_mem _ (List.mem_cons_self ..)); simp only at e1 e2
      rw [qh h1,qi h2,Nat.eq_of_beq_eq_true h3,L4 h4,Nat.eq_of_beq_eq_true h5,Array.ext' (Tj h6),Nat.eq_of_beq_eq_true h7,e1,e2])
  ·cases h
def ooX:Option Az→Option Az→Option (List (Code × Code))
 | none,none=>some []
 | some a,some b=>oX a b
 | _,_=>none
def thX:Tr Az→Tr Az→Option (List (Code × Code))
 | .nil,.nil=>some []
 | .node l v r,.node l' v' r'=>match ooX v v' with
  | some x=>match thX l l' with
   | some y=>match thX r r' with
    | some z=>some (x++(y++z))
    | none=>none
   | none=>none
  | none=>none
 | _,_=>none
theorem Tk:∀ {a b:Tr Az} {l:List (Code × Code)},thX a b=some l→(∀ p,p ∈ l→p.1=p.2)→a=b
 | .nil,.nil,_,_,_=>rfl
 | .node l v r,.node l' v' r',m,h,hm=>by
  simp only [thX] at h
  split at h
  ·rename_i x hx
   split at h
   ·rename_i y hy
    split at h
    ·rename_i z hz
     cases h
     have e1:=Tk hy fun p hp=>hm p (List.mem_append_right _ (List.mem_append_left _ hp)); have e2:=Tk hz fun p hp=>hm p (List.mem_append_right _ (List.mem_append_right _ hp))
     have e3:v=v':=by
      cases v <;> cases v' <;> first | rfl | (cases hx; done) | skip
      rw [vu hx fun p hp=>hm p (List.mem_append_left _ hp)]
     rw [e1,e2,e3]
    ·cases h
   ·cases h
  ·cases h
 | .nil,.node _ _ _,_,h,_=>by cases h
 | .node _ _ _,.nil,_,h,_=>by cases h
def rK (o:L8) (A:AK) (W:CW):Option (List (Code × Code)):=match o with
 | some [(.normal,a,V)]=>cond (tvX a.t A.t && Nat.beq a.nt A.nt && a.defers.isEmpty && A.defers.isEmpty && Nat.beq V.sz W.sz) (thX V.h W.h) none
 | _=>none
def X9 (l:List Code):List (Code × Code):=l.map fun c=>(c,c)
theorem Fi {o:L8} {A:AK} {W:CW} {l:List Code} (h:rK o A W=some (X9 l)):o=some [(.normal,A,W)]:=by
 unfold rK at h
 split at h
 ·rename_i a V; rw [cond_eq_ite] at h
  split at h
  ·rename_i hc; simp only [Bool.and_eq_true,List.isEmpty_iff] at hc; obtain ⟨⟨⟨⟨h1,h2⟩,h3⟩,h4⟩,h5⟩:=hc
   have e:=Tk h fun p hp=>by
    obtain ⟨c,_,rfl⟩:=List.mem_map.1 hp; rfl
   obtain ⟨t,n,d⟩:=a; obtain ⟨t',n',d'⟩:=A; obtain ⟨g,s⟩:=V; obtain ⟨g',s'⟩:=W; simp only at h1 h2 h3 h4 h5 e; rw [L4 h1,Nat.eq_of_beq_eq_true h2,h3,h4,Nat.eq_of_beq_eq_true h5,e]
  ·cases h
 ·cases h
def X' (P:Program) (fn:Func) (o:L8):Bool:=match o with
 | some [(.ret,a,W)]=>a.defers.isEmpty && match Gg P fn a W with
  | some (.bool b)=>b
  | _=>false
 | _=>false
theorem Yl {P:Program} {L:List FuncId} {f:FuncId} {fn:Func} {i n:Nat} {a:AK} {W:CW} (hL:CE L f=true) (s9:CE L (f+1000000)=false) (xE:CE L (f+2000000)=false) (hf:P.funcs[f]?=some fn) (hb:fn.body.isSome=true)
  (ER:X' P fn (Bq (gq P L n) none f ((Dk P f).drop i) a W)=true) (JS:∀ x a' W',Jj P L f i a W x a' W'→Jj P L f 0 (H' fn []) (W0 0) x a' W'):∃ n,Nu ((Du P L n).call f [] (W0 0))=true:=by
 unfold X' at ER
 split at ER
 ·rename_i a1 W1 ho; simp only [Bool.and_eq_true,List.isEmpty_iff] at ER; obtain ⟨h1,h2⟩:=ER
  split at h2
  ·rename_i b hv; subst h2; obtain ⟨m,hm⟩:=Jj.call hL s9 xE hf hb (Nat.ble_eq_true_of_le (Nat.zero_le _)) (JS _ _ _ (Jj.end n ho)) h1 hv; exact ⟨m,by rw [hm]; rfl⟩
  ·cases h2
 ·cases ER
end Go.Ce
