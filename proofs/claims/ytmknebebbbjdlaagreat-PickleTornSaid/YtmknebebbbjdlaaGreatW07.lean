/- A part of the proof: Gb. -/
import Derived.Test.YtmknebebbbjdlaaGreatW02
set_option linter.unusedSectionVars false
set_option linter.unusedVariables false
set_option linter.unusedSimpArgs false
set_option maxRecDepth 200000
namespace Go.Ce
def onEq:Option Nat→Option Nat→Bool
 | none,none=>true
 | some i,some j=>Nat.beq i j
 | _,_=>false
theorem zGX {a b:Option Nat} (h:onEq a b=true):a=b:=by
 cases a <;> cases b <;> first | rfl | (cases h; done) | skip
 rw [Nat.eq_of_beq_eq_true h]
def addrEq (a b:Addr):Bool:=Nat.beq a.block b.block && Nat.beq a.off b.off && onEq a.spot b.spot
theorem zG8 {a b:Addr} (h:addrEq a b=true):a=b:=by
 simp only [addrEq,Bool.and_eq_true] at h
 obtain ⟨a1,a2,a3⟩:=a
 obtain ⟨b1,b2,b3⟩:=b
 have h1:=Nat.eq_of_beq_eq_true h.1.1
 have h2:=Nat.eq_of_beq_eq_true h.1.2
 have h3:=zGX h.2
 simp only at h1 h2 h3
 rw [h1,h2,h3]
def veqX:Nat→Value→Value→Bool
 | 0,_,_=>false
 | n+1,v,w=>match v,w with
  | .bool a,.bool b=>a == b
  | .int j a,.int k b=>decide (j=k) && a == b
  | .pointer none,.pointer none=>true
  | .pointer (some a),.pointer (some b)=>addrEq a b
  | .slice none n c,.slice none m d=>Nat.beq n m && Nat.beq c d
  | .slice (some a) n c,.slice (some b) m d=>addrEq a b && (Nat.beq n m && Nat.beq c d)
  | .map a,.map b=>onEq a b
  | .nilIface,.nilIface=>true
  | .nilFunc,.nilFunc=>true
  | .string a,.string b=>bEq (sb a) (sb b)
  | .iface t v,.iface u w=>Nat.beq t u && veqX n v w
  | .agg x,.agg y=>Nat.beq x.size y.size && (x.toList.zip y.toList).all fun (v,w)=>veqX n v w
  | .tuple x,.tuple y=>Nat.beq x.size y.size && (x.toList.zip y.toList).all fun (v,w)=>veqX n v w
  | .func (.func f) x x',.func (.func g) y y'=>Nat.beq f g && (Nat.beq x.size y.size && (x.toList.zip y.toList).all fun (v,w)=>veqX n v w) && (Nat.beq x'.size y'.size && (x'.toList.zip y'.toList).all fun (v,w)=>veqX n v w)
  | .func (.yield f) x x',.func (.yield g) y y'=>Nat.beq f g && (Nat.beq x.size y.size && (x.toList.zip y.toList).all fun (v,w)=>veqX n v w) && (Nat.beq x'.size y'.size && (x'.toList.zip y'.toList).all fun (v,w)=>veqX n v w)
  | .complex .f32 a b,.complex .f32 c d=>Nat.beq a c && Nat.beq b d
  | _,_=>false
theorem zEq:∀ (n:Nat) (v w:Value),veqX n v w=true→v=w:=by
 intro n
 induction n with
 | zero=>intro v w h; simp [veqX] at h
 | succ n ih =>
  intro v w h
  unfold veqX at h
  split at h <;> first | (exact (Bool.false_ne_true h).elim) | skip
  all_goals (try simp only [Bool.and_eq_true] at h)
  all_goals first
   | rfl
   | (have:=eq_of_beq h; subst this; rfl)
   | (have:=zGC h; subst this; rfl)
   | (have:=zGX h; subst this; rfl)
   | (have:=zG8 h; subst this; rfl)
   | (obtain ⟨h1,h2⟩:=h; have h1:=of_decide_eq_true h1; have h2:=eq_of_beq h2; subst h1; subst h2; rfl)
   | (obtain ⟨h1,h2⟩:=h; have h1:=Nat.eq_of_beq_eq_true h1; have h2:=Nat.eq_of_beq_eq_true h2; subst h1; subst h2; rfl)
   | (obtain ⟨h1,h2,h3⟩:=h; have h1:=zG8 h1; have h2:=Nat.eq_of_beq_eq_true h2; have h3:=Nat.eq_of_beq_eq_true h3; subst h1; subst h2; subst h3; rfl)
   | (obtain ⟨h1,h2⟩:=h; have h1:=Nat.eq_of_beq_eq_true h1; have h2:=ih _ _ h2; subst h1; subst h2; rfl)
   | (obtain ⟨h1,h2⟩:=h; rw [zEp h1 h2 (fun v w=>ih v w)])
   | (obtain ⟨⟨h1,h2,h3⟩,h4,h5⟩:=h; have h1:=Nat.eq_of_beq_eq_true h1; rw [h1,zEp h2 h3 (fun v w=>ih v w),zEp h4 h5 (fun v w=>ih v w)])
def lveq:List Value→List Value→Bool
 | [],[]=>true
 | v::vs,w::ws=>veqX 8 v w && lveq vs ws
 | _,_=>false
theorem zIx:∀ {vs ws:List Value},lveq vs ws=true→vs=ws
 | [],[],_=>rfl
 | v::vs,w::ws,h=>by
  simp only [lveq,Bool.and_eq_true] at h
  rw [zEq 8 _ _ h.1,zIx h.2]
 | [],_::_,h=>by cases h
 | _::_,[],h=>by cases h
def ovX:Option Value→Option Value→Bool
 | none,none=>true
 | some v,some w=>veqX 8 v w
 | _,_=>false
theorem ovX_sound {a b:Option Value} (h:ovX a b=true):a=b:=by
 cases a <;> cases b <;> first | rfl | (cases h; done) | skip
 rw [zEq 8 _ _ h]
def tvX:Tr Value→Tr Value→Bool
 | .nil,.nil=>true
 | .node l v r,.node l' v' r'=>ovX v v' && tvX l l' && tvX r r'
 | _,_=>false
theorem zEF:∀ {a b:Tr Value},tvX a b=true→a=b
 | .nil,.nil,_=>rfl
 | .node l v r,.node l' v' r',h=>by
  simp only [tvX,Bool.and_eq_true] at h
  rw [ovX_sound h.1.1,zEF h.1.2,zEF h.2]
 | .nil,.node _ _ _,h=>by cases h
 | .node _ _ _,.nil,h=>by cases h
def esX:List MapEntry→List MapEntry→Bool
 | [],[]=>true
 | a::az,b::bs=>veqX 8 a.key b.key && veqX 8 a.val b.val && Nat.beq a.born b.born && esX az bs
 | _,_=>false
theorem esX_sound:∀ {a b:List MapEntry},esX a b=true→a=b
 | [],[],_=>rfl
 | ⟨k,v,n⟩::az,⟨k',v',n'⟩::bs,h=>by
  simp only [esX,Bool.and_eq_true] at h
  rw [zEq 8 _ _ h.1.1.1,zEq 8 _ _ h.1.1.2,Nat.eq_of_beq_eq_true h.1.2,esX_sound h.2]
 | [],_::_,h=>by cases h
 | _::_,[],h=>by cases h
def lnX:List Nat→List Nat→Bool
 | [],[]=>true
 | a::az,b::bs=>Nat.beq a b && lnX az bs
 | _,_=>false
theorem zHr:∀ {a b:List Nat},lnX a b=true→a=b
 | [],[],_=>rfl
 | a::az,b::bs,h=>by
  simp only [lnX,Bool.and_eq_true] at h
  rw [Nat.eq_of_beq_eq_true h.1,zHr h.2]
 | [],_::_,h=>by cases h
 | _::_,[],h=>by cases h
def stX:LoopState→LoopState→Bool
 | .ready,.ready | .busy,.busy | .done,.done | .exhausted,.exhausted=>true
 | _,_=>false
theorem stX_sound {a b:LoopState} (h:stX a b=true):a=b:=by cases a <;> cases b <;> first | rfl | cases h
def pdX:Option Code→Option Code→Bool
 | none,none=>true
 | some .ret,some .ret=>true
 | some (.exit i),some (.exit j)=>Nat.beq i j
 | _,_=>false
theorem pdX_sound {a b:Option Code} (h:pdX a b=true):a=b:=by
 unfold pdX at h
 split at h <;> first | rfl | (cases h; done) | skip
 rw [Nat.eq_of_beq_eq_true h]
def oX:CObj→CObj→Option (List (Code × Code))
 | .cells c n z e,.cells c' n' z' e'=>cond (Nat.beq n n' && Nat.beq e e' && lveq z.toList z'.toList && tvX c c') (some []) none
 | .map es k,.map es' k'=>cond (Nat.beq k k' && esX es es') (some []) none
 | .iter m s l t,.iter m' s' l' t'=>cond (onEq m m' && Nat.beq s s' && lnX l l' && Nat.beq t t') (some []) none
 | .loop s p f t n q a b d,.loop s' p' f' t' n' q' a' b' d'=>cond (stX s s' && pdX p p' && Nat.beq f f' && tvX t t' && Nat.beq n n' && lnX q.toList q'.toList && Nat.beq d d') (some [(a,a'),(b,b')]) none
 | .deferred,.deferred=>some []
 | .dead,.dead=>some []
 | _,_=>none
theorem oX_sound {a b:CObj} {l:List (Code × Code)} (h:oX a b=some l) (hl:∀ p,p ∈ l→p.1=p.2):a=b:=by
 unfold oX at h
 split at h <;> first | rfl | (cases h; done) | skip
 all_goals
  rw [cond_eq_ite] at h
  split at h
  ·rename_i hc
   simp only [Bool.and_eq_true] at hc
   first
    | (obtain ⟨⟨⟨h1,h2⟩,h3⟩,h4⟩:=hc; rw [Nat.eq_of_beq_eq_true h1,Nat.eq_of_beq_eq_true h2,Array.ext' (zIx h3),zEF h4])
    | (obtain ⟨h1,h2⟩:=hc; rw [Nat.eq_of_beq_eq_true h1,esX_sound h2])
    | (obtain ⟨⟨⟨h1,h2⟩,h3⟩,h4⟩:=hc; rw [zGX h1,Nat.eq_of_beq_eq_true h2,zHr h3,Nat.eq_of_beq_eq_true h4])
    | (
      obtain ⟨⟨⟨⟨⟨⟨h1,h2⟩,h3⟩,h4⟩,h5⟩,h6⟩,h7⟩:=hc
      cases h
      have e1:=hl _ (List.mem_cons_self ..)
      have e2:=hl _ (List.mem_cons_of_mem _ (List.mem_cons_self ..))
      simp only at e1 e2
      rw [stX_sound h1,pdX_sound h2,Nat.eq_of_beq_eq_true h3,zEF h4,Nat.eq_of_beq_eq_true h5,Array.ext' (zHr h6),Nat.eq_of_beq_eq_true h7,e1,e2])
  ·cases h
def ooX:Option CObj→Option CObj→Option (List (Code × Code))
 | none,none=>some []
 | some a,some b=>oX a b
 | _,_=>none
def thX:Tr CObj→Tr CObj→Option (List (Code × Code))
 | .nil,.nil=>some []
 | .node l v r,.node l' v' r'=>match ooX v v' with
  | some x=>match thX l l' with
   | some y=>match thX r r' with
    | some z=>some (x++(y++z))
    | none=>none
   | none=>none
  | none=>none
 | _,_=>none
theorem zHg:∀ {a b:Tr CObj} {l:List (Code × Code)},thX a b=some l→(∀ p,p ∈ l→p.1=p.2)→a=b
 | .nil,.nil,_,_,_=>rfl
 | .node l v r,.node l' v' r',m,h,hm=>by
  simp only [thX] at h
  split at h
  ·rename_i x hx
   split at h
   ·rename_i y hy
    split at h
    ·rename_i z hz
     cases h
     have e1:=zHg hy fun p hp=>hm p (List.mem_append_right _ (List.mem_append_left _ hp))
     have e2:=zHg hz fun p hp=>hm p (List.mem_append_right _ (List.mem_append_right _ hp))
     have e3:v=v':=by
      cases v <;> cases v' <;> first | rfl | (cases hx; done) | skip
      rw [oX_sound hx fun p hp=>hm p (List.mem_append_left _ hp)]
     rw [e1,e2,e3]
    ·cases h
   ·cases h
  ·cases h
 | .nil,.node _ _ _,_,h,_=>by cases h
 | .node _ _ _,.nil,_,h,_=>by cases h
def chk (o:Outs) (A:CAct) (W:CW):Option (List (Code × Code)):=match o with
 | some [(.normal,a,V)]=>cond (tvX a.t A.t && Nat.beq a.nt A.nt && a.defers.isEmpty && A.defers.isEmpty && Nat.beq V.sz W.sz) (thX V.h W.h) none
 | _=>none
def dupl (l:List Code):List (Code × Code):=l.map fun c=>(c,c)
theorem zB4 {o:Outs} {A:CAct} {W:CW} {l:List Code} (h:chk o A W=some (dupl l)):o=some [(.normal,A,W)]:=by
 unfold chk at h
 split at h
 ·rename_i a V
  rw [cond_eq_ite] at h
  split at h
  ·rename_i hc
   simp only [Bool.and_eq_true,List.isEmpty_iff] at hc
   obtain ⟨⟨⟨⟨h1,h2⟩,h3⟩,h4⟩,h5⟩:=hc
   have e:=zHg h fun p hp=>by
    obtain ⟨c,_,rfl⟩:=List.mem_map.1 hp
    rfl
   obtain ⟨t,n,d⟩:=a
   obtain ⟨t',n',d'⟩:=A
   obtain ⟨g,s⟩:=V
   obtain ⟨g',s'⟩:=W
   simp only at h1 h2 h3 h4 h5 e
   rw [zEF h1,Nat.eq_of_beq_eq_true h2,h3,h4,Nat.eq_of_beq_eq_true h5,e]
  ·cases h
 ·cases h
def endsTrue (P:Program) (fn:Func) (o:Outs):Bool:=match o with
 | some [(.ret,a,W)]=>a.defers.isEmpty && match zCZ P fn a W with
  | some (.bool b)=>b
  | _=>false
 | _=>false
theorem closed_pieces {P:Program} {L:List FuncId} {f:FuncId} {fn:Func} {i n:Nat} {a:CAct} {W:CW} (hL:zBv L f=true) (hL2:zBv L (f+1000000)=false) (hL3:zBv L (f+2000000)=false) (hf:P.funcs[f]?=some fn) (hb:fn.body.isSome=true)
  (hend:endsTrue P fn (zAo (evN P L n) none f ((zBZ P f).drop i) a W)=true) (hch:∀ x a' W',FlatAt P L f i a W x a' W'→FlatAt P L f 0 (zDR fn []) (W0 0) x a' W'):∃ n,zGr ((evC P L n).call f [] (W0 0))=true:=by
 unfold endsTrue at hend
 split at hend
 ·rename_i a1 W1 ho
  simp only [Bool.and_eq_true,List.isEmpty_iff] at hend
  obtain ⟨h1,h2⟩:=hend
  split at h2
  ·rename_i b hv
   subst h2
   obtain ⟨m,hm⟩:=FlatAt.call hL hL2 hL3 hf hb (Nat.ble_eq_true_of_le (Nat.zero_le _)) (hch _ _ _ (FlatAt.end n ho)) h1 hv
   exact ⟨m,by rw [hm]; rfl⟩
  ·cases h2
 ·cases hend
end Go.Ce
