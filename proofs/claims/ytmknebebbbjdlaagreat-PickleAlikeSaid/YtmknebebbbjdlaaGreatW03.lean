/- A part of the proof: Hf, Pf, Hg, Pg, Ph, Pi, Pj, Pk, ShA, Hh, Pl, Pm, Pn, Po, Pp, Pq, Pr, ShB, Ps, Pt, Pu, Pv, Pw, Px, Py, Pz, ShC, Qa, Qb, Qc, Qd, Qe, Qf, Qg. -/
import Derived.Test.YtmknebebbbjdlaaGreatW02
import Derived.Test.YtmknebebbbjdlaaGreatProg
set_option linter.unusedSectionVars false
set_option linter.unusedVariables false
set_option linter.unusedSimpArgs false
set_option maxRecDepth 200000
namespace Go.Ce
section
variable {P:Program}
def B9 (A:Nat) (v:Value):Prop:=∀ b l c,v=.slice (some b) l c→A≤b.block
theorem B9.nil (A l c:Nat):B9 A (.slice none l c):=fun b l c h=>by cases h
structure Kt (v:Value) (W W':CW):Prop where
 sz:W.sz≤W'.sz
 obj:∀ i,i<W.sz→(∀ b l c,v=.slice (some b) l c→i≠b.block)→W'.obj i=W.obj i
theorem Kt.kp {v:Value} {A W W':CW} (h:Kt v W W') (k:Kp A W) (hv:B9 A.sz v):Kp A W' :=
 ⟨by have:=h.sz; have:=k.sz; omega,fun i hi=>by
  rw [h.obj i (by have:=k.sz; omega) (fun b l c e=>by have:=hv b l c e; omega)]
  exact k.obj i hi⟩
theorem nJ {t el:TypeId} {ts:List TypeId} {n bytes:Nat} {z x:Value} {xs:List Value} (ut:P.underlying t=some (.slice el)) (hs:Db P el=some n) (hz:Gp P el=some z) (lR:z.cells.size=n) (hn:0<n) (tM:(P.info? el).map (·.bytes)=some bytes) (hb:bytes≤1024)
  (wq:∀ W,Vs P t 1 [(0,x)] W=some (.slice (some ⟨W.sz,0,none⟩) 1 1,W.new (.cells (Tr.nil.Ah 0 xs) xs.length #[] el))) (lL:xs.length=n) (mW:xs.all BO=true)
  {W:CW} (ht:Aq W) {v:Value} {cs:List Value} (hv:C8 W el n v cs) (eV:cs.length<900000) {K:Value→Value→CW→Prop}
  (hk:∀ u v1 W1,Kt v W W1→Aq W1→C8 W1 el n v1 (cs++xs)→(∀ A,A≤W.sz→B9 A v1)→K u v1 W1):CZ (Vs P t 1 [(0,x)] W) fun u W1=>CZ (app P (t::t::ts) v u W1) fun v1 W2=>K u v1 W2:=by
 refine JW (wq W) ?_; have hkp:Kp W (W.new (.cells (Tr.nil.Ah 0 xs) xs.length #[] el)):=.new _
 have hB:BF (W.new (.cells (Tr.nil.Ah 0 xs) xs.length #[] el)) W.sz el xs:=⟨_,_,_,by rw [BK,if_pos rfl],rfl,fun k w hw=>by
  rw [C_ _ _ _ (List.getElem?_eq_some_iff.1 hw).1,List.getD_eq_getElem?_getD,hw]; rfl⟩
 have G4:C8 (W.new (.cells (Tr.nil.Ah 0 xs) xs.length #[] el)) el n v cs:=by
  cases hv with
  | nil=>exact .nil
  | some h hl=>exact .some (h.ext ht hkp) hl
 have pc:∀ b l c,v=.slice (some b) l c→b.block<W.sz:=by
  intro b l c e
  cases hv with
  | nil=>cases e
  | some h hl=>cases e; exact h.lt ht
 have hu:HA P t=true:=by unfold HA; rw [ut]
 refine hY (x:=.slice (some ⟨W.sz,0,none⟩) 1 1) (m:=1) (news:=xs) ut hu hs hz lR hn tM hb (ht.new _) G4 rfl (by omega) ?_ mW (by omega) (by omega) fun W1 len hg hl VT=>?_
 ·show Eh (some ⟨W.sz,0,none⟩) (1*n) _=some xs; rw [Nat.one_mul,←lL]; exact QM hB.cells
 ·refine hk _ _ W1 ⟨by rw [hg.sz,F2]; omega,fun i hi EB=>?_⟩ (hg.top (ht.new _)) (.some VT hl) (fun A hA b l c e=>by cases e; rw [F2]; show A≤W.sz+1; omega); rw [hg.obj i (by rw [F2]; omega) EB,BK,if_neg (by omega)]
end
end Go.Ce
namespace Go.Ce
open Go Go.Proofs Go.Proofs.Tryz
theorem A3.imp {α:Type} {n:Nat} {R S:Nat→Nat→α→Prop} {v:Value} {l:List α} (h:A3 n R v l) (hi:∀ b o x,R b o x→S b o x):A3 n S v l:=by
 obtain ⟨a,cap,h1,h2⟩:=h; exact ⟨a,cap,h1,fun i x hx=>by obtain ⟨p,hp,hr⟩:=h2 i x hx; exact ⟨p,hp,hi _ _ _ hr⟩⟩
theorem QL.kp {W W':CW} {b o:Nat} {x:UT} (h:QL W b o x) (ht:Aq W) (k:Kp W W'):QL W' b o x:=⟨k.cell ht h.name,k.cell ht h.kind,h.lo,h.hi⟩
theorem M7.kp {W W':CW} {b o:Nat} {x:Aj} (h:M7 W b o x) (ht:Aq W) (k:Kp W W'):M7 W' b o x :=
 ⟨k.cell ht h.name,k.cell ht h.By,by obtain ⟨v,h1,h2⟩:=h.fields; exact ⟨v,k.cell ht h1,h2.imp fun _ _ _ hr=>hr.kp ht k⟩,k.cell ht h.elem,by obtain ⟨a,l,n,h1⟩:=h.binds; exact ⟨a,l,n,k.cell ht h1⟩,h.lo,h.hi⟩
def EP:ByteArray:=⟨#[]⟩
def Vw (c:List Aj) (i:Nat):Option Nat:=match c[i]? with
 | some x=>match c.findIdx? (fun y=>decide (y.name=x.By)) with
  | some j=>match c[j]? with
   | some y=>if y.elem=0 then some j else none
   | none=>none
  | none=>none
 | none=>none
def Bs (c:List Aj):Nat→Nat→Option (List Nat)
 | f,i=>match c[i]? with
  | none=>none
  | some x=>if x.By=EP then some [i] else match f with
   | 0=>none
   | f+1=>match Vw c i with
    | some j=>(Bs c f j).map (i::·)
    | none=>none
termination_by f=>f
theorem z3:Gp prog 3=some (.int .i64 0):=by kernel_rfl
theorem by3:(prog.info? 3).map (·.bytes)=some 8:=by kernel_rfl
theorem hZ (n:Int) (W:CW):Vs prog 40 1 [(0,.int .i64 n)] W=some (.slice (some ⟨W.sz,0,none⟩) 1 1,W.new (.cells (Tr.nil.Ah 0 [.int .i64 n]) [Value.int .i64 n].length #[] 3)):=by kernel_rfl
theorem Jy {P:Program} {t el rM:TypeId} (u:P.underlying t=some (.slice rM)) {W W':CW} {v:Value} {cs:List Value} (h:C8 W el 1 v cs):A8 P t v W'=some (.int .i64 cs.length):=by
 cases h with
 | nil=>rw [At u]; rfl
 | some hB hl=>rw [At u,hl,Nat.mul_one]
theorem Me {c:List Aj} {f i:Nat} {x:Aj} (hx:c[i]?=some x) (hs:x.By=EP):Bs c f i=some [i]:=by
 unfold Bs; rw [hx]; simp only [hs,if_true]
theorem eX {c:List Aj} {i:Nat} {x:Aj} (hx:c[i]?=some x) (hs:x.By≠EP):Bs c 0 i=none:=by
 unfold Bs; rw [hx]; simp only [hs,if_false]
theorem Ns {c:List Aj} {f i:Nat} {x:Aj} (hx:c[i]?=some x) (hs:x.By≠EP):Bs c (f+1) i=match Vw c i with
  | some j=>(Bs c f j).map (i::·)
  | none=>none:=by
 rw [Bs,hx]; simp only [hs,if_false]
end Go.Ce
namespace Go.Ce
section
variable {α:Type} {W:CW} {b n:Nat} {enc:α→List Value}
theorem UZ (hn:∀ x,(enc x).length=n):∀ (l:List α) (o:Nat),Cells W b o (l.flatMap enc)→∀ i x,l[i]?=some x→Cells W b (o+i*n) (enc x)
 | [],o,_=>fun i x h=>by cases h
 | y::l,o,h=>by
  intro i x hx; rw [List.flatMap_cons] at h
  cases i with
  | zero =>
   cases hx
   intro j v hj; rw [Nat.zero_mul,Nat.add_zero]; exact h j v (by rw [List.getElem?_append_left (List.getElem?_eq_some_iff.1 hj).1]; exact hj)
  | succ i =>
   have:=UZ hn l (o+n) (fun j v hj=>by
    have:=h (n+j) v (by rw [List.getElem?_append_right (by rw [hn]; omega),hn,Nat.add_sub_cancel_left]; exact hj)
    rwa [show o+(n+j)=o+n+j by omega] at this) i x (by simpa using hx)
   rwa [show o+n+i*n=o+(i+1)*n by rw [Nat.succ_mul]; omega] at this
end
section
variable {P:Program}
end
end Go.Ce
namespace Go.Ce
open Go Go.Proofs Go.Proofs.Tryz
theorem C8.kp {W W':CW} {el:TypeId} {n:Nat} {v:Value} {cs:List Value} (h:C8 W el n v cs) (ht:Aq W) (k:Kp W W'):C8 W' el n v cs:=by
 cases h with
 | nil=>exact C8.nil
 | some hB hl=>exact C8.some (hB.ext ht k) hl
theorem Ku (c:List Aj):∀ (f i:Nat) (l:List Nat),Bs c f i=some l→l.length≤f+1∧∀ j,j ∈ l→j<c.length
 | f,i,l,h=>by
  unfold Bs at h
  cases hx:c[i]? with
  | none=>rw [hx] at h; cases h
  | some x =>
   rw [hx] at h; have hi:i<c.length:=(List.getElem?_eq_some_iff.1 hx).1; simp only at h
   split at h
   ·cases h
    exact ⟨by simp,fun j hj=>by rw [List.mem_singleton.1 hj]; exact hi⟩
   ·cases f with
    | zero=>cases h
    | succ f =>
     simp only at h
     split at h
     ·rename_i j hj
      cases hl:Bs c f j with
      | none=>rw [hl] at h; cases h
      | some m =>
       rw [hl] at h
       cases h
       obtain ⟨h1,h2⟩:=Ku c f j m hl
       exact ⟨by simp only [List.length_cons]; omega,fun j hj=>by
        rcases List.mem_cons.1 hj with rfl | hj
        ·exact hi
        ·exact h2 j hj⟩
     ·cases h
termination_by f=>f
def Jz (c:List Aj) (j:Nat):List UT:=match c[j]? with
 | some x=>x.fields
 | none=>[]
def FN (c:List Aj) (i:Nat):List UT:=match Bs c c.length i with
 | some l=>l.reverse.flatMap (Jz c)
 | none=>[]
def jX (f:UT):List Value:=[.string f.name,.int .u8 f.kind]
theorem aT (f:UT):(jX f).length=2:=rfl
theorem z72:Gp prog 72=some (.agg #[.string ⟨#[]⟩,.int .u8 0]):=by kernel_rfl
theorem QL.cells {W:CW} {b o:Nat} {x:UT} (h:QL W b o x):Cells W b o (jX x):=by
 intro j v hj
 match j,hj with
 | 0,hj=>cases hj; exact h.name
 | 1,hj=>cases hj; exact h.kind
theorem nK {c:List Aj} {m:Nat} (hf:∀ x,x ∈ c→x.fields.length≤m) (j:Nat):(Jz c j).length≤m:=by
 unfold Jz
 cases hx:c[j]? with
 | none=>simp
 | some x=>exact hf x (List.mem_of_getElem? hx)
theorem aU {c:List Aj} {m:Nat} (hf:∀ x,x ∈ c→x.fields.length≤m):∀ l:List Nat,((l.flatMap (Jz c)).flatMap jX).length≤l.length*(2*m)
 | []=>by simp
 | j::l=>by
  rw [List.flatMap_cons,List.flatMap_append,List.length_append,List.length_cons,Nat.succ_mul]; have h1:=aU hf l
  have h2:((Jz c j).flatMap jX).length≤2*m:=by
   have h3:=nK hf j
   have:∀ fs:List UT,(fs.flatMap jX).length=2*fs.length:=by
    intro fs
    induction fs with
    | nil=>rfl
    | cons f fs ih=>rw [List.flatMap_cons,List.length_append,ih,List.length_cons,aT]; omega
   rw [this]; omega
  omega
end Go.Ce
namespace Go.Ce
open Go Go.Proofs Go.Proofs.Tryz
def BH (c:List Aj) (i:Nat):List Int:=(FN c i).map (·.kind)
def Bk (l:List Int):List Value:=l.map fun k=>Value.int .u8 k
theorem z5:Gp prog 5=some (.int .u8 0):=by kernel_rfl
theorem by5:(prog.info? 5).map (·.bytes)=some 1:=by kernel_rfl
theorem tO (n:Int) (W:CW):Vs prog 29 1 [(0,.int .u8 n)] W=some (.slice (some ⟨W.sz,0,none⟩) 1 1,W.new (.cells (Tr.nil.Ah 0 [.int .u8 n]) [Value.int .u8 n].length #[] 5)):=by kernel_rfl
theorem Vx (fs:List UT):(fs.flatMap jX).length=2*fs.length:=by
 induction fs with
 | nil=>rfl
 | cons f fs ih=>rw [List.flatMap_cons,List.length_append,ih,List.length_cons,aT]; omega
theorem Rt {c:List Aj} (hlen:c.length<200) (hf:∀ x,x ∈ c→x.fields.length≤100) (i:Nat):(FN c i).length≤20100:=by
 unfold FN
 cases hl:Bs c c.length i with
 | none=>simp
 | some l =>
  have h1:=(Ku c _ _ _ hl).1; have h2:=aU hf l.reverse; rw [Vx] at h2; have:l.reverse.length*(2*100)≤200*200:=Nat.mul_le_mul (by simp; omega) (by omega); show (l.reverse.flatMap (Jz c)).length≤20100; omega
end Go.Ce
namespace Go.Ce
open Go Go.Proofs Go.Proofs.Tryz
def A5 (c:List Aj) (i k:Nat):Int:=match c[i]? with
 | some x=>if x.elem≠0 then x.elem else ((BH c i)[k]?).getD 0
 | none=>0
def AA6 (W:CW) (b o:Nat) (x:ByteArray):Prop:=W.cell b o=some (.string x)
end Go.Ce
namespace Go.Ce
open Go Go.Proofs Go.Proofs.Tryz
def B7 (n:Nat):List Int:=if n<128 then [(n:Int)] else ((n % 128+128:Nat):Int)::B7 (n / 128)
termination_by n
decreasing_by omega
theorem tP (n:Int):cO prog 3 5 (.int .i64 n)=some (.int .u8 (IntKind.u8.wrap n)):=by kernel_rfl
theorem nL {x:Int} (h1:0≤x) (h2:x<256):IntKind.u8.wrap x=x:=by
 unfold IntKind.wrap; simp [IntKind.bits,IntKind.signed]; omega
end Go.Ce
namespace Go.Ce
open Go Go.Proofs Go.Proofs.Tryz
def Hr (s:ByteArray):List Int:=(sb s).map fun b=>(b.toNat:Int)
def GP (s:ByteArray):List Int:=B7 s.size++Hr s
end Go.Ce
namespace Go.Ce
open Go Go.Proofs Go.Proofs.Tryz
end Go.Ce
namespace Go.Ce
section
variable {α:Type} {W:CW} {el n:Nat} {v:Value}
theorem Ui {enc:α→List Value} (hn:∀ x,(enc x).length=n) (l:List α):(l.flatMap enc).length=l.length*n:=by
 induction l with
 | nil=>simp
 | cons x l ih=>rw [List.flatMap_cons,List.length_append,ih,hn,List.length_cons,Nat.succ_mul,Nat.add_comm]
theorem AA7 {enc:α→List Value} (hn:∀ x,(enc x).length=n) (h0:0<n) {l:List α} (h:C8 W el n v (l.flatMap enc)):A3 n (fun b o x=>Cells W b o (enc x)) v l:=by
 generalize hc:l.flatMap enc=cs at h; have hl:=Ui hn l; rw [hc] at hl
 cases h with
 | nil =>
  have:l.length=0:=by
   rcases Nat.eq_zero_or_pos l.length with h | h
   ·exact h
   ·have:=Nat.mul_pos h h0; rw [←hl] at this; simp at this
  exact ⟨none,0,by rw [this],fun i x hx=>by have:=(List.getElem?_eq_some_iff.1 hx).1; omega⟩
 | @some b len _ hB eY =>
  have:len=l.length:=Nat.eq_of_mul_eq_mul_right h0 (by rw [←eY,hl]); refine ⟨some ⟨b,0,none⟩,len,by rw [this],fun i x hx=>⟨_,rfl,?_⟩⟩; have h1:=hB.cells; rw [←hc] at h1; exact UZ hn l 0 h1 i x hx
theorem nM (f:α→Value) (l:List α):l.map f=l.flatMap fun x=>[f x]:=by
 induction l with
 | nil=>rfl
 | cons x l ih=>rw [List.map_cons,List.flatMap_cons,ih]; rfl
theorem Hs {f:α→Value} {l:List α} (h:C8 W el 1 v (l.map f)):A3 1 (fun b o x=>W.cell b o=some (f x)) v l:=by
 rw [nM] at h; obtain ⟨a,cap,h1,h2⟩:=AA7 (n:=1) (fun _=>rfl) (by omega) h; refine ⟨a,cap,h1,fun i x hx=>?_⟩; obtain ⟨p,hp,hr⟩:=h2 i x hx; exact ⟨p,hp,by have:=hr 0 (f x) rfl; rwa [Nat.add_zero] at this⟩
end
theorem JX {P:Program} {t rM:TypeId} (u:P.underlying t=some (.slice rM)) {W W':CW} {el n:Nat} {v:Value} {cs:List Value} (h:C8 W el n v cs) (hn:0<n) {m:Nat} (hm:cs.length=m*n):A8 P t v W'=some (.int .i64 m):=by
 cases h with
 | nil =>
  have:m=0:=by
   rcases Nat.eq_zero_or_pos m with h | h
   ·exact h
   ·have:=Nat.mul_pos h hn; rw [←hm] at this; simp at this
  rw [At u,this]
 | @some b len _ hB hl =>
  have:len=m:=Nat.eq_of_mul_eq_mul_right hn (by rw [←hl,hm]); rw [At u,this]
def DR (ts:List Nat) (e e':Env):Prop:=∀ t,t ∈ ts→e' t=e t
theorem DR.refl (ts:List Nat) (e:Env):DR ts e e:=fun _ _=>rfl
theorem DR.trans {ts:List Nat} {a b c:Env} (h:DR ts a b) (k:DR ts b c):DR ts a c:=fun t ht=>(k t ht).trans (h t ht)
theorem DR.put {ts:List Nat} {e:Env} {l:List (Nat × Value)} (h:(ts.all fun t=>l.all fun p=>!Nat.beq t p.1)=true):DR ts e (Env.of e l):=by
 intro t ht; have h1:=List.all_eq_true.1 h t ht; clear h ht
 induction l with
 | nil=>rfl
 | cons p l ih =>
  simp only [List.all_cons,Bool.and_eq_true,Bool.not_eq_true'] at h1; simp only [Env.of,h1.1,cond_false]; exact ih h1.2
def Ot (J:Nat→Env→List Deferred→CW→Prop) (i n:Nat) (K:AB):AB:=fun x e ds W=>match x with
 | .normal=>i<n∧J (i+1) e ds W
 | x=>K x e ds W
section
variable (J:Nat→Env→List Deferred→CW→Prop) (i n:Nat) (K:AB) (e:Env) (ds:List Deferred) (W:CW)
theorem Kv:Ot J i n K .normal e ds W=(i<n∧J (i+1) e ds W):=rfl
theorem Wm:Ot J i n K .ret e ds W=K .ret e ds W:=rfl
theorem Uj (j:Nat):Ot J i n K (.exit j) e ds W=K (.exit j) e ds W:=rfl
theorem zKp (ch:List PanicEntry):Ot J i n K (.panic ch) e ds W=K (.panic ch) e ds W:=rfl
end
theorem FT {P:Program} {L:List FuncId} {ro:Option Nat} {fn:FuncId} {nt:Nat} {b:Code} {K:AB} (J:Nat→Env→List Deferred→CW→Prop) (n:Nat) {e:Env} {ds:List Deferred} {W:CW} (h0:J 0 e ds W)
  (NL:∀ i e ds W,i≤n→J i e ds W→AJ P L ro fn nt b e ds W (Ot J i n K)):Bj P L ro fn nt (.loop b) e ds W K:=by
 suffices key:∀ k i e ds W,n-i=k→i≤n→J i e ds W→Bj P L ro fn nt (.loop b) e ds W K from key n 0 e ds W rfl (Nat.zero_le _) h0
 intro k
 induction k using Nat.strongRecOn with
 | ind k ih =>
  intro i e ds W hk Jq hi a ha hn; obtain ⟨m,⟨x1,a1,W1⟩,h1,e1,h2,h3,h4⟩:=HI (NL i e ds W Jq hi) a ha hn
  cases x1 with
  | normal =>
   obtain ⟨h5,h6⟩:=h4; obtain ⟨m',o,h7,h8⟩:=ih (n-(i+1)) (by omega) (i+1) e1 a1.defers W1 rfl h5 h6 a1 h2 h3; refine ⟨max m m'+1,o,?_,h8⟩; show HC ((DT P L (max m m')).code ro fn b a W) ((DT P L (max m m')).code ro fn (.loop b))=some [o]; rw [GM (Nat.le_max_left m m') h1]; exact E7 (GM (Nat.le_max_right m m') h7)
  | _ =>
   refine ⟨m+1,_,?_,e1,h2,h3,h4⟩; show HC ((DT P L m).code ro fn b a W) ((DT P L m).code ro fn (.loop b))=_; rw [h1]; exact E7 rfl
theorem J0 {bad:Nat→Bool} {i:Nat} (h:∀ m,m<i→bad m=false) (hi:bad i=false):∀ m,m<i+1→bad m=false:=fun m hm=>by
 rcases Nat.lt_succ_iff_lt_or_eq.1 hm with h2 | rfl
 ·exact h m h2
 ·exact hi
theorem FU {i:Nat} (h:i<1000000000000):IntKind.i64.wrap ((i:Int)+1)=((i+1:Nat):Int):=by rw [wrap64 (by omega) (by omega)]; rfl
theorem It {i n:Nat} {X Y:Prop} (h1:i<n→X) (h2:n≤i→Y):wI (.bool (decide ((i:Int)<(n:Int)))) X Y :=
 AN (fun h=>h1 (by have:=of_decide_eq_true h; omega)) (fun h=>h2 (by have:=of_decide_eq_false h; omega))
theorem QO {vs ws:List Value} (h:ws.length=vs.length):putAt vs 0 ws=ws:=by
 unfold putAt; rw [List.take_zero,List.nil_append,List.drop_eq_nil_of_le (by omega),List.append_nil]
section
variable {P:Program}
theorem D' {t:TypeId} {m:Nat} {z:Value} (hz:Gp P t=some z) (hs:Db P t=some m) (mO:z.cells.size=m) {ws:List Value} (h1:ws.all BO=true) (hm:ws.length=m) {W:CW} {K:Value→CW→Prop} (ht:Aq W)
  (hk:∀ W2,Kp W W2→Aq W2→W2.sz=W.sz+1→BF W2 W.sz t ws→K (.pointer (some ⟨W.sz,0,none⟩)) W2):CZ (H2 P t W) fun v W1=>wV (B5 P t v (.agg ws.toArray) W1) fun W2=>K v W2:=by
 refine HM hz hs ht fun W1 k1 t1 z1 hB=>?_; refine Dj hs (a:=⟨W.sz,0,none⟩) h1 hm hB (by simp [mO]) fun W2 hu HN=>?_; rw [QO (by simp [mO,hm])] at HN; exact hk W2 (k1.Az (Nat.le_refl _) hu) (t1.Az (by rw [z1]; exact Nat.lt_succ_self _) hu) (by rw [hu.sz,z1]) HN
end
section
variable {P:Program}
theorem Mf {t el:TypeId} {ts:List TypeId} {n bytes:Nat} {z x:Value} {xs:List Value} (ut:P.underlying t=some (.slice el)) (hs:Db P el=some n) (hz:Gp P el=some z) (lR:z.cells.size=n) (hn:0<n) (tM:(P.info? el).map (·.bytes)=some bytes) (hb:bytes≤1024)
  (wq:∀ W,Vs P t 1 [(0,x)] W=some (.slice (some ⟨W.sz,0,none⟩) 1 1,W.new (.cells (Tr.nil.Ah 0 xs) xs.length #[] el))) (lL:xs.length=n) (mW:xs.all BO=true)
  {W:CW} (ht:Aq W) {v:Value} {cs:List Value} (hv:C8 W el n v cs) (eV:cs.length<900000) {K:Value→CW→Value→CW→Prop}
  (hk:∀ u Wa v1 W1,Kp W Wa→Aq Wa→Kt v W W1→Aq W1→C8 W1 el n v1 (cs++xs)→(∀ A,A≤W.sz→B9 A v1)→K u Wa v1 W1):CZ (Vs P t 1 [(0,x)] W) fun u W1=>CZ (app P (t::t::ts) v u W1) fun v1 W2=>K u W1 v1 W2:=by
 refine JW (wq W) ?_; have hkp:Kp W (W.new (.cells (Tr.nil.Ah 0 xs) xs.length #[] el)):=.new _
 have hB:BF (W.new (.cells (Tr.nil.Ah 0 xs) xs.length #[] el)) W.sz el xs:=⟨_,_,_,by rw [BK,if_pos rfl],rfl,fun k w hw=>by
  rw [C_ _ _ _ (List.getElem?_eq_some_iff.1 hw).1,List.getD_eq_getElem?_getD,hw]; rfl⟩
 have G4:C8 (W.new (.cells (Tr.nil.Ah 0 xs) xs.length #[] el)) el n v cs:=by
  cases hv with
  | nil=>exact .nil
  | some h hl=>exact .some (h.ext ht hkp) hl
 have pc:∀ b l c,v=.slice (some b) l c→b.block<W.sz:=by
  intro b l c e
  cases hv with
  | nil=>cases e
  | some h hl=>cases e; exact h.lt ht
 have hu:HA P t=true:=by unfold HA; rw [ut]
 refine hY (x:=.slice (some ⟨W.sz,0,none⟩) 1 1) (m:=1) (news:=xs) ut hu hs hz lR hn tM hb (ht.new _) G4 rfl (by omega) ?_ mW (by omega) (by omega) fun W1 len hg hl VT=>?_
 ·show Eh (some ⟨W.sz,0,none⟩) (1*n) _=some xs; rw [Nat.one_mul,←lL]; exact QM hB.cells
 ·refine hk _ _ _ W1 hkp (ht.new _) ⟨by rw [hg.sz,F2]; omega,fun i hi EB=>?_⟩ (hg.top (ht.new _)) (.some VT hl) (fun A hA b l c e=>by cases e; rw [F2]; show A≤W.sz+1; omega); rw [hg.obj i (by rw [F2]; omega) EB,BK,if_neg (by omega)]
end
theorem GQ {W W':CW} {el n i:Nat} {v:Value} {cs:List Value} (h:C8 W el n v cs) (hu:Da i W W') (hi:∀ b l c,v=.slice (some b) l c→b.block≠i):C8 W' el n v cs:=by
 cases h with
 | nil=>exact C8.nil
 | some hB hl=>exact C8.some (hB.congr (hu.obj _ (hi _ _ _ rfl))) hl
theorem Nt {W:CW} {el n:Nat} {v:Value} {cs:List Value} (h:C8 W el n v cs):BO v=true:=by cases h <;> rfl
theorem Uk {W:CW} {el rM n i:Nat} {v:Value} {cs ws:List Value} (h:C8 W el n v cs) (hB:BF W i rM ws) (he:el≠rM):∀ b l c,v=.slice (some b) l c→b.block≠i:=by
 intro b l c hv hb
 cases h with
 | nil=>cases hv
 | some h1 hl =>
  cases hv
  simp only at hb; subst hb; obtain ⟨c1,n1,z1,h2,_⟩:=h1; obtain ⟨c2,n2,z2,h3,_⟩:=hB; rw [h2] at h3
  cases h3
  exact he rfl
theorem Kt.YX {v:Value} {W W':CW} (h:Kt v W W') (ht:Aq W) {i:Nat} {el:TypeId} {ws:List Value} (hB:BF W i el ws) (hi:∀ b l c,v=.slice (some b) l c→b.block≠i):BF W' i el ws :=
 hB.congr (h.obj i (hB.lt ht) fun b l c e=>(hi b l c e).symm)
theorem Nu {P:Program} {fn:Func} {Q:Ending→CW→Prop} {e:Env} {W:CW} {s:Tmp} {ty:TypeId} {p:Addr} {v:Value} (hr:fn.results.toList=[.cell s ty]) (he:e s=.pointer (some p)) (hv:ld P ty (.pointer (some p)) W=some v) (hq:Q (.returned v) W):AI P fn Q .ret e [] W:=by
 have hv:Jm P ty p W=some v:=hv; simp only [AI,EW,hr,LA,m5,he,hv]; exact hq
structure DF (S:Nat→Prop) (W W':CW):Prop where
 sz:W.sz≤W'.sz
 obj:∀ i,i<W.sz→¬S i→W'.obj i=W.obj i
theorem DF.refl (S:Nat→Prop) (W:CW):DF S W W:=⟨Nat.le_refl _,fun _ _ _=>rfl⟩
theorem DF.Gl {S:Nat→Prop} {W W':CW} (h:Kp W W'):DF S W W':=⟨h.sz,fun i hi _=>h.obj i hi⟩
theorem DF.then {S T:Nat→Prop} {A B C:CW} (h:DF S A B) (k:DF T B C) (hT:∀ i,i<A.sz→T i→S i):DF S A C :=
 ⟨Nat.le_trans h.sz k.sz,fun i hi hs=>(k.obj i (Nat.lt_of_lt_of_le hi h.sz) fun ht=>hs (hT i hi ht)).trans (h.obj i hi hs)⟩
theorem DF.kp {S:Nat→Prop} {A B C:CW} (h:Kp A B) (k:DF S B C) (hS:∀ i,S i→A.sz≤i):Kp A C :=
 ⟨Nat.le_trans h.sz k.sz,fun i hi=>(k.obj i (Nat.lt_of_lt_of_le hi h.sz) fun hs=>by have:=hS i hs; omega).trans (h.obj i hi)⟩
theorem DF.cell {S:Nat→Prop} {W W':CW} (h:DF S W W') (ht:Aq W) {b k:Nat} (hb:¬S b) {v:Value} (hc:W.cell b k=some v):W'.cell b k=some v:=by
 rw [Kq (h.obj b (YP ht hc) hb)]; exact hc
theorem DF.YX {S:Nat→Prop} {W W':CW} (h:DF S W W') (ht:Aq W) {b:Nat} (hb:¬S b) {el:TypeId} {ws:List Value} (hB:BF W b el ws):BF W' b el ws :=
 hB.congr (h.obj b (hB.lt ht) hb)
def BE (v:Value) (i:Nat):Prop:=∃ b l c,v=.slice (some b) l c∧b.block=i
theorem Kt.Gy {v:Value} {W W':CW} (h:Kt v W W'):DF (BE v) W W':=⟨h.sz,fun i hi hs=>h.obj i hi fun b l c e hb=>hs ⟨b,l,c,e,hb.symm⟩⟩
theorem Da.Gy {i:Nat} {W W':CW} (h:Da i W W'):DF (·=i) W W':=⟨by rw [h.sz]; exact Nat.le_refl _,fun j _ hj=>h.obj j hj⟩
theorem DF.own {S:Nat→Prop} {W W':CW} (h:DF S W W') (ht:Aq W) {el n:Nat} {v:Value} {cs:List Value} (ho:C8 W el n v cs) (hv:∀ i,BE v i→¬S i):C8 W' el n v cs:=by
 cases ho with
 | nil=>exact C8.nil
 | some hB hl=>exact C8.some (h.YX ht (hv _ ⟨_,_,_,rfl,rfl⟩) hB) hl
theorem B9.in {A:Nat} {v:Value} (h:B9 A v) {i:Nat} (hi:BE v i):A≤i:=by
 obtain ⟨b,l,c,e,rfl⟩:=hi; exact h b l c e
theorem Ul {W:CW} (ht:Aq W) {el n:Nat} {v:Value} {cs:List Value} (h:C8 W el n v cs) {i:Nat} (hi:BE v i):i<W.sz:=by
 obtain ⟨b,l,c,e,rfl⟩:=hi
 cases h with
 | nil=>cases e
 | some hB hl=>cases e; exact hB.lt ht
section
variable {P:Program}
end
section
variable {P:Program}
theorem rN {t u el:TypeId} {ts:List TypeId} {n bytes:Nat} {z:Value} (ut:P.underlying t=some (.slice el)) (hu:HA P u=true) (hs:Db P el=some n) (hz:Gp P el=some z) (lR:z.cells.size=n) (hn:0<n) (tM:(P.info? el).map (·.bytes)=some bytes) (hb:bytes≤1024)
  {W:CW} (ht:Aq W) {v:Value} {cs news:List Value} {a:Option Addr} {m cap:Nat} (hv:C8 W el n v cs) (jW:0<m→∃ p,a=some p∧Cells W p.block p.off news) (h1:news.all BO=true) (KO:news.length=m*n) (eV:cs.length+m≤1000000) {K:Value→CW→Prop}
  (hk:∀ v1 W1,Kt v W W1→Aq W1→C8 W1 el n v1 (cs++news)→(∀ j,BE v1 j→BE v j∨W.sz≤j)→K v1 W1):CZ (app P (t::u::ts) v (.slice a m cap) W) K:=by
 rcases Nat.eq_zero_or_pos m with rfl | hm
 ·have Mw:news=[]:=List.length_eq_zero_iff.1 (by rw [KO,Nat.zero_mul]); subst Mw; have eW:Nat.ble ((P.info? el).map (·.bytes) |>.getD 2000) 1024=true:=by rw [tM]; exact Nat.ble_eq_true_of_le hb
  have uY:G_ (.slice a 0 cap) 0 n W=some []:=by
   show Eh a (0*n) W=some []; rw [Nat.zero_mul]; unfold Eh
   cases a <;> rfl
  have hc:app P (t::u::ts) v (.slice a 0 cap) W=some (v,W):=by
   unfold app; simp only [hu,cond_true]
   cases hv with
   | nil =>
    unfold GI; simp only [ut,ca,C7,hs,hz,uY,List.all_nil,List.length_nil,Nat.zero_mul,Nat.beq_refl,lR,eW,Bool.true_and,Bool.and_true]; rw [show Nat.blt 0 n=true from Nat.ble_eq_true_of_le hn]; rfl
   | @some b len cs hB hl =>
    have hlen:len≤cs.length:=by rw [hl]; exact Nat.le_mul_of_pos_right _ hn
    unfold GI; simp only [ut,ca,C7,hs,hz,uY,List.all_nil,List.length_nil,Nat.zero_mul,Nat.beq_refl,lR,eW,Bool.true_and,Bool.and_true,Nat.add_zero]; rw [show Nat.blt 0 n=true from Nat.ble_eq_true_of_le hn,show Nat.ble len 1000000=true from Nat.ble_eq_true_of_le (by omega),show Nat.ble len len=true from Nat.ble_eq_true_of_le (Nat.le_refl _)]; rfl
  refine JW hc (hk v W ⟨Nat.le_refl _,fun _ _ _=>rfl⟩ ht (by rw [List.append_nil]; exact hv) (fun j h=>.inl h))
 ·obtain ⟨p,rfl,LR⟩:=jW hm
  refine hY (m:=m) ut hu hs hz lR hn tM hb ht hv rfl hm ?_ h1 KO eV fun W1 len hg hl hB=>?_
  ·show Eh (some p) (m*n) W=some news; rw [←KO]; exact QM LR
  ·exact hk _ W1 ⟨by rw [hg.sz]; omega,hg.obj⟩ (hg.top ht) (.some hB hl) (fun j h=>.inr (by obtain ⟨b,l,c,e,rfl⟩:=h; cases e; exact Nat.le_refl _))
end
end Go.Ce
namespace Go.Ce
open Go Go.Proofs Go.Proofs.Tryz
def Dt (n:Nat) (p:Nat→Bool):Bool:=(List.range n).any p
theorem Dz {n j:Nat} {p:Nat→Bool} (hj:j<n) (h:p j=true):Dt n p=true:=List.any_eq_true.2 ⟨j,List.mem_range.2 hj,h⟩
theorem FB {n:Nat} {p:Nat→Bool} (h:∀ j,j<n→p j=false):Dt n p=false:=by
 unfold Dt; rw [List.any_eq_false]; intro j hj; rw [h j (List.mem_range.1 hj)]; simp
theorem Dk {n:Nat} {p:Nat→Bool} (h:Dt n p=false) {j:Nat} (hj:j<n):p j=false:=by
 cases hp:p j with
 | false=>rfl
 | true=>rw [Dz hj hp] at h; cases h
def Hy (k:Int):Bool:=k == 1 || k == 2
def GR (kind n:Int) (size:Nat):Bool:=!((kind == 1 && (decide (n < -1000000000) || decide (n>1000000000))) || (kind == 2 && (decide (n<0) || decide (n>size))))
def BL (c:List Aj) (s:ByteArray):Option Nat:=c.findIdx? fun x=>decide (x.name=s)
def El (c:List Aj) (i:Nat) (x:Aj) (many:Nat):Bool:=if x.elem≠0 then decide (many≤200) else decide (many=(BH c i).length)
def A4 (c:List Aj) (x:BN) (size:Nat):Bool:=match BL c x.type with
 | none=>false
 | some i=>match c[i]? with
  | none=>false
  | some s=>El c i s x.AL.length && !Dt x.AL.length fun k=>match x.AL[k]? with
   | some n=>!GR (A5 c i k) n size
   | none=>false
def GS (c:List Aj) (h:List BN):Int:=if 1000<h.length then 1000 else IY h fun x=>!A4 c x h.length
theorem DW.kp {W W':CW} {b o:Nat} {x:Int} (h:DW W b o x) (ht:Aq W) (k:Kp W W'):DW W' b o x:=⟨k.cell ht h.1,h.2⟩
theorem Gx.kp {W W':CW} {b o:Nat} {x:BN} (h:Gx W b o x) (ht:Aq W) (k:Kp W W'):Gx W' b o x :=
 ⟨k.cell ht h.type,by obtain ⟨v,h1,h2⟩:=h.AL; exact ⟨v,k.cell ht h1,h2.imp fun _ _ _ hr=>hr.kp ht k⟩⟩
theorem Vv.kp {W W':CW} {b o:Nat} {x:Br} (h:Vv W b o x) (ht:Aq W) (k:Kp W W'):Vv W' b o x :=
 ⟨k.cell ht h.type,k.cell ht h.to,by obtain ⟨v,h1,h2,h3⟩:=h.map; exact ⟨v,k.cell ht h1,h2.imp fun _ _ _ hr=>hr.kp ht k,h3.kp ht k⟩⟩
def ADW (W:CW) (u:Value) (x:BN):Prop:=∃ v,u=.agg #[.string x.type,v]∧A3 1 (DW W) v x.AL
theorem Gx.ld {W:CW} {b o:Nat} {x:BN} (h:Gx W b o x):∃ u,ld prog 56 (.pointer (some ⟨b,o,none⟩)) W=some u∧ADW W u x:=by
 obtain ⟨v,h1,h2⟩:=h.AL; refine ⟨_,Ba (vs:=[.string x.type,v]) jU Ma rfl (by omega) ?_,v,rfl,h2⟩; intro j w hj
 match j,hj with
 | 0,hj=>cases hj; exact h.type
 | 1,hj=>cases hj; exact h1
theorem FO {c:List Aj} {s:ByteArray} {i:Nat} (h:BL c s=some i):i<c.length:=(List.findIdx?_eq_some_iff_getElem.1 h).1
end Go.Ce
namespace Go.Ce
open Go Go.Proofs Go.Proofs.Tryz
end Go.Ce
namespace Go.Ce
open Go Go.Proofs Go.Proofs.Tryz
def QP (mp:List Int) (k:Nat) (n:Int):Bool:=Dt k fun m=>decide (mp[m]?=some n)
def Kw (fr to:List Int) (mp:List Int) (k:Nat):Bool:=match mp[k]? with
 | none=>true
 | some n=>decide (n<0) || decide (n≥fr.length) || decide (fr[n.toNat]?≠to[k]?) || QP mp k n
def JC (l:List Br) (s:Br) (i k:Nat):Bool:=match l[k]? with
 | none=>false
 | some x=>decide (x.type=s.to) || (decide (k<i) && decide (x.to=s.to))
def elemAt (c:List Aj) (t:Nat):Int:=match c[t]? with
 | some x=>x.elem
 | none=>0
def G' (l:List Br) (s:Br):Nat→Bool
 | 0=>false
 | i+1=>match l[i]? with
  | some x=>!SP (sb x.type) (sb s.type)
  | none=>false
def QQ (c:List Aj) (l:List Br) (i:Nat):Bool:=match l[i]? with
 | none=>true
 | some s=>match BL c s.type,BL c s.to with
  | some t,some a=>(decide (elemAt c t≠0) || decide (elemAt c a≠0) || G' l s i) || (Dt l.length (JC l s i) || (decide (s.map.length≠(BH c a).length) || Dt (BH c a).length (Kw (BH c t) (BH c a) s.map)))
  | _,_=>true
def BI (c:List Aj) (l:List Br):Bool:=decide (l.length≤20) && !Dt l.length (QQ c l)
def RKd (W:CW) (b o:Nat) (x:Int):Prop:=W.cell b o=some (.int .u8 x)
end Go.Ce
namespace Go.Ce
open Go Go.Proofs Go.Proofs.Tryz
end Go.Ce
namespace Go.Ce
open Go Go.Proofs Go.Proofs.Tryz
def IZ (c:List Aj) (x:Aj):Nat→Bool
 | 0=>false
 | i+1=>match c[i]? with
  | some y=>!SP (sb y.name) (sb x.name)
  | none=>false
def BU (c:List Aj) (i:Nat):Bool:=match c[i]? with
 | none=>true
 | some x=>(!GB x.name || IZ c x i) || ((decide (x.elem≠0) && (!Hy x.elem || decide (x.By≠EP) || decide (0<x.fields.length))) || decide (20<x.fields.length))
def Um (fs:List UT) (k:Nat) (s:ByteArray):Bool:=Dt k fun n=>decide ((fs[n]?).map (·.name)=some s)
def Ia (fs:List UT) (k:Nat):Bool:=match fs[k]? with
 | none=>true
 | some f=>(!GB f.name || !Hy f.kind) || Um fs k f.name
def L0 (c:List Aj) (i:Nat):Bool:=match Bs c c.length i with
 | none=>true
 | some _=>decide (60<(FN c i).length) || Dt (FN c i).length (Ia (FN c i))
def BV (c:List Aj):Bool:=decide (c.length≤100) && (!Dt c.length (BU c) && !Dt c.length (L0 c))
theorem nN:Gp prog 48=some (.agg #[.string ⟨#[]⟩,.string ⟨#[]⟩,.slice none 0 0,.int .u8 0,.slice none 0 0]):=by kernel_rfl
structure SG (c:List Aj):Prop where
 len:c.length<200
 fields:∀ x,x ∈ c→x.fields.length≤100
 name:∀ x,x ∈ c→x.name.size<1000
 sup:∀ x,x ∈ c→x.By.size<1000
 AA8:∀ x,x ∈ c→∀ f,f ∈ x.fields→f.name.size<1000
end Go.Ce
namespace Go.Ce
open Go Go.Proofs Go.Proofs.Tryz
theorem M7.ld {W:CW} {b o:Nat} {x:Aj} (h:M7 W b o x):∃ vf ab lb cb,ld prog 48 (.pointer (some ⟨b,o,none⟩)) W=some (.agg [.string x.name,.string x.By,vf,.int .u8 x.elem,.slice ab lb cb].toArray)∧A3 2 (QL W) vf x.fields:=by
 obtain ⟨vf,h1,h2⟩:=h.fields; obtain ⟨ab,lb,cb,h3⟩:=h.binds; refine ⟨vf,ab,lb,cb,Ba (vs:=[.string x.name,.string x.By,vf,.int .u8 x.elem,.slice ab lb cb]) a48 gu rfl (by omega) ?_,h2⟩; intro j w hj
 match j,hj with
 | 0,hj=>cases hj; exact h.name
 | 1,hj=>cases hj; exact h.By
 | 2,hj=>cases hj; exact h1
 | 3,hj=>cases hj; exact h.elem
 | 4,hj=>cases hj; exact h3
end Go.Ce
namespace Go.Ce
open Go Go.Proofs Go.Proofs.Tryz
def Ou (c:List Aj) (l:List Br):Int:=if BV c then (if BI c l then 0 else 212) else 210
def Ib (c:List Aj) (l:List Br) (h:List BN) (root:Int):Int:=if Ou c l≠0 then Ou c l else if GS c h≥0 then 211 else if root<0∨root>h.length then 1 else 0
end Go.Ce
namespace Go.Ce
open Go Go.Proofs Go.Proofs.Tryz
end Go.Ce
namespace Go.Ce
open Go Go.Proofs Go.Proofs.Tryz
def Gm (l:List Br) (s:ByteArray):Option Br:=l.find? fun x=>decide (x.type=s)
def GU (x:BN) (m:Int):Int:=(x.AL[m.toNat]?).getD 0
def AO (l:List Br) (x:BN):BN:=match Gm l x.type with
 | some s=>⟨s.to,s.map.map (GU x)⟩
 | none=>x
def B8 (l:List Int):List Value:=l.map fun k=>Value.int .i64 k
theorem wu:Db prog 40=some 1:=by kernel_rfl
theorem s51:Db prog 51=some 1:=by kernel_rfl
theorem s29:Db prog 29=some 1:=by kernel_rfl
theorem z56:Gp prog 56=some (.agg #[.string ⟨#[]⟩,.slice none 0 0]):=by kernel_rfl
theorem DW.of {W:CW} {v:Value} {l:List Int} (h:A3 1 (fun b o x=>W.cell b o=some (Value.int .i64 x)) v l) (hb:∀ x,x ∈ l→-9223372036854775808≤x∧x≤9223372036854775807):A3 1 (DW W) v l:=by
 obtain ⟨a,cap,h1,h2⟩:=h; exact ⟨a,cap,h1,fun i x hx=>by obtain ⟨p,hp,hr⟩:=h2 i x hx; exact ⟨p,hp,hr,hb x (List.mem_of_getElem? hx)⟩⟩
theorem nO {l:List Br} {s:ByteArray} {i:Nat} (hi:i<l.length) (h:decide (l[i].type=s)=true) (Bg:∀ j,j<i→decide ((l[j]?).map (·.type)=some s)=false):Gm l s=some l[i]:=by
 unfold Gm; rw [List.find?_eq_some_iff_getElem]; refine ⟨h,i,hi,rfl,fun j hj=>?_⟩; have:=Bg j hj; rw [List.getElem?_eq_getElem (by omega)] at this
 simpa using this
theorem AA9 (s:ByteArray):Sh prog 56 [(0,.string s)]=some (.agg [.string s,.slice none 0 0].toArray):=by kernel_rfl
def nP (vx:Value) (y:BN) (W:CW):Ending→CW→Prop:=fun e W'=>Kp W W'∧Aq W'∧∃ vv,e=.returned (.agg #[.string y.type,vv])∧A3 1 (DW W') vv y.AL∧(vv=vx∨B9 W.sz vv)
end Go.Ce
namespace Go.Ce
open Go Go.Proofs Go.Proofs.Tryz
theorem Ic {l:List Br} {s:ByteArray} {x:Br} (h:Gm l s=some x):∃ i:Nat,l[i]?=some x∧x.type=s:=by
 unfold Gm at h; obtain ⟨h1,i,hi,h2,_⟩:=List.find?_eq_some_iff_getElem.1 h; exact ⟨i,by rw [List.getElem?_eq_getElem hi,h2],by simpa using h1⟩
structure tQ (c:List Aj) (s:Br) (t a:Nat):Prop where
 ti:BL c s.type=some t
 ai:BL c s.to=some a
 et:elemAt c t=0
 ea:elemAt c a=0
 len:s.map.length=(BH c a).length
 map:∀ k,k<(BH c a).length→∃ n:Int,s.map[k]?=some n∧0≤n∧n<(BH c t).length∧(BH c t)[n.toNat]?=(BH c a)[k]?∧QP s.map k n=false
theorem YY {c:List Aj} {l:List Br} (h:BI c l=true) {i:Nat} {s:Br} (hs:l[i]?=some s):∃ t a,tQ c s t a:=by
 unfold BI at h; simp only [Bool.and_eq_true,Bool.not_eq_true'] at h; have hb:=Dk h.2 (List.getElem?_eq_some_iff.1 hs).1; unfold QQ at hb; rw [hs] at hb; simp only at hb
 cases TA:BL c s.type with
 | none=>rw [TA] at hb; cases hb
 | some t =>
  rw [TA] at hb
  cases cS:BL c s.to with
  | none=>rw [cS] at hb; cases hb
  | some a =>
   rw [cS] at hb; simp only [Bool.or_eq_false_iff,decide_eq_false_iff_not,Decidable.not_not] at hb; obtain ⟨⟨⟨h1,h2⟩,h3⟩,h4,h5,h6⟩:=hb; refine ⟨t,a,TA,cS,h1,h2,h5,fun k hk=>?_⟩; have hm:=Dk h6 hk; unfold Kw at hm
   cases hx:s.map[k]? with
   | none=>rw [hx] at hm; cases hm
   | some n =>
    rw [hx] at hm; simp only [Bool.or_eq_false_iff,decide_eq_false_iff_not,Decidable.not_not] at hm; obtain ⟨⟨⟨m1,m2⟩,m3⟩,m4⟩:=hm; exact ⟨n,rfl,by omega,by omega,m3,m4⟩
structure Ru (c:List Aj) (x:BN) (size i:Nat) (s:Aj):Prop where
 ti:BL c x.type=some i
 si:c[i]?=some s
 many:El c i s x.AL.length=true
 val:∀ (k:Nat) n,x.AL[k]?=some n→GR (A5 c i k) n size=true
theorem Bt {c:List Aj} {x:BN} {size:Nat} (h:A4 c x size=true):∃ i s,Ru c x size i s:=by
 unfold A4 at h
 cases TA:BL c x.type with
 | none=>rw [TA] at h; cases h
 | some i =>
  rw [TA] at h; have hs:=List.getElem?_eq_getElem (FO TA); simp only [hs,Bool.and_eq_true,Bool.not_eq_true'] at h; refine ⟨i,_,TA,hs,h.1,fun k n hk=>?_⟩; have:=Dk h.2 (List.getElem?_eq_some_iff.1 hk).1; rw [hk] at this
  simpa using this
theorem Un {c:List Aj} {x:BN} {size i:Nat} {s:Aj} (h:Ru c x size i s):A4 c x size=true:=by
 unfold A4; rw [h.ti]; simp only [h.si,h.many,Bool.true_and]
 rw [FB fun j hj=>?_]
 ·rfl
 ·have:=List.getElem?_eq_getElem hj; rw [this]; simp only [h.val j _ this,Bool.not_true]
theorem CB {c:List Aj} {h:List BN} (ht:¬GS c h≥0):h.length≤1000∧∀ x,x ∈ h→A4 c x h.length=true:=by
 unfold GS at ht
 by_cases hl:1000<h.length
 ·rw [if_pos hl] at ht; omega
 ·rw [if_neg hl] at ht; refine ⟨by omega,fun x hx=>?_⟩; unfold IY at ht
  cases hf:h.findIdx? fun x=>!A4 c x h.length with
  | some i=>rw [hf] at ht; simp only at ht; omega
  | none =>
   rw [List.findIdx?_eq_none_iff] at hf
   simpa using hf x hx
theorem Fl {c:List Aj} {i many:Nat} {s:Aj} (hs:c[i]?=some s) (he:elemAt c i=0) (hm:El c i s many=true):many=(BH c i).length:=by
 unfold El at hm; unfold elemAt at he; rw [hs] at he; rw [if_neg (by simpa using he)] at hm; exact of_decide_eq_true hm
theorem HO {c:List Aj} {i:Nat} (he:elemAt c i=0) (hi:i<c.length) (k:Nat):A5 c i k=((BH c i)[k]?).getD 0:=by
 unfold A5; unfold elemAt at he; rw [List.getElem?_eq_getElem hi] at he ⊢; simp only at he ⊢; rw [if_neg (by simpa using he)]
theorem L4 {c:List Aj} {l:List Br} {x:BN} {size:Nat} (hs:BI c l=true) (hx:A4 c x size=true):∀ s,Gm l x.type=some s→∀ m,m ∈ s.map→0≤m∧m.toNat<x.AL.length:=by
 intro s Jg m hm; obtain ⟨i,hi,Rv⟩:=Ic Jg; obtain ⟨t,a,S⟩:=YY hs hi; obtain ⟨ti,si,T⟩:=Bt hx; have TA:ti=t:=by have h1:=T.ti; rw [←Rv,S.ti] at h1; exact (Option.some.inj h1).symm
 subst TA; have VU:=Fl T.si S.et T.many; obtain ⟨k,hk,hkm⟩:=List.mem_iff_getElem.1 hm; obtain ⟨n,h1,h2,h3,_⟩:=S.map k (by rw [←S.len]; exact hk); rw [List.getElem?_eq_getElem hk,hkm] at h1
 cases h1
 omega
theorem CJ {c:List Aj} {l:List Br} {x:BN} {size:Nat} (hs:BI c l=true) (hx:A4 c x size=true):A4 c (AO l x) size=true:=by
 unfold AO
 cases Jg:Gm l x.type with
 | none=>exact hx
 | some s =>
  obtain ⟨i,hi,Rv⟩:=Ic Jg; obtain ⟨t,a,S⟩:=YY hs hi; obtain ⟨ti,si,T⟩:=Bt hx; have TA:ti=t:=by have h1:=T.ti; rw [←Rv,S.ti] at h1; exact (Option.some.inj h1).symm
  subst TA; have VU:=Fl T.si S.et T.many; have hal:=FO S.ai; have Uo:=FO S.ti
  refine Un (i:=a) (s:=c[a]) ⟨S.ai,List.getElem?_eq_getElem hal,?_,fun k n hk=>?_⟩
  ·have hea:=S.ea; unfold elemAt at hea; rw [List.getElem?_eq_getElem hal] at hea; unfold El; rw [if_neg (by simpa using hea)]; exact decide_eq_true (by rw [List.length_map]; exact S.len)
  ·have hk':k<s.map.length:=by
    have:=(List.getElem?_eq_some_iff.1 hk).1
    simpa using this
   obtain ⟨m,h1,h2,h3,h4,_⟩:=S.map k (by rw [←S.len]; exact hk'); simp only [List.getElem?_map,h1,Option.map_some,Option.some.injEq] at hk; have lC:m.toNat<x.AL.length:=by omega
   have hxv:=List.getElem?_eq_getElem lC; have:=T.val _ _ hxv; rw [HO S.et Uo,h4] at this; rw [HO S.ea hal,←hk]; unfold GU; rw [hxv]; exact this
def FC (c:List Aj) (i:Nat) (vs:List Int):Nat→List Int
 | 0=>[]
 | k+1=>FC c i vs k++(if A5 c i k=2 then (vs[k]?).toList else [])
def refsOf (c:List Aj) (y:BN):List Int:=match BL c y.type with
 | some i=>FC c i y.AL y.AL.length
 | none=>[]
def visit (o:List Int) (v:Int):List Int:=if 0<v∧v ∉ o then o++[v] else o
def Ao (refs:Int→List Int):Nat→List Int→Nat→List Int
 | 0,o,_=>o
 | f+1,o,n=>match o[n]? with
  | none=>o
  | some v=>Ao refs f ((refs v).foldl visit o) (n+1)
def placeOf (o:List Int) (v:Int):Int:=match o.findIdx? (fun x=>decide (x=v)) with
 | some i=>(i:Int)+1
 | none=>0
theorem GV {o:List Int} {v:Int} (h:v ∉ o):placeOf o v=0:=by
 unfold placeOf
 have:o.findIdx? (fun x=>decide (x=v))=none:=by
  rw [List.findIdx?_eq_none_iff]; intro x hx; exact decide_eq_false (fun e=>h (e ▸ hx))
 rw [this]
theorem Rw {o:List Int} {v:Int} (h:v ∈ o):0<placeOf o v:=by
 unfold placeOf
 cases hf:o.findIdx? (fun x=>decide (x=v)) with
 | none =>
  rw [List.findIdx?_eq_none_iff] at hf; have:=hf v h; simp at this
 | some i=>simp only; omega
theorem Rx {o:List Int} {u v:Int} (h:v ∉ o):placeOf (o++[v]) u=if u=v then (o.length:Int)+1 else placeOf o u:=by
 unfold placeOf; rw [List.findIdx?_append]
 by_cases e:u=v
 ·subst e
  have:o.findIdx? (fun x=>decide (x=u))=none:=by
   rw [List.findIdx?_eq_none_iff]; intro x hx; exact decide_eq_false (fun e=>h (e ▸ hx))
  rw [this,if_pos rfl]; simp
 ·rw [if_neg e]
  cases hf:o.findIdx? (fun x=>decide (x=u)) with
  | some i=>simp
  | none =>
   have:([v].findIdx? fun x=>decide (x=u))=none:=by
    simp [Ne.symm e,List.findIdx?_cons]
   rw [this]; simp
structure Found (o:List Int) (n:Nat):Prop where
 nodup:o.Nodup
 low:∀ v,v ∈ o→0<v
 high:∀ v,v ∈ o→v≤n
theorem Up:∀ (n:Nat) (o:List Int),o.Nodup→(∀ v,v ∈ o→0<v∧v≤n)→o.length≤n
 | 0,o,_,h=>by
  cases o with
  | nil=>exact Nat.le_refl _
  | cons a o=>have:=h a (List.mem_cons_self ..); omega
 | n+1,o,hd,h=>by
  by_cases hm:((n+1:Nat):Int) ∈ o
  ·have h1:=Up n (o.erase ((n+1:Nat):Int)) (hd.erase _) fun v hv=>by
    obtain ⟨h2,h3⟩:=(List.Nodup.mem_erase_iff hd).1 hv; have:=h v h3; omega
   rw [List.length_erase_of_mem hm] at h1; omega
  ·have:=Up n o hd fun v hv=>by
    have h1:=h v hv; have:v≠((n+1:Nat):Int):=fun e=>hm (e ▸ hv); omega
   omega
theorem Found.len {o:List Int} {n:Nat} (h:Found o n):o.length≤n:=Up n o h.nodup fun v hv=>⟨h.low v hv,h.high v hv⟩
theorem Found.visit {o:List Int} {n:Nat} (h:Found o n) {v:Int} (hv:v≤n):Found (visit o v) n:=by
 unfold Go.Ce.visit
 split
 ·rename_i hc
  refine ⟨?_,?_,?_⟩
  ·rw [List.nodup_append]; exact ⟨h.nodup,by simp,fun a ha b hb=>by rw [List.mem_singleton.1 hb]; exact fun e=>hc.2 (e ▸ ha)⟩
  ·intro u hu
   rcases List.mem_append.1 hu with hu | hu
   ·exact h.low u hu
   ·rw [List.mem_singleton.1 hu]; exact hc.1
  ·intro u hu
   rcases List.mem_append.1 hu with hu | hu
   ·exact h.high u hu
   ·rw [List.mem_singleton.1 hu]; exact hv
 ·exact h
theorem eZ {refs:Int→List Int} {o:List Int} {n:Nat} (h:o.length≤n):∀ f,Ao refs f o n=o
 | 0=>rfl
 | f+1=>by unfold Ao; rw [List.getElem?_eq_none h]
theorem aV {refs:Int→List Int} {o:List Int} {n f:Nat} {v:Int} (h:o[n]?=some v):Ao refs (f+1) o n=Ao refs f ((refs v).foldl visit o) (n+1):=by
 rw [Ao,h]
end Go.Ce
namespace Go.Ce
open Go Go.Proofs Go.Proofs.Tryz
theorem Uq (o:List Int) (v:Int):B8 (o++[v])=B8 o++[.int .i64 v]:=by simp [B8]
theorem CE (o:List Int):(B8 o).length=o.length:=by simp [B8]
theorem aW {c:List Aj} {i k:Nat} {vs:List Int} {n:Int} (h:vs[k]?=some n):FC c i vs (k+1)=FC c i vs k++(if A5 c i k=2 then [n] else []):=by
 rw [FC,h]; rfl
def CR (c:List Aj) (l:List Br) (h:List BN) (v:Int):List Int:=match h[(v-1).toNat]? with
 | some x=>refsOf c (AO l x)
 | none=>[]
def start (root:Int):List Int:=if root>0 then [root] else []
def Ad (c:List Aj) (l:List Br) (h:List BN) (root:Int):List Int:=Ao (CR c l h) h.length (start root) 0
theorem Found.start {root:Int} {n:Nat} (h:root≤n):Found (start root) n:=by
 unfold Go.Ce.start
 split
 ·exact ⟨List.pairwise_singleton _ _,fun v hv=>by rw [List.mem_singleton.1 hv]; assumption,fun v hv=>by rw [List.mem_singleton.1 hv]; exact h⟩
 ·exact ⟨List.nodup_nil,fun v hv=>(by cases hv),fun v hv=>(by cases hv)⟩
theorem Mg {c:List Aj} {i m:Nat} {s:Aj} (hC:SG c) (h:El c i s m=true):m≤20100:=by
 unfold El at h
 split at h
 ·have:=of_decide_eq_true h; omega
 ·have:=of_decide_eq_true h; have h2:=Rt hC.len hC.fields i; unfold BH at this; rw [List.length_map] at this; omega
theorem ec {A W:CW} (hA:Aq A) (k:Kp A W) {b o:Nat} {x:BN} (h:Gx A b o x):∃ vx,ld prog 56 (.pointer (some ⟨b,o,none⟩)) W=some (.agg #[.string x.type,vx])∧A3 1 (DW W) vx x.AL∧(x.AL≠[]→∀ j,BE vx j→j<A.sz):=by
 obtain ⟨v,h1,h2⟩:=h.AL
 refine ⟨v,Ba (vs:=[.string x.type,v]) jU Ma rfl (by omega) ?_,h2.imp fun _ _ _ hr=>hr.kp hA k,fun EB j hj=>?_⟩
 ·intro j w hj
  match j,hj with
  | 0,hj=>cases hj; exact k.cell hA h.type
  | 1,hj=>cases hj; exact k.cell hA h1
 ·obtain ⟨b,l,c,rfl,rfl⟩:=hj; obtain ⟨a',c',e,hc⟩:=h2
  cases e
  cases hv:x.AL with
  | nil=>exact (EB hv).elim
  | cons n ns =>
   obtain ⟨p,hp,hr⟩:=hc 0 n (by rw [hv]; rfl)
   cases hp
   exact YP hA hr.1
end Go.Ce
namespace Go.Ce
open Go Go.Proofs Go.Proofs.Tryz
theorem Ur:∀ (f n:Nat),n<128 ^ (f+1)→(B7 n).length≤f+1
 | 0,n,h=>by unfold B7; rw [if_pos (by simpa using h)]; simp
 | f+1,n,h=>by
  unfold B7
  split
  ·simp
  ·have:=Ur f (n / 128) (by rw [Nat.pow_succ] at h; exact Nat.div_lt_of_lt_mul (by rw [Nat.mul_comm]; exact h)); simp only [List.length_cons]; omega
theorem Dl {n:Nat} (h:n<100000000000000):(B7 n).length≤8:=Ur 7 n (by omega)
def J1 (n:Int):Int:=if n<0 then -2*n-1 else 2*n
def BQ (t:List ByteArray) (s:ByteArray):List ByteArray:=if t.any (fun x=>decide (x=s)) then t else t++[s]
def DD (l:List Br) (xs:List BN):List ByteArray:=xs.foldl (fun t x=>BQ t (AO l x).type) []
def QR (o:List Int) (kind n:Int):List Int:=if kind=2 then B7 (placeOf o n).toNat else B7 (J1 n).toNat
def F3 (c:List Aj) (o:List Int) (i:Nat) (vs:List Int):Nat→List Int
 | 0=>[]
 | k+1=>F3 c o i vs k++(match vs[k]? with
  | some n=>QR o (A5 c i k) n
  | none=>[])
def FD (c:List Aj) (t:List ByteArray) (o:List Int) (y:BN):List Int:=match BL c y.type with
 | some i=>B7 (IY t fun x=>decide (x=y.type)).toNat++(if elemAt c i≠0 then B7 y.AL.length else [])++F3 c o i y.AL y.AL.length
 | none=>[]
def AS (h:List BN) (o:List Int):List BN:=o.flatMap fun v=>(h[(v-1).toNat]?).toList
def Em (c:List Aj) (l:List Br) (h:List BN) (o:List Int):List Int :=
 [1]++B7 (DD l (AS h o)).length++(DD l (AS h o)).flatMap GP++B7 o.length++(AS h o).flatMap fun x=>FD c (DD l (AS h o)) o (AO l x)
def L5 (l:List Br) (h:List BN) (o:List Int):Bool:=(AS h o).any fun x=>l.any fun s=>decide (s.to=x.type)
def C3 (c:List Aj) (l:List Br) (h:List BN) (root:Int):List Int × Int :=
 if Ib c l h root≠0 then ([],Ib c l h root) else if L5 l h (Ad c l h root) then ([],214) else (Em c l h (Ad c l h root),0)
theorem YZ {c:List Aj} (h:BV c=true) {i:Nat} (hi:i<c.length):(BH c i).length≤60∧∀ (k:Nat) n,(BH c i)[k]?=some n→n=1∨n=2:=by
 unfold BV at h; simp only [Bool.and_eq_true,Bool.not_eq_true'] at h; have hb:=Dk h.2.2 hi; unfold L0 at hb
 cases hl:Bs c c.length i with
 | none=>rw [hl] at hb; cases hb
 | some l =>
  rw [hl] at hb; simp only [Bool.or_eq_false_iff,decide_eq_false_iff_not] at hb; refine ⟨by unfold BH; rw [List.length_map]; omega,fun k n hk=>?_⟩; unfold BH at hk; rw [List.getElem?_map] at hk
  cases hf:(FN c i)[k]? with
  | none=>rw [hf] at hk; cases hk
  | some f =>
   rw [hf] at hk
   cases hk
   have:=Dk hb.2 (List.getElem?_eq_some_iff.1 hf).1; unfold Ia at this; rw [hf] at this; simp only [Bool.or_eq_false_iff,Bool.not_eq_false'] at this; have hk:=this.1.2; unfold Hy at hk
   simpa using hk
theorem nQ {c:List Aj} (h:BV c=true) {i:Nat} (hi:i<c.length):elemAt c i=0∨elemAt c i=1∨elemAt c i=2:=by
 unfold BV at h; simp only [Bool.and_eq_true,Bool.not_eq_true'] at h; have hb:=Dk h.2.1 hi; unfold BU at hb; unfold elemAt; rw [List.getElem?_eq_getElem hi] at hb ⊢; simp only [Bool.or_eq_false_iff] at hb ⊢; have h1:=hb.2.1
 by_cases he:c[i].elem=0
 ·exact .inl he
 ·rw [decide_eq_true he,Bool.true_and] at h1; simp only [Bool.or_eq_false_iff,Bool.not_eq_false'] at h1; have:=h1.1.1; unfold Hy at this; right
  simpa using this
theorem rO {c:List Aj} (h:BV c=true) {i k:Nat} (hi:i<c.length) (hk:elemAt c i=0→k<(BH c i).length):A5 c i k=1∨A5 c i k=2:=by
 by_cases he:elemAt c i=0
 ·rw [HO he hi,List.getElem?_eq_getElem (hk he)]; exact (YZ h hi).2 k _ (List.getElem?_eq_getElem (hk he))
 ·have:=nQ h hi; unfold A5; unfold elemAt at he this; rw [List.getElem?_eq_getElem hi] at he this ⊢; simp only at he this ⊢; rw [if_pos he]; omega
theorem aX {c:List Aj} (h:BV c=true) {i m:Nat} {s:Aj} (hs:c[i]?=some s) (hm:El c i s m=true):m≤200:=by
 unfold El at hm
 split at hm
 ·exact of_decide_eq_true hm
 ·have:=of_decide_eq_true hm; have:=(YZ h (List.getElem?_eq_some_iff.1 hs).1).1; omega
theorem Us (a b:List Int):Bk (a++b)=Bk a++Bk b:=by simp [Bk]
theorem Ie (a:List Int):(Bk a).length=a.length:=by simp [Bk]
theorem ed (a:List Int):(Bk a).all BO=true:=by
 rw [List.all_eq_true]; intro x hx; obtain ⟨y,_,rfl⟩:=List.mem_map.1 hx; rfl
end Go.Ce
namespace Go.Ce
open Go Go.Proofs Go.Proofs.Tryz
def strs (l:List ByteArray):List Value:=l.map fun s=>Value.string s
theorem rP (s:ByteArray) (v:Value):vB prog 56 (.agg #[.string s,v]) 0=some (.string s):=by kernel_rfl
theorem AA' (s:ByteArray) (W:CW):Vs prog 51 1 [(0,.string s)] W=some (.slice (some ⟨W.sz,0,none⟩) 1 1,W.new (.cells (Tr.nil.Ah 0 [.string s]) [Value.string s].length #[] 9)):=by kernel_rfl
theorem z9:Gp prog 9=some (.string ⟨#[]⟩):=by kernel_rfl
theorem by9:(prog.info? 9).map (·.bytes)=some 16:=by kernel_rfl
structure Hp (c:List Aj) (h:List BN) (o:List Int):Prop where
 found:Found o h.length
 small:h.length<100000
 ok:∀ x,x ∈ h→A4 c x h.length=true
theorem Hp.at {c:List Aj} {h:List BN} {o:List Int} (H:Hp c h o) {i:Nat} (hi:i<o.length):∃ w,o[i]=((w+1:Nat):Int)∧∃ hw:w<h.length,(h[(o[i]-1).toNat]?).toList=[h[w]]:=by
 have h1:=H.found.low _ (List.getElem_mem hi); have h2:=H.found.high _ (List.getElem_mem hi); refine ⟨(o[i]-1).toNat,by omega,by omega,?_⟩; rw [List.getElem?_eq_getElem (by omega)]; rfl
theorem JY {c:List Aj} {h:List BN} {o:List Int} (H:Hp c h o) {i w:Nat} (hi:i<o.length) (hw:o[i]=((w+1:Nat):Int)) (ZG:w<h.length):AS h (o.take (i+1))=AS h (o.take i)++[h[w]]:=by
 unfold AS; rw [List.take_add_one,List.getElem?_eq_getElem hi]; rw [List.flatMap_append]; congr 1; simp only [Option.toList_some,List.flatMap_cons,List.flatMap_nil,List.append_nil,hw]; rw [show (((w+1:Nat):Int)-1).toNat=w by omega,List.getElem?_eq_getElem ZG]; rfl
theorem nR (t:List ByteArray) (s:ByteArray):strs (t++[s])=strs t++[.string s]:=by simp [strs]
theorem aY (t:List ByteArray):(strs t).length=t.length:=by simp [strs]
theorem aZ {t:List ByteArray} {s:ByteArray}:IY t (fun x=>decide (x=s))<0↔t.any (fun x=>decide (x=s))=false:=by
 unfold IY
 cases h:t.findIdx? fun x=>decide (x=s) with
 | none =>
  rw [List.findIdx?_eq_none_iff] at h; simp only [List.any_eq_false]; exact ⟨fun _ x hx=>by rw [h x hx]; simp,fun _=>by omega⟩
 | some i =>
  obtain ⟨h1,h2,_⟩:=List.findIdx?_eq_some_iff_getElem.1 h
  constructor
  ·intro h3; simp only at h3; omega
  ·intro h3; rw [List.any_eq_true.2 ⟨_,List.getElem_mem h1,h2⟩] at h3
   cases h3
def JD (l:List Br) (h:List BN) (o:List Int) (i:Nat):List ByteArray:=DD l (AS h (o.take i))
theorem eh {c:List Aj} {l:List Br} {h:List BN} {o:List Int} (H:Hp c h o) {i w:Nat} (hi:i<o.length) (hw:o[i]=((w+1:Nat):Int)) (ZG:w<h.length):JD l h o (i+1)=BQ (JD l h o i) (AO l h[w]).type:=by
 unfold JD DD; rw [JY H hi hw ZG,List.foldl_append]; rfl
theorem ae (t:List ByteArray) (s:ByteArray):(BQ t s).length≤t.length+1:=by
 unfold BQ; split <;> simp
theorem J2 (l:List Br):∀ (xs:List BN) (t:List ByteArray),(xs.foldl (fun t x=>BQ t (AO l x).type) t).length≤t.length+xs.length
 | [],t=>by simp
 | x::xs,t=>by
  have:=J2 l xs (BQ t (AO l x).type); have:=ae t (AO l x).type; simp only [List.foldl_cons,List.length_cons]; omega
theorem GW (h:List BN):∀ o:List Int,(AS h o).length≤o.length
 | []=>by simp [AS]
 | v::o=>by
  have:=GW h o; have h2:((h[(v-1).toNat]?).toList).length≤1:=by cases h[(v-1).toNat]? <;> simp
  unfold AS at this ⊢; rw [List.flatMap_cons,List.length_append,List.length_cons]; omega
theorem ag (l:List Br) (h:List BN) (o:List Int) (i:Nat):(JD l h o i).length≤o.length:=by
 have h1:=J2 l (AS h (o.take i)) []; have h2:=GW h (o.take i); have:(o.take i).length≤o.length:=by rw [List.length_take]; omega
 unfold JD DD; simp only [List.length_nil] at h1; omega
end Go.Ce
namespace Go.Ce
open Go Go.Proofs Go.Proofs.Tryz
theorem jY {s:ByteArray} (h:s.size<1000):(GP s).length≤1008:=by
 unfold GP; rw [List.length_append]; have h1:=Dl (n:=s.size) (by omega); have h2:(Hr s).length=s.size:=by unfold Hr; rw [List.length_map,Md]
 omega
theorem QS:∀ (ts:List ByteArray),(∀ s,s ∈ ts→s.size<1000)→(ts.flatMap GP).length≤ts.length*1008
 | [],_=>by simp
 | s::ts,h=>by
  have h1:=QS ts fun s hs=>h s (List.mem_cons_of_mem _ hs); have h2:=jY (h s (List.mem_cons_self ..)); rw [List.flatMap_cons,List.length_append,List.length_cons,Nat.succ_mul]; omega
theorem nS {o:List Int} {k n:Int} (ho:o.length<100000) (hn:k≠2→-1000000000≤n∧n≤1000000000):(QR o k n).length≤8:=by
 unfold QR
 split
 ·refine Dl ?_; unfold placeOf
  split
  ·rename_i i hi; have:=(List.findIdx?_eq_some_iff_getElem.1 hi).1; omega
  ·decide
 ·rename_i hk; have:=hn hk; refine Dl ?_; unfold J1; split <;> omega
theorem Nv {c:List Aj} {o:List Int} {i:Nat} {vs:List Int} (ho:o.length<100000) (hn:∀ (k:Nat) n,vs[k]?=some n→A5 c i k≠2→-1000000000≤n∧n≤1000000000):∀ k,(F3 c o i vs k).length≤k*8
 | 0=>by simp [F3]
 | k+1=>by
  have h1:=Nv (c:=c) (i:=i) ho hn k; unfold F3; rw [List.length_append]
  cases hx:vs[k]? with
  | none=>simp only [List.length_nil]; omega
  | some n =>
   have:=nS (k:=A5 c i k) ho (hn k n hx); simp only; omega
theorem Nw (o:List Int) (v:Int):0≤placeOf o v∧placeOf o v≤o.length:=by
 unfold placeOf
 split
 ·rename_i i hi; have:=(List.findIdx?_eq_some_iff_getElem.1 hi).1; omega
 ·omega
theorem HP {c:List Aj} {y:BN} {n i:Nat} {s:Aj} (h:BV c=true) (Y:Ru c y n i s) {k:Nat} {v:Int} (hx:y.AL[k]?=some v):(A5 c i k=2∧0≤v∧v≤n)∨(A5 c i k=1∧-1000000000≤v∧v≤1000000000):=by
 have hv:=Y.val k v hx
 have hk:A5 c i k=1∨A5 c i k=2:=rO h (FO Y.ti) fun he=>by
  have:=Fl Y.si he Y.many; have:=(List.getElem?_eq_some_iff.1 hx).1; omega
 unfold GR at hv
 rcases hk with hk | hk
 ·right; rw [hk] at hv; simp at hv; exact ⟨hk,by omega,by omega⟩
 ·left; rw [hk] at hv; simp at hv; exact ⟨hk,by omega,by omega⟩
end Go.Ce
namespace Go.Ce
open Go Go.Proofs Go.Proofs.Tryz
theorem Ut (l:List Br) {s:ByteArray}:∀ (xs:List BN) (t:List ByteArray),t.any (fun x=>decide (x=s))=true→(xs.foldl (fun t x=>BQ t (AO l x).type) t).any (fun x=>decide (x=s))=true
 | [],t,h=>h
 | x::xs,t,h=>by
  rw [List.foldl_cons]; refine Ut l xs _ ?_; unfold BQ
  split
  ·exact h
  ·rw [List.any_append,h]; rfl
theorem Wo (l:List Br):∀ (xs:List BN) (t:List ByteArray) (x:BN),x ∈ xs→(xs.foldl (fun t x=>BQ t (AO l x).type) t).any (fun u=>decide (u=(AO l x).type))=true
 | [],t,x,h=>by cases h
 | y::xs,t,x,h=>by
  rw [List.foldl_cons]
  rcases List.mem_cons.1 h with rfl | h
  ·refine Ut l xs _ ?_; unfold BQ
   split
   ·assumption
   ·rw [List.any_append]; simp
  ·exact Wo l xs _ x h
theorem Nx (l:List Br) {s:ByteArray}:∀ (xs:List BN) (t:List ByteArray),s ∈ xs.foldl (fun t x=>BQ t (AO l x).type) t→s ∈ t∨∃ x,x ∈ xs∧s=(AO l x).type
 | [],t,h=>.inl h
 | y::xs,t,h=>by
  rw [List.foldl_cons] at h
  rcases Nx l xs _ h with h | ⟨x,hx,e⟩
  ·unfold BQ at h
   split at h
   ·exact .inl h
   ·rcases List.mem_append.1 h with h | h
    ·exact .inl h
    ·exact .inr ⟨y,List.mem_cons_self ..,List.mem_singleton.1 h⟩
  ·exact .inr ⟨x,List.mem_cons_of_mem _ hx,e⟩
theorem Ya {h:List BN} {o:List Int} {x:BN} (hx:x ∈ AS h o):x ∈ h:=by
 unfold AS at hx; obtain ⟨v,_,hv⟩:=List.mem_flatMap.1 hx
 cases hg:h[(v-1).toNat]? with
 | none=>rw [hg] at hv; cases hv
 | some y=>rw [hg] at hv; rw [List.mem_singleton.1 hv]; exact List.mem_of_getElem? hg
theorem nT {c:List Aj} (hC:SG c) {s:ByteArray} {i:Nat} (h:BL c s=some i):s.size<1000:=by
 obtain ⟨h1,h2,_⟩:=List.findIdx?_eq_some_iff_getElem.1 h; have:=hC.name _ (List.getElem_mem h1); rw [←of_decide_eq_true h2]; exact this
theorem ek {c:List Aj} {t:List ByteArray} {o:List Int} {y:BN} {n i:Nat} {s:Aj} (hc:BV c=true) (Y:Ru c y n i s) (ho:o.length<100000) (Uo:t.length<100000):(FD c t o y).length≤1616:=by
 unfold FD; rw [Y.ti]
 have h1:(B7 (IY t fun x=>decide (x=y.type)).toNat).length≤8:=Dl (by
  unfold IY
  split
  ·rename_i i hi; have:=(List.findIdx?_eq_some_iff_getElem.1 hi).1; omega
  ·decide)
 have hm:=aX hc Y.si Y.many
 have h2:(if elemAt c i≠0 then B7 y.AL.length else []).length≤8:=by
  split
  ·exact Dl (by omega)
  ·simp
 have h3:=Nv (c:=c) (o:=o) (i:=i) (vs:=y.AL) ho (fun k n hx hk=>by
   rcases HP hc Y hx with h | h
   ·exact (hk h.1).elim
   ·exact h.2) y.AL.length
 simp only [List.length_append]; omega
theorem Ny {c:List Aj} {l:List Br} {t:List ByteArray} {o:List Int} {n:Nat} (hc:BV c=true) (ho:o.length<100000) (Uo:t.length<100000):∀ xs:List BN,(∀ x,x ∈ xs→A4 c (AO l x) n=true)→(xs.flatMap fun x=>FD c t o (AO l x)).length≤xs.length*1616
 | [],_=>by simp
 | x::xs,h=>by
  have h1:=Ny (c:=c) (l:=l) (n:=n) hc ho Uo xs fun x hx=>h x (List.mem_cons_of_mem _ hx); obtain ⟨i,s,Y⟩:=Bt (h x (List.mem_cons_self ..)); have h2:=ek (t:=t) hc Y ho Uo; rw [List.flatMap_cons,List.length_append,List.length_cons,Nat.succ_mul]; omega
end Go.Ce
namespace Go.Ce
open Go Go.Proofs Go.Proofs.Tryz
def Wp (r:List Int × Int) (W:CW):Ending→CW→Prop:=fun e W'=>Kp W W'∧Aq W'∧∃ v,e=.returned (.tuple #[v,.int .i64 r.2])∧C8 W' 5 1 v (Bk r.1)
theorem Bd (a b:Value):ext (.tuple #[a,b]) 0=some a:=rfl
theorem Be (a b:Value):ext (.tuple #[a,b]) 1=some b:=rfl
theorem DG {c:List Aj} {l:List Br} {h:List BN} {root:Int} (hz:Ib c l h root=0):BV c=true∧BI c l=true∧(¬GS c h≥0)∧0≤root∧root≤h.length:=by
 unfold Ib at hz
 by_cases h1:Ou c l≠0
 ·rw [if_pos h1] at hz; exact (h1 hz).elim
 ·rw [if_neg h1] at hz
  by_cases h2:GS c h≥0
  ·rw [if_pos h2] at hz; cases hz
  ·rw [if_neg h2] at hz
   by_cases h3:root<0∨root>h.length
   ·rw [if_pos h3] at hz; cases hz
   ·have h1:Ou c l=0:=by omega
    unfold Ou at h1
    cases hc:BV c with
    | false=>rw [hc] at h1; simp at h1
    | true =>
     cases hs:BI c l with
     | false=>rw [hc,hs] at h1; simp at h1
     | true=>exact ⟨rfl,rfl,h2,by omega,by omega⟩
end Go.Ce
namespace Go.Ce
open Go Go.Proofs Go.Proofs.Tryz
def eo (ro:Option Nat) (K:AB):AB:=Ag (fun e ds W=>wV (ld prog 78 (e 4) W) fun LJ=>wV (B5 prog 78 (e 2) LJ W) fun W6=>K .ret (Env.of e [(3,(.bool true)),(103,LJ)]) ds W6) K
def Uu (ro:Option Nat) (K:AB):AB:=Ag (fun e ds W=>wV (A8 prog 22 (e 0) W) fun ZE=>Bj prog AM ro 47 104 (.loop (AY prog 47 1)) (Env.of e [(83,(.int .i64 0)),(82,ZE),(81,(e 0))]) ds W (Av 2 (eo ro K))) K
theorem AA_ (v0:Value) (K:AB) (W:CW):AJ prog AM none 47 104 (AK prog 47) (Env.args [v0]) [] W K=(CZ (H2 prog 78 W) fun v2 W0=>CZ (tI W0) fun CV W1=>CZ (tI W1) fun C2 W2=>wV (Sh prog 78 [(0,CV),(1,C2)]) fun Bu=>CZ (H2 prog 78 W2) fun v4 W3=>wV (B5 prog 78 v4 Bu W3) fun W4=>wV (A8 prog 22 v0 W4) fun CI=>wV (AH prog .gtr 3 true CI (.int .i64 100)) fun CH=>wI CH (wV (ld prog 78 v4 W4) fun DE=>wV (B5 prog 78 v2 DE W4) fun W5=>K .ret (Env.of (Env.args [v0]) [(3,(.bool false)),(18,DE),(17,CH),(16,CI),(15,v0),(4,v4),(14,Bu),(13,C2),(12,CV),(3,(.bool false)),(2,v2)]) [] W5) (wV (A8 prog 22 v0 W4) fun v20=>Bj prog AM none 47 104 (.loop (AY prog 47 0)) (Env.of (Env.args [v0]) [(21,(.int .i64 0)),(20,v20),(19,v0),(17,CH),(16,CI),(15,v0),(4,v4),(14,Bu),(13,C2),(12,CV),(3,(.bool false)),(2,v2)]) [] W4 (Av 0 (Uu none K)))):=by kernel_rfl
def Uv (ro:Option Nat) (K:AB):AB:=Ag (fun e ds W=>wV (AH prog .add 3 true (e 21) (.int .i64 1)) fun LB=>K .normal (Env.of e [(21,LB),(80,LB)]) ds W) K
def Ov (ro:Option Nat) (K:AB):AB:=Ag (fun e ds W=>wV (BD prog 78 (e 4) 0) fun Jk=>wV (ld prog 75 Jk W) fun MT=>wV (BD prog 48 (e 6) 0) fun JS=>wV (ld prog 9 JS W) fun KZ=>wV (ld prog 48 (e 6) W) fun IG=>wV (cP prog 75 MT KZ IG W) fun Il=>(Uv ro K) .normal (Env.of e [(79,IG),(78,KZ),(77,JS),(76,MT),(75,Jk)]) ds Il) (Av 1 (Uv ro K))
def JE (ro:Option Nat) (K:AB):AB:=Ag (fun e ds W=>wI (e 73) (wV (ld prog 78 (e 4) W) fun MS=>wV (B5 prog 78 (e 2) MS W) fun M4=>(Ov ro K) .ret (Env.of e [(3,(.bool false)),(74,MS)]) ds M4) ((Ov ro K) .normal e ds W)) (Ov ro K)
def Kx (ro:Option Nat) (K:AB):AB:=Ag (fun e ds W=>wV (BD prog 48 (e 6) 0) fun GD=>wV (ld prog 9 GD W) fun EG=>AD prog AM 101 [EG] W (AQ (fun Fk CQ=>wV (KU Fk) fun EZ=>wI EZ ((((True)∧ld prog 9 GD W=some EG)∧True)∧True∧(JE ro K) .normal (Env.of e [(73,(.bool true)),(72,undef),(68,(.bool true)),(71,undef),(68,(.bool true)),(70,undef),(68,(.bool true)),(69,undef),(68,(.bool true)),(68,(.bool true)),(67,(.bool true)),(66,undef),(64,(.bool true)),(65,undef),(64,(.bool true)),(64,(.bool true)),(63,(.bool true)),(62,undef),(49,(.bool true)),(61,undef),(60,undef),(59,undef),(58,undef),(57,undef),(56,undef),(55,undef),(54,undef),(53,undef),(52,undef),(49,(.bool true)),(51,undef),(49,(.bool true)),(50,undef),(49,(.bool true)),(49,EZ),(48,EZ),(47,Fk),(46,EG),(45,GD)]) ds CQ) (wV (AH prog .gtr 3 true (e 5) (.int .i64 0)) fun GF=>wI GF (wV (AH prog .sub 3 true (e 5) (.int .i64 1)) fun IH=>wV (Bm prog 22 (e 0) IH) fun D0=>wV (BD prog 48 D0 0) fun IU=>wV (ld prog 9 IU CQ) fun Ju=>wV (BD prog 48 (e 6) 0) fun Ko=>wV (ld prog 9 Ko CQ) fun GN=>wV (AH prog .geq 9 false Ju GN) fun Gj=>wI Gj ((((ld prog 9 Ko CQ=some GN)∧True)∧(((ld prog 9 IU CQ=some Ju)∧True)∧(((True)∧ld prog 9 GD W=some EG)∧True)))∧True∧(JE ro K) .normal (Env.of e [(73,(.bool true)),(72,undef),(68,(.bool true)),(71,undef),(68,(.bool true)),(70,undef),(68,(.bool true)),(69,undef),(68,(.bool true)),(68,(.bool true)),(67,(.bool true)),(66,undef),(64,(.bool true)),(65,undef),(64,(.bool true)),(64,Gj),(63,Gj),(62,Gj),(49,(.bool false)),(61,Gj),(52,(.bool true)),(60,GN),(52,(.bool true)),(59,Ko),(52,(.bool true)),(58,Ju),(52,(.bool true)),(57,IU),(52,(.bool true)),(56,D0),(52,(.bool true)),(55,IH),(52,(.bool true)),(54,(e 5)),(52,(.bool true)),(53,(e 0)),(52,(.bool true)),(52,GF),(49,(.bool false)),(51,GF),(49,(.bool false)),(50,(e 5)),(49,(.bool false)),(49,EZ),(48,EZ),(47,Fk),(46,EG),(45,GD)]) ds CQ) (wV (KU (e 7)) fun IV=>wI IV ((((ld prog 9 Ko CQ=some GN)∧True)∧(((ld prog 9 IU CQ=some Ju)∧True)∧(((True)∧ld prog 9 GD W=some EG)∧True)))∧True∧(JE ro K) .normal (Env.of e [(73,(.bool true)),(72,undef),(68,(.bool true)),(71,undef),(68,(.bool true)),(70,undef),(68,(.bool true)),(69,undef),(68,(.bool true)),(68,IV),(67,IV),(66,IV),(64,(.bool false)),(65,(e 7)),(64,(.bool false)),(64,Gj),(63,Gj),(62,Gj),(49,(.bool false)),(61,Gj),(52,(.bool true)),(60,GN),(52,(.bool true)),(59,Ko),(52,(.bool true)),(58,Ju),(52,(.bool true)),(57,IU),(52,(.bool true)),(56,D0),(52,(.bool true)),(55,IH),(52,(.bool true)),(54,(e 5)),(52,(.bool true)),(53,(e 0)),(52,(.bool true)),(52,GF),(49,(.bool false)),(51,GF),(49,(.bool false)),(50,(e 5)),(49,(.bool false)),(49,EZ),(48,EZ),(47,Fk),(46,EG),(45,GD)]) ds CQ) (wV (BD prog 48 (e 6) 2) fun G8=>wV (ld prog 45 G8 CQ) fun Jj=>wV (A8 prog 45 Jj CQ) fun M5=>wV (AH prog .gtr 3 true M5 (.int .i64 20)) fun JU=>(((A8 prog 45 Jj CQ=some M5)∧True)∧(((ld prog 45 G8 CQ=some Jj)∧True)∧(((ld prog 9 Ko CQ=some GN)∧True)∧(((ld prog 9 IU CQ=some Ju)∧True)∧(((True)∧ld prog 9 GD W=some EG)∧True)))))∧True∧(JE ro K) .normal (Env.of e [(73,JU),(72,JU),(68,(.bool false)),(71,M5),(68,(.bool false)),(70,Jj),(68,(.bool false)),(69,G8),(68,(.bool false)),(68,IV),(67,IV),(66,IV),(64,(.bool false)),(65,(e 7)),(64,(.bool false)),(64,Gj),(63,Gj),(62,Gj),(49,(.bool false)),(61,Gj),(52,(.bool true)),(60,GN),(52,(.bool true)),(59,Ko),(52,(.bool true)),(58,Ju),(52,(.bool true)),(57,IU),(52,(.bool true)),(56,D0),(52,(.bool true)),(55,IH),(52,(.bool true)),(54,(e 5)),(52,(.bool true)),(53,(e 0)),(52,(.bool true)),(52,GF),(49,(.bool false)),(51,GF),(49,(.bool false)),(50,(e 5)),(49,(.bool false)),(49,EZ),(48,EZ),(47,Fk),(46,EG),(45,GD)]) ds CQ))) (wV (KU (e 7)) fun IV=>wI IV ((((True)∧ld prog 9 GD W=some EG)∧True)∧True∧(JE ro K) .normal (Env.of e [(73,(.bool true)),(72,undef),(68,(.bool true)),(71,undef),(68,(.bool true)),(70,undef),(68,(.bool true)),(69,undef),(68,(.bool true)),(68,IV),(67,IV),(66,IV),(64,(.bool false)),(65,(e 7)),(64,(.bool false)),(64,(.bool false)),(63,(.bool false)),(62,(.bool false)),(49,(.bool false)),(61,undef),(52,(.bool false)),(60,undef),(52,(.bool false)),(59,undef),(52,(.bool false)),(58,undef),(52,(.bool false)),(57,undef),(52,(.bool false)),(56,undef),(52,(.bool false)),(55,undef),(52,(.bool false)),(54,undef),(52,(.bool false)),(53,undef),(52,(.bool false)),(52,GF),(49,(.bool false)),(51,GF),(49,(.bool false)),(50,(e 5)),(49,(.bool false)),(49,EZ),(48,EZ),(47,Fk),(46,EG),(45,GD)]) ds CQ) (wV (BD prog 48 (e 6) 2) fun G8=>wV (ld prog 45 G8 CQ) fun Jj=>wV (A8 prog 45 Jj CQ) fun M5=>wV (AH prog .gtr 3 true M5 (.int .i64 20)) fun JU=>(((A8 prog 45 Jj CQ=some M5)∧True)∧(((ld prog 45 G8 CQ=some Jj)∧True)∧(((True)∧ld prog 9 GD W=some EG)∧True)))∧True∧(JE ro K) .normal (Env.of e [(73,JU),(72,JU),(68,(.bool false)),(71,M5),(68,(.bool false)),(70,Jj),(68,(.bool false)),(69,G8),(68,(.bool false)),(68,IV),(67,IV),(66,IV),(64,(.bool false)),(65,(e 7)),(64,(.bool false)),(64,(.bool false)),(63,(.bool false)),(62,(.bool false)),(49,(.bool false)),(61,undef),(52,(.bool false)),(60,undef),(52,(.bool false)),(59,undef),(52,(.bool false)),(58,undef),(52,(.bool false)),(57,undef),(52,(.bool false)),(56,undef),(52,(.bool false)),(55,undef),(52,(.bool false)),(54,undef),(52,(.bool false)),(53,undef),(52,(.bool false)),(52,GF),(49,(.bool false)),(51,GF),(49,(.bool false)),(50,(e 5)),(49,(.bool false)),(49,EZ),(48,EZ),(47,Fk),(46,EG),(45,GD)]) ds CQ)))) (fun AA1 MQ=>False))) (Av 1 (Uv ro K))
theorem wx (ro:Option Nat) (e:Env) (ds:List Deferred) (K:AB) (W:CW):AJ prog AM ro 47 104 (AY prog 47 0) e ds W K=(wV (AH prog .lss 3 false (e 21) (e 20)) fun D9=>wI D9 (wV (Bm prog 22 (e 19) (e 21)) fun DI=>wV (ld prog 48 DI W) fun DZ=>CZ (H2 prog 48 W) fun v6 Rq=>wV (B5 prog 48 v6 DZ Rq) fun Du=>wV (BD prog 48 v6 3) fun Et=>wV (ld prog 5 Et Du) fun Dv=>wV (AH prog .eql 5 true Dv (.int .u8 0)) fun Dx=>wI Dx ((Kx ro K) .normal (Env.of e [(7,(.bool true)),(44,(.bool true)),(43,undef),(29,(.bool true)),(42,undef),(41,undef),(40,undef),(39,undef),(38,undef),(29,(.bool true)),(37,undef),(29,(.bool true)),(36,undef),(35,undef),(34,undef),(33,undef),(29,(.bool true)),(32,undef),(29,(.bool true)),(31,undef),(29,(.bool true)),(30,undef),(29,(.bool true)),(29,Dx),(28,Dx),(27,Dv),(26,Et),(5,(e 21)),(6,v6),(25,DZ),(24,DI),(23,(e 21)),(22,D9)]) ds Du) (wV (BD prog 48 v6 3) fun v30=>wV (ld prog 5 v30 Du) fun Dg=>AD prog AM 100 [Dg] Du (AQ (fun DY Is=>wI DY (wV (BD prog 48 v6 1) fun EH=>wV (ld prog 9 EH Is) fun FL=>wV (AH prog .eql 9 true FL (.string ⟨#[]⟩)) fun G9=>wI G9 (wV (BD prog 48 v6 2) fun H7=>wV (ld prog 45 H7 Is) fun EC=>wV (A8 prog 45 EC Is) fun Df=>wV (AH prog .eql 3 true Df (.int .i64 0)) fun GH=>(Kx ro K) .normal (Env.of e [(7,GH),(44,GH),(43,GH),(29,(.bool false)),(42,GH),(38,(.bool true)),(41,Df),(38,(.bool true)),(40,EC),(38,(.bool true)),(39,H7),(38,(.bool true)),(38,G9),(29,(.bool false)),(37,G9),(29,(.bool false)),(36,G9),(33,(.bool true)),(35,FL),(33,(.bool true)),(34,EH),(33,(.bool true)),(33,DY),(29,(.bool false)),(32,DY),(29,(.bool false)),(31,Dg),(29,(.bool false)),(30,v30),(29,(.bool false)),(29,Dx),(28,Dx),(27,Dv),(26,Et),(5,(e 21)),(6,v6),(25,DZ),(24,DI),(23,(e 21)),(22,D9)]) ds Is) ((Kx ro K) .normal (Env.of e [(7,(.bool false)),(44,(.bool false)),(43,(.bool false)),(29,(.bool false)),(42,undef),(38,(.bool false)),(41,undef),(38,(.bool false)),(40,undef),(38,(.bool false)),(39,undef),(38,(.bool false)),(38,G9),(29,(.bool false)),(37,G9),(29,(.bool false)),(36,G9),(33,(.bool true)),(35,FL),(33,(.bool true)),(34,EH),(33,(.bool true)),(33,DY),(29,(.bool false)),(32,DY),(29,(.bool false)),(31,Dg),(29,(.bool false)),(30,v30),(29,(.bool false)),(29,Dx),(28,Dx),(27,Dv),(26,Et),(5,(e 21)),(6,v6),(25,DZ),(24,DI),(23,(e 21)),(22,D9)]) ds Is)) ((Kx ro K) .normal (Env.of e [(7,(.bool false)),(44,(.bool false)),(43,(.bool false)),(29,(.bool false)),(42,undef),(38,(.bool false)),(41,undef),(38,(.bool false)),(40,undef),(38,(.bool false)),(39,undef),(38,(.bool false)),(38,(.bool false)),(29,(.bool false)),(37,(.bool false)),(29,(.bool false)),(36,undef),(33,(.bool false)),(35,undef),(33,(.bool false)),(34,undef),(33,(.bool false)),(33,DY),(29,(.bool false)),(32,DY),(29,(.bool false)),(31,Dg),(29,(.bool false)),(30,v30),(29,(.bool false)),(29,Dx),(28,Dx),(27,Dv),(26,Et),(5,(e 21)),(6,v6),(25,DZ),(24,DI),(23,(e 21)),(22,D9)]) ds Is)) (fun eF Nk=>(Kx ro K) (.panic eF) (Env.of e [(29,(.bool false)),(31,Dg),(29,(.bool false)),(30,v30),(29,(.bool false)),(29,Dx),(28,Dx),(27,Dv),(26,Et),(5,(e 21)),(6,v6),(25,DZ),(24,DI),(23,(e 21)),(22,D9)]) ds Nk)))) (K (.exit 0) (Env.of e [(22,D9)]) ds W)):=by kernel_rfl
def Ow (ro:Option Nat) (K:AB):AB:=Ag (fun e ds W=>wV (AH prog .add 3 true (e 83) (.int .i64 1)) fun M0=>K .normal (Env.of e [(83,M0),(102,M0)]) ds W) K
theorem wy (ro:Option Nat) (e:Env) (ds:List Deferred) (K:AB) (W:CW):AJ prog AM ro 47 104 (AY prog 47 1) e ds W K=(wV (AH prog .lss 3 false (e 83) (e 82)) fun JT=>wI JT (wV (Bm prog 22 (e 81) (e 83)) fun PT=>wV (ld prog 48 PT W) fun PU=>CZ (H2 prog 48 W) fun v9 W22=>wV (B5 prog 48 v9 PU W22) fun qp=>wV (ld prog 78 (e 4) qp) fun Sz=>wV (BD prog 48 v9 0) fun PR=>wV (ld prog 9 PR qp) fun TB=>AD prog AM 102 [Sz,TB] qp (AQ (fun Og nB=>wV (ext Og 0) fun QI=>wV (ext Og 1) fun UJ=>wV (KU UJ) fun jZ=>wI jZ (wV (ld prog 78 (e 4) nB) fun X_=>wV (B5 prog 78 (e 2) X_ nB) fun cQ=>(Ow ro K) .ret (Env.of e [(3,(.bool false)),(96,X_),(95,jZ),(94,UJ),(11,UJ),(10,QI),(93,UJ),(92,QI),(87,Og),(91,Og),(90,TB),(89,PR),(88,Sz),(9,v9),(86,PU),(85,PT),(84,JT)]) ds cQ) (wV (BD prog 78 (e 4) 1) fun ZC=>wV (ld prog 76 ZC nB) fun Ss=>wV (BD prog 48 v9 0) fun UI=>wV (ld prog 9 UI nB) fun Dd=>wV (cP prog 76 Ss Dd QI nB) fun ZD=>(Ow ro K) .normal (Env.of e [(101,QI),(100,Dd),(99,UI),(98,Ss),(97,ZC),(95,jZ),(94,UJ),(11,UJ),(10,QI),(93,UJ),(92,QI),(87,Og),(91,Og),(90,TB),(89,PR),(88,Sz),(9,v9),(86,PU),(85,PT),(84,JT)]) ds ZD)) (fun ADX dt=>(Ow ro K) (.panic ADX) (Env.of e [(90,TB),(89,PR),(88,Sz),(9,v9),(86,PU),(85,PT),(84,JT)]) ds dt))) (K (.exit 2) (Env.of e [(84,JT)]) ds W)):=by kernel_rfl
theorem ABA {Q:Ending→CW→Prop} {v0:Value} {W:CW} (h:AJ prog AM none 47 104 (AK prog 47) (Env.args [v0]) [] W (AI prog Tryz.f47 Q)):AD prog AM 47 [v0] W Q:=AX Tryz.func47 (by kernel_rfl) (by kernel_rfl) (by kernel_rfl) (by kernel_rfl) (by kernel_rfl) h
def ep (ro:Option Nat) (K:AB):AB:=Ag (fun e ds W=>wV (ld prog 83 (e 6) W) fun ABB=>wV (B5 prog 83 (e 4) ABB W) fun W7=>K .ret (Env.of e [(5,(.bool true)),(178,ABB)]) ds W7) K
def QT (ro:Option Nat) (K:AB):AB:=Ag (fun e ds W=>wV (A8 prog 23 (e 1) W) fun ADY=>Bj prog AM ro 48 179 (.loop (AY prog 48 2)) (Env.of e [(163,(.int .i64 0)),(162,ADY),(161,(e 1))]) ds W (Av 4 (ep ro K))) K
theorem ABC (v0 v1:Value) (K:AB) (W:CW):AJ prog AM none 48 179 (AK prog 48) (Env.args [v0,v1]) [] W K=(CZ (SZ prog 78 v0 W) fun v2 W0=>CZ (H2 prog 83 W0) fun v4 W1=>CZ (tI W1) fun D9 W2=>CZ (tI W2) fun DP W3=>wV (Sh prog 83 [(0,D9),(1,DP)]) fun DI=>CZ (H2 prog 83 W3) fun v6 W4=>wV (B5 prog 83 v6 DI W4) fun W5=>wV (A8 prog 23 v1 W5) fun Et=>wV (AH prog .gtr 3 true Et (.int .i64 20)) fun Dv=>wI Dv (wV (ld prog 83 v6 W5) fun Dx=>wV (B5 prog 83 v4 Dx W5) fun W6=>K .ret (Env.of (Env.args [v0,v1]) [(5,(.bool false)),(28,Dx),(27,Dv),(26,Et),(25,v1),(6,v6),(24,DI),(23,DP),(22,D9),(5,(.bool false)),(4,v4),(2,v2)]) [] W6) (wV (A8 prog 23 v1 W5) fun v30=>Bj prog AM none 48 179 (.loop (AY prog 48 0)) (Env.of (Env.args [v0,v1]) [(31,(.int .i64 0)),(30,v30),(29,v1),(27,Dv),(26,Et),(25,v1),(6,v6),(24,DI),(23,DP),(22,D9),(5,(.bool false)),(4,v4),(2,v2)]) [] W5 (Av 0 (QT none K)))):=by kernel_rfl
def JF (ro:Option Nat) (K:AB):AB:=Ag (fun e ds W=>wV (AH prog .add 3 true (e 31) (.int .i64 1)) fun jP=>K .normal (Env.of e [(31,jP),(160,jP)]) ds W) K
def Yb (ro:Option Nat) (K:AB):AB:=Ag (fun e ds W=>wV (BD prog 83 (e 6) 0) fun jQ=>wV (ld prog 81 jQ W) fun wz=>wV (BD prog 58 (e 8) 0) fun jR=>wV (ld prog 9 jR W) fun w4=>wV (BD prog 83 (e 6) 1) fun rQ=>wV (ld prog 81 rQ W) fun rR=>wV (BD prog 58 (e 8) 1) fun aE=>wV (ld prog 9 aE W) fun rS=>wV (ld prog 58 (e 8) W) fun dr=>wV (ld prog 58 (e 8) W) fun M3=>wV (cP prog 81 wz w4 dr W) fun Nk=>wV (cP prog 81 rR rS M3 Nk) fun tJ=>(((True)∧((ld prog 58 (e 8) Nk=some M3)∧ld prog 58 (e 8) W=some M3))∧(((True)∧((True)∧ld prog 58 (e 8) W=some dr))∧(((True)∧((ld prog 9 aE Nk=some rS)∧ld prog 9 aE W=some rS))∧(((True)∧((ld prog 81 rQ Nk=some rR)∧ld prog 81 rQ W=some rR))∧(((True)∧((True)∧ld prog 9 jR W=some w4))∧(((True)∧((True)∧ld prog 81 jQ W=some wz))∧True))))))∧True∧(JF ro K) .normal (Env.of e [(159,M3),(158,dr),(157,rS),(156,aE),(155,rR),(154,rQ),(153,w4),(152,jR),(151,wz),(150,jQ)]) ds tJ) (Av 1 (JF ro K))
def Ox (ro:Option Nat) (K:AB):AB:=Ag (fun e ds W=>wV (BD prog 83 (e 6) 1) fun ZC=>wV (ld prog 81 ZC W) fun Ss=>wV (BD prog 58 (e 8) 1) fun UI=>wV (ld prog 9 UI W) fun Dd=>wV (HW prog 81 Ss Dd true W) fun DC=>wV (ext DC 0) fun M0=>wV (ext DC 1) fun LJ=>CZ (H2 prog 58 W) fun C2 MQ=>wV (B5 prog 58 C2 M0 MQ) fun LI=>wI LJ (wV (ld prog 83 (e 6) LI) fun Gw=>wV (B5 prog 83 (e 4) Gw LI) fun Is=>(JF ro K) .ret (Env.of e [(5,(.bool false)),(105,Gw),(104,LJ),(14,LJ),(13,C2),(103,LJ),(102,M0),(96,DC),(101,DC),(100,Dd),(99,UI),(98,Ss),(97,ZC)]) ds Is) (wV (BD prog 58 (e 8) 2) fun Ok=>wV (ld prog 40 Ok LI) fun EY=>wV (A8 prog 40 EY LI) fun Bc=>Bj prog AM ro 48 179 (.loop (AY prog 48 1)) (Env.of e [(109,(.int .i64 0)),(108,Bc),(107,EY),(106,Ok),(104,LJ),(14,LJ),(13,C2),(103,LJ),(102,M0),(96,DC),(101,DC),(100,Dd),(99,UI),(98,Ss),(97,ZC)]) ds LI (Av 2 (Yb ro K)))) (Av 1 (JF ro K))
def H' (ro:Option Nat) (K:AB):AB:=Ag (fun e ds W=>wI (e 94) (wV (ld prog 83 (e 6) W) fun jZ=>wV (B5 prog 83 (e 4) jZ W) fun nB=>(Ox ro K) .ret (Env.of e [(5,(.bool false)),(95,jZ)]) ds nB) ((Ox ro K) .normal e ds W)) (Ox ro K)
theorem w5 (ro:Option Nat) (e:Env) (ds:List Deferred) (K:AB) (W:CW):AJ prog AM ro 48 179 (AY prog 48 0) e ds W K=(wV (AH prog .lss 3 false (e 31) (e 30)) fun DY=>wI DY (wV (Bm prog 23 (e 29) (e 31)) fun EH=>wV (ld prog 58 EH W) fun FL=>CZ (H2 prog 58 W) fun v8 Du=>wV (B5 prog 58 v8 FL Du) fun Il=>wV (BD prog 78 (e 2) 0) fun F1=>wV (ld prog 75 F1 Il) fun H6=>wV (BD prog 58 v8 0) fun H7=>wV (ld prog 9 H7 Il) fun EC=>wV (HW prog 75 H6 EC true Il) fun Df=>wV (ext Df 0) fun GH=>wV (ext Df 1) fun Fq=>CZ (H2 prog 48 Il) fun v9 H5=>wV (B5 prog 48 v9 GH H5) fun M4=>wV (BD prog 78 (e 2) 0) fun GD=>wV (ld prog 75 GD M4) fun EG=>wV (BD prog 58 v8 1) fun Fk=>wV (ld prog 9 Fk M4) fun EZ=>wV (HW prog 75 EG EZ true M4) fun HL=>wV (ext HL 0) fun F_=>wV (ext HL 1) fun GF=>CZ (H2 prog 48 M4) fun v11 Nj=>wV (B5 prog 48 v11 F_ Nj) fun CQ=>wV (KU Fq) fun FX=>wI FX (True∧True∧(H' ro K) .normal (Env.of e [(94,(.bool true)),(93,undef),(83,(.bool true)),(92,undef),(83,(.bool true)),(91,undef),(83,(.bool true)),(90,undef),(83,(.bool true)),(89,undef),(83,(.bool true)),(88,undef),(83,(.bool true)),(87,undef),(83,(.bool true)),(86,undef),(83,(.bool true)),(85,undef),(83,(.bool true)),(84,undef),(83,(.bool true)),(83,(.bool true)),(82,(.bool true)),(81,undef),(68,(.bool true)),(80,undef),(79,undef),(78,undef),(77,undef),(76,undef),(75,undef),(74,undef),(73,undef),(72,undef),(71,undef),(68,(.bool true)),(70,undef),(68,(.bool true)),(69,undef),(68,(.bool true)),(68,(.bool true)),(67,(.bool true)),(66,undef),(63,(.bool true)),(65,undef),(63,(.bool true)),(64,undef),(63,(.bool true)),(63,(.bool true)),(62,(.bool true)),(61,undef),(58,(.bool true)),(60,undef),(58,(.bool true)),(59,undef),(58,(.bool true)),(58,(.bool true)),(57,(.bool true)),(56,undef),(54,(.bool true)),(55,undef),(54,(.bool true)),(54,FX),(53,FX),(52,Fq),(12,GF),(11,v11),(51,GF),(50,F_),(44,HL),(49,HL),(48,EZ),(47,Fk),(46,EG),(45,GD),(10,Fq),(9,v9),(43,Fq),(42,GH),(36,Df),(41,Df),(40,EC),(39,H7),(38,H6),(37,F1),(7,(e 31)),(8,v8),(35,FL),(34,EH),(33,(e 31)),(32,DY)]) ds CQ) (wV (KU GF) fun D0=>wI D0 (True∧True∧(H' ro K) .normal (Env.of e [(94,(.bool true)),(93,undef),(83,(.bool true)),(92,undef),(83,(.bool true)),(91,undef),(83,(.bool true)),(90,undef),(83,(.bool true)),(89,undef),(83,(.bool true)),(88,undef),(83,(.bool true)),(87,undef),(83,(.bool true)),(86,undef),(83,(.bool true)),(85,undef),(83,(.bool true)),(84,undef),(83,(.bool true)),(83,(.bool true)),(82,(.bool true)),(81,undef),(68,(.bool true)),(80,undef),(79,undef),(78,undef),(77,undef),(76,undef),(75,undef),(74,undef),(73,undef),(72,undef),(71,undef),(68,(.bool true)),(70,undef),(68,(.bool true)),(69,undef),(68,(.bool true)),(68,(.bool true)),(67,(.bool true)),(66,undef),(63,(.bool true)),(65,undef),(63,(.bool true)),(64,undef),(63,(.bool true)),(63,(.bool true)),(62,(.bool true)),(61,undef),(58,(.bool true)),(60,undef),(58,(.bool true)),(59,undef),(58,(.bool true)),(58,D0),(57,D0),(56,D0),(54,(.bool false)),(55,GF),(54,(.bool false)),(54,FX),(53,FX),(52,Fq),(12,GF),(11,v11),(51,GF),(50,F_),(44,HL),(49,HL),(48,EZ),(47,Fk),(46,EG),(45,GD),(10,Fq),(9,v9),(43,Fq),(42,GH),(36,Df),(41,Df),(40,EC),(39,H7),(38,H6),(37,F1),(7,(e 31)),(8,v8),(35,FL),(34,EH),(33,(e 31)),(32,DY)]) ds CQ) (wV (BD prog 48 v9 3) fun Ko=>wV (ld prog 5 Ko CQ) fun GN=>wV (AH prog .neq 5 true GN (.int .u8 0)) fun Gj=>wI Gj ((ld prog 5 Ko CQ=some GN∧True)∧True∧(H' ro K) .normal (Env.of e [(94,(.bool true)),(93,undef),(83,(.bool true)),(92,undef),(83,(.bool true)),(91,undef),(83,(.bool true)),(90,undef),(83,(.bool true)),(89,undef),(83,(.bool true)),(88,undef),(83,(.bool true)),(87,undef),(83,(.bool true)),(86,undef),(83,(.bool true)),(85,undef),(83,(.bool true)),(84,undef),(83,(.bool true)),(83,(.bool true)),(82,(.bool true)),(81,undef),(68,(.bool true)),(80,undef),(79,undef),(78,undef),(77,undef),(76,undef),(75,undef),(74,undef),(73,undef),(72,undef),(71,undef),(68,(.bool true)),(70,undef),(68,(.bool true)),(69,undef),(68,(.bool true)),(68,(.bool true)),(67,(.bool true)),(66,undef),(63,(.bool true)),(65,undef),(63,(.bool true)),(64,undef),(63,(.bool true)),(63,Gj),(62,Gj),(61,Gj),(58,(.bool false)),(60,GN),(58,(.bool false)),(59,Ko),(58,(.bool false)),(58,D0),(57,D0),(56,D0),(54,(.bool false)),(55,GF),(54,(.bool false)),(54,FX),(53,FX),(52,Fq),(12,GF),(11,v11),(51,GF),(50,F_),(44,HL),(49,HL),(48,EZ),(47,Fk),(46,EG),(45,GD),(10,Fq),(9,v9),(43,Fq),(42,GH),(36,Df),(41,Df),(40,EC),(39,H7),(38,H6),(37,F1),(7,(e 31)),(8,v8),(35,FL),(34,EH),(33,(e 31)),(32,DY)]) ds CQ) (wV (BD prog 48 v11 3) fun Hx=>wV (ld prog 5 Hx CQ) fun JV=>wV (AH prog .neq 5 true JV (.int .u8 0)) fun IV=>wI IV ((ld prog 5 Hx CQ=some JV∧(ld prog 5 Ko CQ=some GN∧True))∧True∧(H' ro K) .normal (Env.of e [(94,(.bool true)),(93,undef),(83,(.bool true)),(92,undef),(83,(.bool true)),(91,undef),(83,(.bool true)),(90,undef),(83,(.bool true)),(89,undef),(83,(.bool true)),(88,undef),(83,(.bool true)),(87,undef),(83,(.bool true)),(86,undef),(83,(.bool true)),(85,undef),(83,(.bool true)),(84,undef),(83,(.bool true)),(83,(.bool true)),(82,(.bool true)),(81,undef),(68,(.bool true)),(80,undef),(79,undef),(78,undef),(77,undef),(76,undef),(75,undef),(74,undef),(73,undef),(72,undef),(71,undef),(68,(.bool true)),(70,undef),(68,(.bool true)),(69,undef),(68,(.bool true)),(68,IV),(67,IV),(66,IV),(63,(.bool false)),(65,JV),(63,(.bool false)),(64,Hx),(63,(.bool false)),(63,Gj),(62,Gj),(61,Gj),(58,(.bool false)),(60,GN),(58,(.bool false)),(59,Ko),(58,(.bool false)),(58,D0),(57,D0),(56,D0),(54,(.bool false)),(55,GF),(54,(.bool false)),(54,FX),(53,FX),(52,Fq),(12,GF),(11,v11),(51,GF),(50,F_),(44,HL),(49,HL),(48,EZ),(47,Fk),(46,EG),(45,GD),(10,Fq),(9,v9),(43,Fq),(42,GH),(36,Df),(41,Df),(40,EC),(39,H7),(38,H6),(37,F1),(7,(e 31)),(8,v8),(35,FL),(34,EH),(33,(e 31)),(32,DY)]) ds CQ) (wV (AH prog .gtr 3 true (e 31) (.int .i64 0)) fun Jj=>wI Jj (wV (AH prog .sub 3 true (e 31) (.int .i64 1)) fun MS=>wV (Bm prog 23 (e 1) MS) fun Jk=>wV (BD prog 58 Jk 0) fun MT=>wV (ld prog 9 MT CQ) fun JS=>wV (BD prog 58 v8 0) fun KZ=>wV (ld prog 9 KZ CQ) fun IG=>wV (AH prog .geq 9 false JS IG) fun LB=>wI LB ((ld prog 9 KZ CQ=some IG∧(ld prog 9 MT CQ=some JS∧(ld prog 5 Hx CQ=some JV∧(ld prog 5 Ko CQ=some GN∧True))))∧True∧(H' ro K) .normal (Env.of e [(94,(.bool true)),(93,undef),(83,(.bool true)),(92,undef),(83,(.bool true)),(91,undef),(83,(.bool true)),(90,undef),(83,(.bool true)),(89,undef),(83,(.bool true)),(88,undef),(83,(.bool true)),(87,undef),(83,(.bool true)),(86,undef),(83,(.bool true)),(85,undef),(83,(.bool true)),(84,undef),(83,(.bool true)),(83,LB),(82,LB),(81,LB),(68,(.bool false)),(80,LB),(71,(.bool true)),(79,IG),(71,(.bool true)),(78,KZ),(71,(.bool true)),(77,JS),(71,(.bool true)),(76,MT),(71,(.bool true)),(75,Jk),(71,(.bool true)),(74,MS),(71,(.bool true)),(73,(e 31)),(71,(.bool true)),(72,(e 1)),(71,(.bool true)),(71,Jj),(68,(.bool false)),(70,Jj),(68,(.bool false)),(69,(e 31)),(68,(.bool false)),(68,IV),(67,IV),(66,IV),(63,(.bool false)),(65,JV),(63,(.bool false)),(64,Hx),(63,(.bool false)),(63,Gj),(62,Gj),(61,Gj),(58,(.bool false)),(60,GN),(58,(.bool false)),(59,Ko),(58,(.bool false)),(58,D0),(57,D0),(56,D0),(54,(.bool false)),(55,GF),(54,(.bool false)),(54,FX),(53,FX),(52,Fq),(12,GF),(11,v11),(51,GF),(50,F_),(44,HL),(49,HL),(48,EZ),(47,Fk),(46,EG),(45,GD),(10,Fq),(9,v9),(43,Fq),(42,GH),(36,Df),(41,Df),(40,EC),(39,H7),(38,H6),(37,F1),(7,(e 31)),(8,v8),(35,FL),(34,EH),(33,(e 31)),(32,DY)]) ds CQ) (wV (BD prog 58 v8 2) fun JT=>wV (ld prog 40 JT CQ) fun PT=>wV (A8 prog 40 PT CQ) fun PU=>wV (BD prog 78 (e 2) 1) fun VS=>wV (ld prog 76 VS CQ) fun Sz=>wV (BD prog 58 v8 1) fun PR=>wV (ld prog 9 PR CQ) fun TB=>wV (HW prog 76 Sz TB false CQ) fun Og=>wV (A8 prog 29 Og CQ) fun QI=>wV (AH prog .neq 3 false PU QI) fun UJ=>(A8 prog 29 Og CQ=some QI∧(HW prog 76 Sz TB false CQ=some Og∧(ld prog 9 PR CQ=some TB∧(ld prog 76 VS CQ=some Sz∧(A8 prog 40 PT CQ=some PU∧(ld prog 40 JT CQ=some PT∧(ld prog 9 KZ CQ=some IG∧(ld prog 9 MT CQ=some JS∧(ld prog 5 Hx CQ=some JV∧(ld prog 5 Ko CQ=some GN∧True))))))))))∧True∧(H' ro K) .normal (Env.of e [(94,UJ),(93,UJ),(83,(.bool false)),(92,QI),(83,(.bool false)),(91,Og),(83,(.bool false)),(90,TB),(83,(.bool false)),(89,PR),(83,(.bool false)),(88,Sz),(83,(.bool false)),(87,VS),(83,(.bool false)),(86,PU),(83,(.bool false)),(85,PT),(83,(.bool false)),(84,JT),(83,(.bool false)),(83,LB),(82,LB),(81,LB),(68,(.bool false)),(80,LB),(71,(.bool true)),(79,IG),(71,(.bool true)),(78,KZ),(71,(.bool true)),(77,JS),(71,(.bool true)),(76,MT),(71,(.bool true)),(75,Jk),(71,(.bool true)),(74,MS),(71,(.bool true)),(73,(e 31)),(71,(.bool true)),(72,(e 1)),(71,(.bool true)),(71,Jj),(68,(.bool false)),(70,Jj),(68,(.bool false)),(69,(e 31)),(68,(.bool false)),(68,IV),(67,IV),(66,IV),(63,(.bool false)),(65,JV),(63,(.bool false)),(64,Hx),(63,(.bool false)),(63,Gj),(62,Gj),(61,Gj),(58,(.bool false)),(60,GN),(58,(.bool false)),(59,Ko),(58,(.bool false)),(58,D0),(57,D0),(56,D0),(54,(.bool false)),(55,GF),(54,(.bool false)),(54,FX),(53,FX),(52,Fq),(12,GF),(11,v11),(51,GF),(50,F_),(44,HL),(49,HL),(48,EZ),(47,Fk),(46,EG),(45,GD),(10,Fq),(9,v9),(43,Fq),(42,GH),(36,Df),(41,Df),(40,EC),(39,H7),(38,H6),(37,F1),(7,(e 31)),(8,v8),(35,FL),(34,EH),(33,(e 31)),(32,DY)]) ds CQ)) (wV (BD prog 58 v8 2) fun JT=>wV (ld prog 40 JT CQ) fun PT=>wV (A8 prog 40 PT CQ) fun PU=>wV (BD prog 78 (e 2) 1) fun VS=>wV (ld prog 76 VS CQ) fun Sz=>wV (BD prog 58 v8 1) fun PR=>wV (ld prog 9 PR CQ) fun TB=>wV (HW prog 76 Sz TB false CQ) fun Og=>wV (A8 prog 29 Og CQ) fun QI=>wV (AH prog .neq 3 false PU QI) fun UJ=>(A8 prog 29 Og CQ=some QI∧(HW prog 76 Sz TB false CQ=some Og∧(ld prog 9 PR CQ=some TB∧(ld prog 76 VS CQ=some Sz∧(A8 prog 40 PT CQ=some PU∧(ld prog 40 JT CQ=some PT∧(ld prog 5 Hx CQ=some JV∧(ld prog 5 Ko CQ=some GN∧True))))))))∧True∧(H' ro K) .normal (Env.of e [(94,UJ),(93,UJ),(83,(.bool false)),(92,QI),(83,(.bool false)),(91,Og),(83,(.bool false)),(90,TB),(83,(.bool false)),(89,PR),(83,(.bool false)),(88,Sz),(83,(.bool false)),(87,VS),(83,(.bool false)),(86,PU),(83,(.bool false)),(85,PT),(83,(.bool false)),(84,JT),(83,(.bool false)),(83,(.bool false)),(82,(.bool false)),(81,(.bool false)),(68,(.bool false)),(80,undef),(71,(.bool false)),(79,undef),(71,(.bool false)),(78,undef),(71,(.bool false)),(77,undef),(71,(.bool false)),(76,undef),(71,(.bool false)),(75,undef),(71,(.bool false)),(74,undef),(71,(.bool false)),(73,undef),(71,(.bool false)),(72,undef),(71,(.bool false)),(71,Jj),(68,(.bool false)),(70,Jj),(68,(.bool false)),(69,(e 31)),(68,(.bool false)),(68,IV),(67,IV),(66,IV),(63,(.bool false)),(65,JV),(63,(.bool false)),(64,Hx),(63,(.bool false)),(63,Gj),(62,Gj),(61,Gj),(58,(.bool false)),(60,GN),(58,(.bool false)),(59,Ko),(58,(.bool false)),(58,D0),(57,D0),(56,D0),(54,(.bool false)),(55,GF),(54,(.bool false)),(54,FX),(53,FX),(52,Fq),(12,GF),(11,v11),(51,GF),(50,F_),(44,HL),(49,HL),(48,EZ),(47,Fk),(46,EG),(45,GD),(10,Fq),(9,v9),(43,Fq),(42,GH),(36,Df),(41,Df),(40,EC),(39,H7),(38,H6),(37,F1),(7,(e 31)),(8,v8),(35,FL),(34,EH),(33,(e 31)),(32,DY)]) ds CQ)))))) (K (.exit 0) (Env.of e [(32,DY)]) ds W)):=by kernel_rfl
def Oy (ro:Option Nat) (K:AB):AB:=Ag (fun e ds W=>wV (AH prog .add 3 true (e 109) (.int .i64 1)) fun M1=>K .normal (Env.of e [(109,M1),(149,M1)]) ds W) K
def Oz (ro:Option Nat) (K:AB):AB:=Ag (fun e ds W=>wI (e 147) (wV (ld prog 83 (e 6) W) fun eI=>wV (B5 prog 83 (e 4) eI W) fun ZD=>(Oy ro K) .ret (Env.of e [(5,(.bool false)),(148,eI)]) ds ZD) ((Oy ro K) .normal e ds W)) (Av 3 (Oy ro K))
theorem w6 (ro:Option Nat) (e:Env) (ds:List Deferred) (K:AB) (W:CW):AJ prog AM ro 48 179 (AY prog 48 1) e ds W K=(wV (AH prog .lss 3 false (e 109) (e 108)) fun CG=>wI CG (wV (Bm prog 40 (e 107) (e 109)) fun QU=>wV (ld prog 3 QU W) fun Ho=>wV (BD prog 78 (e 2) 1) fun M6=>wV (ld prog 76 M6 W) fun EO=>wV (BD prog 58 (e 8) 0) fun Dc=>wV (ld prog 9 Dc W) fun DO=>wV (HW prog 76 EO DO false W) fun Ky=>wV (A8 prog 29 Ky W) fun Kn=>wV (AH prog .sub 3 true Kn (.int .i64 1)) fun UM=>AD prog AM 103 [Ho,(.int .i64 0),UM] W (AQ (fun OY gd=>wV (KU OY) fun Ek=>wI Ek ((((True)∧A8 prog 29 Ky W=some Kn)∧True)∧True∧(Oz ro K) .normal (Env.of e [(147,(.bool true)),(146,undef),(133,(.bool true)),(145,undef),(133,(.bool true)),(144,undef),(133,(.bool true)),(143,undef),(133,(.bool true)),(142,undef),(133,(.bool true)),(141,undef),(133,(.bool true)),(140,undef),(133,(.bool true)),(139,undef),(133,(.bool true)),(138,undef),(133,(.bool true)),(137,undef),(133,(.bool true)),(136,undef),(133,(.bool true)),(135,undef),(133,(.bool true)),(134,undef),(133,(.bool true)),(133,(.bool true)),(132,(.bool true)),(131,undef),(125,(.bool true)),(130,undef),(125,(.bool true)),(129,undef),(125,(.bool true)),(128,undef),(125,(.bool true)),(127,undef),(125,(.bool true)),(126,undef),(125,(.bool true)),(125,Ek),(124,Ek),(123,OY),(122,UM),(121,Kn),(120,Ky),(119,Ho),(17,Ky),(118,Ky),(117,DO),(116,Dc),(115,EO),(114,M6),(16,Ho),(15,(e 109)),(113,Ho),(112,QU),(111,(e 109)),(110,CG)]) ds gd) (wV (BD prog 58 (e 8) 2) fun DV=>wV (ld prog 40 DV gd) fun No=>wV (vA prog 40 No none (some (e 109)) none gd) fun OZ=>AD prog AM 104 [OZ,Ho] gd (AQ (fun E9 SF=>wI E9 ((((True)∧((vA prog 40 No none (some (e 109)) none gd=some OZ)∧True))∧(((True)∧((ld prog 40 DV gd=some No)∧True))∧(((True)∧((True)∧A8 prog 29 Ky W=some Kn))∧True)))∧True∧(Oz ro K) .normal (Env.of e [(147,(.bool true)),(146,undef),(133,(.bool true)),(145,undef),(133,(.bool true)),(144,undef),(133,(.bool true)),(143,undef),(133,(.bool true)),(142,undef),(133,(.bool true)),(141,undef),(133,(.bool true)),(140,undef),(133,(.bool true)),(139,undef),(133,(.bool true)),(138,undef),(133,(.bool true)),(137,undef),(133,(.bool true)),(136,undef),(133,(.bool true)),(135,undef),(133,(.bool true)),(134,undef),(133,(.bool true)),(133,E9),(132,E9),(131,E9),(125,(.bool false)),(130,Ho),(125,(.bool false)),(129,OZ),(125,(.bool false)),(128,(e 109)),(125,(.bool false)),(127,No),(125,(.bool false)),(126,DV),(125,(.bool false)),(125,Ek),(124,Ek),(123,OY),(122,UM),(121,Kn),(120,Ky),(119,Ho),(17,Ky),(118,Ky),(117,DO),(116,Dc),(115,EO),(114,M6),(16,Ho),(15,(e 109)),(113,Ho),(112,QU),(111,(e 109)),(110,CG)]) ds SF) (wV (Bm prog 29 Ky Ho) fun aj=>wV (ld prog 5 aj SF) fun GC=>wV (BD prog 78 (e 2) 1) fun ja=>wV (ld prog 76 ja SF) fun aw=>wV (BD prog 58 (e 8) 1) fun eu=>wV (ld prog 9 eu SF) fun Fj=>wV (HW prog 76 aw Fj false SF) fun UK=>wV (Bm prog 29 UK (e 109)) fun ew=>wV (ld prog 5 ew SF) fun Gh=>wV (AH prog .neq 5 false GC Gh) fun YK=>(((ld prog 5 ew SF=some Gh)∧True)∧(((HW prog 76 aw Fj false SF=some UK)∧True)∧(((ld prog 9 eu SF=some Fj)∧True)∧(((ld prog 76 ja SF=some aw)∧True)∧(((ld prog 5 aj SF=some GC)∧True)∧(((True)∧((vA prog 40 No none (some (e 109)) none gd=some OZ)∧True))∧(((True)∧((ld prog 40 DV gd=some No)∧True))∧(((True)∧((True)∧A8 prog 29 Ky W=some Kn))∧True))))))))∧True∧(Oz ro K) .normal (Env.of e [(147,YK),(146,YK),(133,(.bool false)),(145,Gh),(133,(.bool false)),(144,ew),(133,(.bool false)),(143,(e 109)),(133,(.bool false)),(142,UK),(133,(.bool false)),(141,Fj),(133,(.bool false)),(140,eu),(133,(.bool false)),(139,aw),(133,(.bool false)),(138,ja),(133,(.bool false)),(137,GC),(133,(.bool false)),(136,aj),(133,(.bool false)),(135,Ho),(133,(.bool false)),(134,Ky),(133,(.bool false)),(133,E9),(132,E9),(131,E9),(125,(.bool false)),(130,Ho),(125,(.bool false)),(129,OZ),(125,(.bool false)),(128,(e 109)),(125,(.bool false)),(127,No),(125,(.bool false)),(126,DV),(125,(.bool false)),(125,Ek),(124,Ek),(123,OY),(122,UM),(121,Kn),(120,Ky),(119,Ho),(17,Ky),(118,Ky),(117,DO),(116,Dc),(115,EO),(114,M6),(16,Ho),(15,(e 109)),(113,Ho),(112,QU),(111,(e 109)),(110,CG)]) ds SF)) (fun AFV vG=>False)))) (fun ADT pZ=>False))) (K (.exit 2) (Env.of e [(110,CG)]) ds W)):=by kernel_rfl
def TC (ro:Option Nat) (K:AB):AB:=Ag (fun e ds W=>wV (AH prog .add 3 true (e 163) (.int .i64 1)) fun ABD=>K .normal (Env.of e [(163,ABD),(177,ABD)]) ds W) K
theorem w7 (ro:Option Nat) (e:Env) (ds:List Deferred) (K:AB) (W:CW):AJ prog AM ro 48 179 (AY prog 48 2) e ds W K=(wV (AH prog .lss 3 false (e 163) (e 162)) fun aG=>wI aG (wV (Bm prog 23 (e 161) (e 163)) fun X9=>wV (ld prog 58 X9 W) fun Vt=>CZ (H2 prog 58 W) fun Di nU=>wV (B5 prog 58 Di Vt nU) fun SH=>wV (BD prog 83 (e 6) 0) fun w8=>wV (ld prog 81 w8 SH) fun w9=>wV (BD prog 58 Di 1) fun w_=>wV (ld prog 9 w_ SH) fun xA=>wV (HW prog 81 w9 xA true SH) fun jb=>wV (ext jb 0) fun xB=>wV (ext jb 1) fun ey=>CZ (H2 prog 58 SH) fun v20 W36=>wV (B5 prog 58 v20 xB W36) fun xC=>wI ey (wV (ld prog 83 (e 6) xC) fun ABE=>wV (B5 prog 83 (e 4) ABE xC) fun W38=>(TC ro K) .ret (Env.of e [(5,(.bool false)),(176,ABE),(175,ey),(21,ey),(20,v20),(174,ey),(173,xB),(167,jb),(172,jb),(171,xA),(170,w_),(169,w9),(168,w8),(19,Di),(166,Vt),(165,X9),(164,aG)]) ds W38) ((TC ro K) .normal (Env.of e [(175,ey),(21,ey),(20,v20),(174,ey),(173,xB),(167,jb),(172,jb),(171,xA),(170,w_),(169,w9),(168,w8),(19,Di),(166,Vt),(165,X9),(164,aG)]) ds xC)) (K (.exit 4) (Env.of e [(164,aG)]) ds W)):=by kernel_rfl
theorem ABF {Q:Ending→CW→Prop} {v0 v1:Value} {W:CW} (h:AJ prog AM none 48 179 (AK prog 48) (Env.args [v0,v1]) [] W (AI prog Tryz.f48 Q)):AD prog AM 48 [v0,v1] W Q:=AX Tryz.func48 (by kernel_rfl) (by kernel_rfl) (by kernel_rfl) (by kernel_rfl) (by kernel_rfl) h
def JZ (ro:Option Nat) (K:AB):AB:=Ag (fun e ds W=>wV (ld prog 78 (e 8) W) fun DY=>wV (B5 prog 78 (e 6) DY W) fun W5=>K .ret (Env.of e [(7,(.int .i64 0)),(32,DY)]) ds W5) K
theorem ABG (v0 v1 v2:Value) (K:AB) (W:CW):AJ prog AM none 49 33 (AK prog 49) (Env.args [v0,v1,v2]) [] W K=(CZ (H2 prog 78 W) fun v6 W0=>AD prog AM 47 [v0] W0 (AQ (fun CV W1=>wV (ext CV 0) fun C2=>wV (ext CV 1) fun Bu=>CZ (H2 prog 78 W1) fun v8 W3=>wV (B5 prog 78 v8 C2 W3) fun W4=>wV (KU Bu) fun CH=>wI CH (wV (ld prog 78 v8 W4) fun DE=>wV (B5 prog 78 v6 DE W4) fun W7=>(JZ none K) .ret (Env.of (Env.args [v0,v1,v2]) [(7,(.int .i64 210)),(18,DE),(15,CH),(17,CH),(16,Bu),(9,Bu),(8,v8),(14,Bu),(13,C2),(10,CV),(12,CV),(11,v0),(7,(.int .i64 0)),(6,v6)]) [] W7) (wV (ld prog 78 v8 W4) fun v20=>AD prog AM 84 [v20,v1] W4 (AQ (fun D9 W8=>wV (AH prog .geq 3 true D9 (.int .i64 0)) fun DP=>wI DP (wV (ld prog 78 v8 W8) fun DI=>wV (B5 prog 78 v6 DI W8) fun Rq=>(JZ none K) .ret (Env.of (Env.args [v0,v1,v2]) [(7,(.int .i64 211)),(24,DI),(19,DP),(23,DP),(22,D9),(21,v1),(20,v20),(15,CH),(17,CH),(16,Bu),(9,Bu),(8,v8),(14,Bu),(13,C2),(10,CV),(12,CV),(11,v0),(7,(.int .i64 0)),(6,v6)]) [] Rq) (wV (A8 prog 24 v1 W8) fun Dx=>AD prog AM 103 [v2,(.int .i64 0),Dx] W8 (AQ (fun C5 Du=>wV (KU C5) fun v30=>wI v30 (wV (ld prog 78 v8 Du) fun Dg=>wV (B5 prog 78 v6 Dg Du) fun H5=>(JZ none K) .ret (Env.of (Env.args [v0,v1,v2]) [(7,(.int .i64 1)),(31,Dg),(25,v30),(30,v30),(29,C5),(28,Dx),(27,v1),(26,v2),(19,DP),(23,DP),(22,D9),(21,v1),(20,v20),(15,CH),(17,CH),(16,Bu),(9,Bu),(8,v8),(14,Bu),(13,C2),(10,CV),(12,CV),(11,v0),(7,(.int .i64 0)),(6,v6)]) [] H5) ((JZ none K) .normal (Env.of (Env.args [v0,v1,v2]) [(25,v30),(30,v30),(29,C5),(28,Dx),(27,v1),(26,v2),(19,DP),(23,DP),(22,D9),(21,v1),(20,v20),(15,CH),(17,CH),(16,Bu),(9,Bu),(8,v8),(14,Bu),(13,C2),(10,CV),(12,CV),(11,v0),(7,(.int .i64 0)),(6,v6)]) [] Du)) (fun AAt Il=>(JZ none K) (.panic AAt) (Env.of (Env.args [v0,v1,v2]) [(28,Dx),(27,v1),(26,v2),(19,DP),(23,DP),(22,D9),(21,v1),(20,v20),(15,CH),(17,CH),(16,Bu),(9,Bu),(8,v8),(14,Bu),(13,C2),(10,CV),(12,CV),(11,v0),(7,(.int .i64 0)),(6,v6)]) [] Il)))) (fun lN W9=>(JZ none K) (.panic lN) (Env.of (Env.args [v0,v1,v2]) [(21,v1),(20,v20),(15,CH),(17,CH),(16,Bu),(9,Bu),(8,v8),(14,Bu),(13,C2),(10,CV),(12,CV),(11,v0),(7,(.int .i64 0)),(6,v6)]) [] W9)))) (fun dw W2=>K (.panic dw) (Env.of (Env.args [v0,v1,v2]) [(11,v0),(7,(.int .i64 0)),(6,v6)]) [] W2))):=by kernel_rfl
theorem ABH {Q:Ending→CW→Prop} {v0 v1 v2:Value} {W:CW} (h:AJ prog AM none 49 33 (AK prog 49) (Env.args [v0,v1,v2]) [] W (AI prog Tryz.f49 Q)):AD prog AM 49 [v0,v1,v2] W Q:=AX Tryz.func49 (by kernel_rfl) (by kernel_rfl) (by kernel_rfl) (by kernel_rfl) (by kernel_rfl) h
def nV (ro:Option Nat) (K:AB):AB:=Ag (fun e ds W=>K .ret (Env.of e [(4,(e 5)),(42,(e 5))]) ds W) K
theorem ABI (v0 v1:Value) (K:AB) (W:CW):AJ prog AM none 50 43 (AK prog 50) (Env.args [v0,v1]) [] W K=(CZ (tI W) fun v9 W0=>wV (Sh prog 100 [(1,v9)]) fun v10=>CZ (SZ prog 100 v10 W0) fun v11 W1=>AD prog AM 105 [v11,v0] W1 (AQ (fun Bu W2=>Bj prog AM none 50 43 (.loop (AY prog 50 0)) (Env.of (Env.args [v0,v1]) [(6,(.int .i64 0)),(14,Bu),(13,v0),(12,v11),(5,v11),(11,v11),(10,v10),(9,v9),(4,(.pointer none))]) [] W2 (Av 0 (nV none K))) (fun PS W3=>K (.panic PS) (Env.of (Env.args [v0,v1]) [(13,v0),(12,v11),(5,v11),(11,v11),(10,v10),(9,v9),(4,(.pointer none))]) [] W3))):=by kernel_rfl
def ez (ro:Option Nat) (K:AB):AB:=Ag (fun e ds W=>wV (AH prog .add 3 true (e 6) (.int .i64 1)) fun DP=>K .normal (Env.of e [(6,DP),(23,DP),(22,(e 6))]) ds W) K
theorem xD (ro:Option Nat) (e:Env) (ds:List Deferred) (K:AB) (W:CW):AJ prog AM ro 50 43 (AY prog 50 0) e ds W K=(wV (HV (e 5)) fun CH=>wV (BD prog 100 CH 0) fun DE=>wV (ld prog 40 DE W) fun Di=>wV (A8 prog 40 Di W) fun v20=>wV (AH prog .lss 3 false (e 6) v20) fun DQ=>wI DQ (wV (HV (e 5)) fun Et=>wV (BD prog 100 Et 0) fun Dv=>wV (ld prog 40 Dv W) fun Dx=>wV (Bm prog 40 Dx (e 6)) fun v30=>wV (ld prog 3 v30 W) fun Dg=>Ej prog AM (e 1) [Dg] W (fun DY W6=>wV (A8 prog 40 DY W6) fun FJ=>Bj prog AM ro 50 43 (.loop (AY prog 50 1)) (Env.of e [(34,(.int .i64 0)),(33,FJ),(32,DY),(31,Dg),(30,v30),(29,(e 6)),(28,Dx),(27,Dv),(26,Et),(25,(e 5)),(24,(e 1)),(21,DQ),(20,v20),(19,Di),(18,DE),(17,CH),(16,(e 5)),(15,(e 6))]) ds W6 (Av 2 (Av 1 (ez ro K)))) (fun qi W7=>(ez ro K) (.panic qi) (Env.of e [(31,Dg),(30,v30),(29,(e 6)),(28,Dx),(27,Dv),(26,Et),(25,(e 5)),(24,(e 1)),(21,DQ),(20,v20),(19,Di),(18,DE),(17,CH),(16,(e 5)),(15,(e 6))]) ds W7)) (K (.exit 0) (Env.of e [(21,DQ),(20,v20),(19,Di),(18,DE),(17,CH),(16,(e 5)),(15,(e 6))]) ds W)):=by kernel_rfl
def e_ (ro:Option Nat) (K:AB):AB:=Ag (fun e ds W=>wV (AH prog .add 3 true (e 34) (.int .i64 1)) fun Df=>K .normal (Env.of e [(34,Df),(41,Df)]) ds W) K
theorem xE (ro:Option Nat) (e:Env) (ds:List Deferred) (K:AB) (W:CW):AJ prog AM ro 50 43 (AY prog 50 1) e ds W K=(wV (AH prog .lss 3 false (e 34) (e 33)) fun FL=>wI FL (wV (Bm prog 40 (e 32) (e 34)) fun G9=>wV (ld prog 3 G9 W) fun F1=>AD prog AM 105 [(e 5),F1] W (AQ (fun EC W9=>(e_ ro K) .normal (Env.of e [(40,EC),(39,F1),(38,(e 5)),(8,F1),(37,F1),(36,G9),(35,FL)]) ds W9) (fun aF Rq=>(e_ ro K) (.panic aF) (Env.of e [(39,F1),(38,(e 5)),(8,F1),(37,F1),(36,G9),(35,FL)]) ds Rq))) (K (.exit 2) (Env.of e [(35,FL)]) ds W)):=by kernel_rfl
theorem jc (Q:Ending→CW→Prop) (e:Env) (W:CW):AI prog Tryz.f50 Q .ret e [] W=Q (.returned (e 4)) W:=by kernel_rfl
theorem ABJ {Q:Ending→CW→Prop} {v0 v1:Value} {W:CW} (h:AJ prog AM none 50 43 (AK prog 50) (Env.args [v0,v1]) [] W (AI prog Tryz.f50 Q)):AD prog AM 50 [v0,v1] W Q:=AX Tryz.func50 (by kernel_rfl) (by kernel_rfl) (by kernel_rfl) (by kernel_rfl) (by kernel_rfl) h
def fA (ro:Option Nat) (K:AB):AB:=Ag (fun e ds W=>wV (ld prog 40 (e 5) W) fun DP=>K .ret (Env.of e [(4,DP),(23,DP)]) ds W) K
theorem ABK (v0 v1:Value) (K:AB) (W:CW):AJ prog AM none 52 24 (AK prog 52) (Env.args [v0,v1]) [] W K=(CZ (SZ prog 78 v0 W) fun v2 W0=>CZ (SZ prog 56 v1 W0) fun v3 W1=>CZ (H2 prog 40 W1) fun v5 W2=>wV (ld prog 78 v2 W2) fun v8=>wV (ld prog 56 v3 W2) fun v9=>AD prog AM 62 [v8,v9] W2 (AQ (fun v10 W4=>Bj prog AM none 52 24 (.rangeFunc (.tmp 10) #[11,12] (AU prog 52 0) (AV prog 52 0)) (Env.of (Env.args [v0,v1]) [(10,v10),(9,v9),(8,v8),(5,v5),(4,(.slice none 0 0)),(3,v3),(2,v2)]) [] W4 (Av 0 (fA none K))) (fun jL W5=>(fA none K) (.panic jL) (Env.of (Env.args [v0,v1]) [(9,v9),(8,v8),(5,v5),(4,(.slice none 0 0)),(3,v3),(2,v2)]) [] W5))):=by kernel_rfl
theorem xF (ro:Option Nat) (e:Env) (ds:List Deferred) (K:AB) (W:CW):AJ prog AM ro 52 24 (AU prog 52 0) e ds W K=(K .normal (Env.of e [(7,(e 12)),(6,(e 11))]) ds W):=by kernel_rfl
theorem xG (ro:Option Nat) (e:Env) (ds:List Deferred) (K:AB) (W:CW):AJ prog AM ro 52 24 (AV prog 52 0) e ds W K=(wV (AH prog .eql 5 true (e 7) (.int .u8 2)) fun Bu=>wI Bu (wV (ld prog 40 (e 5) W) fun Bh=>wV (BD prog 56 (e 3) 1) fun CI=>wV (ld prog 40 CI W) fun CH=>wV (Bm prog 40 CH (e 6)) fun Di=>wV (ld prog 3 Di W) fun v20=>CZ (Vs prog 40 1 [(0,v20)] W) fun DQ W6=>CZ (app prog [40,40] Bh DQ W6) fun D9 W7=>wV (B5 prog 40 (e 5) D9 W7) fun W8=>(((True)∧((True)∧((True)∧ld prog 3 Di W=some v20)))∧(((True)∧((True)∧((True)∧ld prog 40 CI W=some CH)))∧(((True)∧((True)∧((ld prog 40 (e 5) W6=some Bh)∧ld prog 40 (e 5) W=some Bh)))∧True)))∧True∧K .normal (Env.of e [(22,D9),(21,DQ),(20,v20),(19,Di),(18,(e 6)),(17,CH),(16,CI),(15,Bh),(14,Bu),(13,(e 7))]) ds W8) (K .normal (Env.of e [(14,Bu),(13,(e 7))]) ds W)):=by kernel_rfl
theorem jd (Q:Ending→CW→Prop) (e:Env) (W:CW):AI prog Tryz.f52 Q .ret e [] W=Q (.returned (e 4)) W:=by kernel_rfl
theorem ABL {Q:Ending→CW→Prop} {v0 v1:Value} {W:CW} (h:AJ prog AM none 52 24 (AK prog 52) (Env.args [v0,v1]) [] W (AI prog Tryz.f52 Q)):AD prog AM 52 [v0,v1] W Q:=AX Tryz.func52 (by kernel_rfl) (by kernel_rfl) (by kernel_rfl) (by kernel_rfl) (by kernel_rfl) h
theorem ABM (v0 v1:Value) (K:AB) (W:CW):AJ prog AM none 62 6 (AK prog 62) (Env.args [v0,v1]) [] W K=(CZ (SZ prog 78 v0 W) fun v2 W0=>CZ (SZ prog 56 v1 W0) fun v3 W1=>wV (some (.func (.func 108) #[] #[v2,v3])) fun v5=>K .ret (Env.of (Env.args [v0,v1]) [(4,v5),(5,v5),(4,(.nilFunc)),(3,v3),(2,v2)]) [] W1):=by kernel_rfl
theorem je (Q:Ending→CW→Prop) (e:Env) (W:CW):AI prog Tryz.f62 Q .ret e [] W=Q (.returned (e 4)) W:=by kernel_rfl
theorem ABN {Q:Ending→CW→Prop} {v0 v1:Value} {W:CW} (h:AJ prog AM none 62 6 (AK prog 62) (Env.args [v0,v1]) [] W (AI prog Tryz.f62 Q)):AD prog AM 62 [v0,v1] W Q:=AX Tryz.func62 (by kernel_rfl) (by kernel_rfl) (by kernel_rfl) (by kernel_rfl) (by kernel_rfl) h
theorem ABO (v0 v1:Value) (K:AB) (W:CW):AJ prog AM none 84 11 (AK prog 84) (Env.args [v0,v1]) [] W K=(CZ (SZ prog 78 v0 W) fun v2 W0=>CZ (SZ prog 24 v1 W0) fun v3 W1=>wV (ld prog 24 v3 W1) fun v5=>wV (A8 prog 24 v5 W1) fun v6=>wV (AH prog .gtr 3 true v6 (.int .i64 1000)) fun v7=>wI v7 (K .ret (Env.of (Env.args [v0,v1]) [(4,(.int .i64 1000)),(7,v7),(6,v6),(5,v5),(4,(.int .i64 0)),(3,v3),(2,v2)]) [] W1) (wV (ld prog 24 v3 W1) fun v8=>wV (some (.func (.func 118) #[] #[v2,v3])) fun v9=>AD prog AM 117 [v8,v9] W1 (AQ (fun v10 W2=>K .ret (Env.of (Env.args [v0,v1]) [(4,v10),(10,v10),(9,v9),(8,v8),(7,v7),(6,v6),(5,v5),(4,(.int .i64 0)),(3,v3),(2,v2)]) [] W2) (fun PS W3=>K (.panic PS) (Env.of (Env.args [v0,v1]) [(9,v9),(8,v8),(7,v7),(6,v6),(5,v5),(4,(.int .i64 0)),(3,v3),(2,v2)]) [] W3)))):=by kernel_rfl
theorem Ws (Q:Ending→CW→Prop) (e:Env) (W:CW):AI prog Tryz.f84 Q .ret e [] W=Q (.returned (e 4)) W:=by kernel_rfl
theorem ABP {Q:Ending→CW→Prop} {v0 v1:Value} {W:CW} (h:AJ prog AM none 84 11 (AK prog 84) (Env.args [v0,v1]) [] W (AI prog Tryz.f84 Q)):AD prog AM 84 [v0,v1] W Q:=AX Tryz.func84 (by kernel_rfl) (by kernel_rfl) (by kernel_rfl) (by kernel_rfl) (by kernel_rfl) h
def O0 (ro:Option Nat) (K:AB):AB:=Ag (fun e ds W=>wV (HV (e 0)) fun CH=>wV (BD prog 100 CH 0) fun DE=>wV (ld prog 40 DE W) fun Di=>CZ (Vs prog 40 1 [(0,(e 1))] W) fun DQ W0=>CZ (app prog [40,40] Di DQ W0) fun D9 W1=>wV (HV (e 0)) fun DP=>wV (BD prog 100 DP 0) fun DI=>wV (B5 prog 40 DI D9 W1) fun W2=>wV (HV (e 0)) fun Et=>wV (BD prog 100 Et 1) fun Dv=>wV (ld prog 98 Dv W2) fun Dx=>wV (HV (e 0)) fun Dg=>wV (BD prog 100 Dg 0) fun DY=>wV (ld prog 40 DY W2) fun FJ=>wV (A8 prog 40 FJ W2) fun EH=>wV (cP prog 98 Dx (e 1) EH W2) fun W3=>(((True)∧A8 prog 40 FJ W2=some EH)∧(((True)∧ld prog 40 DY W2=some FJ)∧(((True)∧ld prog 98 Dv W2=some Dx)∧True)))∧True∧K .normal (Env.of e [(34,EH),(33,FJ),(32,DY),(31,Dg),(30,(e 0)),(29,(e 1)),(28,Dx),(27,Dv),(26,Et),(25,(e 0)),(24,DI),(23,DP),(22,D9),(21,DQ),(20,(e 1)),(19,Di),(18,DE),(17,CH),(16,(e 0)),(15,(e 0))]) ds W3) K
def TD (ro:Option Nat) (K:AB):AB:=Ag (fun e ds W=>wI (e 14) ((O0 ro K) .ret e ds W) ((O0 ro K) .normal e ds W)) (O0 ro K)
theorem xH (v0 v1:Value) (K:AB) (W:CW):AJ prog AM none 105 35 (AK prog 105) (Env.args [v0,v1]) [] W K=(wV (AH prog .eql 3 true v1 (.int .i64 0)) fun v5=>wI v5 ((TD none K) .normal (Env.of (Env.args [v0,v1]) [(14,(.bool true)),(13,undef),(6,(.bool true)),(12,undef),(6,(.bool true)),(11,undef),(6,(.bool true)),(10,undef),(6,(.bool true)),(9,undef),(6,(.bool true)),(8,undef),(6,(.bool true)),(7,undef),(6,(.bool true)),(6,v5),(5,v5),(4,v1)]) [] W) (wV (HV v0) fun v8=>wV (BD prog 100 v8 1) fun v9=>wV (ld prog 98 v9 W) fun v10=>wV (HW prog 98 v10 v1 false W) fun CV=>wV (AH prog .gtr 3 true CV (.int .i64 0)) fun C2=>(TD none K) .normal (Env.of (Env.args [v0,v1]) [(14,C2),(13,C2),(6,(.bool false)),(12,CV),(6,(.bool false)),(11,v1),(6,(.bool false)),(10,v10),(6,(.bool false)),(9,v9),(6,(.bool false)),(8,v8),(6,(.bool false)),(7,v0),(6,(.bool false)),(6,v5),(5,v5),(4,v1)]) [] W)):=by kernel_rfl
theorem fB (Q:Ending→CW→Prop) (e:Env) (W:CW):AI prog Tryz.f105 Q .ret e [] W=Q (.returned (.tuple #[])) W:=by kernel_rfl
theorem xI {Q:Ending→CW→Prop} {v0 v1:Value} {W:CW} (h:AJ prog AM none 105 35 (AK prog 105) (Env.args [v0,v1]) [] W (AI prog Tryz.f105 Q)):AD prog AM 105 [v0,v1] W Q:=AX Tryz.func105 (by kernel_rfl) (by kernel_rfl) (by kernel_rfl) (by kernel_rfl) (by kernel_rfl) h
theorem xJ (v0 v1 v2:Value) (K:AB) (W:CW):AJ prog AM none 108 36 (AK prog 108) (Env.args [v0,v1,v2]) [] W K=(wV (BD prog 78 v1 0) fun v7=>wV (ld prog 75 v7 W) fun v8=>wV (BD prog 56 v2 0) fun v9=>wV (ld prog 9 v9 W) fun v10=>wV (HW prog 75 v8 v10 false W) fun v11=>wV (vB prog 48 v11 3) fun CV=>wV (BD prog 56 v2 1) fun C2=>wV (ld prog 40 C2 W) fun Bu=>wV (A8 prog 40 Bu W) fun Bh=>Bj prog AM none 108 36 (.loop (AY prog 108 0)) (Env.of (Env.args [v0,v1,v2]) [(16,(.int .i64 0)),(15,Bh),(14,Bu),(13,C2),(4,CV),(12,CV),(11,v11),(10,v10),(9,v9),(8,v8),(7,v7)]) [] W (Av 0 K)):=by kernel_rfl
def Mh (ro:Option Nat) (K:AB):AB:=Ag (fun e ds W=>wV (AH prog .add 3 true (e 16) (.int .i64 1)) fun FL=>K .normal (Env.of e [(16,FL),(35,FL)]) ds W) K
def TE (ro:Option Nat) (K:AB):AB:=Ag (fun e ds W=>Ej prog AM (e 0) [(e 5),(e 6)] W (fun FJ W1=>wV (KU FJ) fun EH=>wI EH ((Mh ro K) .ret (Env.of e [(34,EH),(33,FJ),(32,(e 6)),(31,(e 5)),(30,(e 0))]) ds W1) ((Mh ro K) .normal (Env.of e [(34,EH),(33,FJ),(32,(e 6)),(31,(e 5)),(30,(e 0))]) ds W1)) (fun dw W2=>(Mh ro K) (.panic dw) (Env.of e [(32,(e 6)),(31,(e 5)),(30,(e 0))]) ds W2)) (Av 1 (Mh ro K))
theorem rT (ro:Option Nat) (e:Env) (ds:List Deferred) (K:AB) (W:CW):AJ prog AM ro 108 36 (AY prog 108 0) e ds W K=(wV (AH prog .lss 3 false (e 16) (e 15)) fun CH=>wI CH (wV (AH prog .eql 5 true (e 4) (.int .u8 0)) fun DQ=>wI DQ (wV (BD prog 78 (e 1) 1) fun D9=>wV (ld prog 76 D9 W) fun DP=>wV (BD prog 56 (e 2) 0) fun DI=>wV (ld prog 9 DI W) fun DZ=>wV (HW prog 76 DP DZ false W) fun Et=>wV (Bm prog 29 Et (e 16)) fun Dx=>wV (ld prog 5 Dx W) fun C5=>(TE ro K) .normal (Env.of e [(6,C5),(29,C5),(28,Dx),(27,(e 16)),(26,Et),(25,DZ),(24,DI),(23,DP),(22,D9),(21,DQ),(20,(e 4)),(6,(e 4)),(19,(e 4)),(5,(e 16)),(18,(e 16)),(17,CH)]) ds W) ((TE ro K) .normal (Env.of e [(21,DQ),(20,(e 4)),(6,(e 4)),(19,(e 4)),(5,(e 16)),(18,(e 16)),(17,CH)]) ds W)) (K (.exit 0) (Env.of e [(17,CH)]) ds W)):=by kernel_rfl
theorem xK {Q:Ending→CW→Prop} {v0 v1 v2:Value} {W:CW} (h:AJ prog AM none 108 36 (AK prog 108) (Env.args [v0,v1,v2]) [] W (AI prog Tryz.f108 Q)):AD prog AM 108 [v0,v1,v2] W Q:=AX Tryz.func108 (by kernel_rfl) (by kernel_rfl) (by kernel_rfl) (by kernel_rfl) (by kernel_rfl) h
def Yc (ro:Option Nat) (K:AB):AB:=Ag (fun e ds W=>K .ret (Env.of e [(4,(.int .i64 (-1)))]) ds W) K
theorem xL (v0 v1:Value) (K:AB) (W:CW):AJ prog AM none 117 19 (AK prog 117) (Env.args [v0,v1]) [] W K=(wV (A8 prog 24 v0 W) fun v7=>Bj prog AM none 117 19 (.loop (AY prog 117 0)) (Env.of (Env.args [v0,v1]) [(8,(.int .i64 0)),(7,v7),(6,v0),(4,(.int .i64 0))]) [] W (Av 0 (Yc none K))):=by kernel_rfl
def O1 (ro:Option Nat) (K:AB):AB:=Ag (fun e ds W=>wV (AH prog .add 3 true (e 8) (.int .i64 1)) fun DE=>K .normal (Env.of e [(8,DE),(18,DE)]) ds W) K
theorem rU (ro:Option Nat) (e:Env) (ds:List Deferred) (K:AB) (W:CW):AJ prog AM ro 117 19 (AY prog 117 0) e ds W K=(wV (AH prog .lss 3 false (e 8) (e 7)) fun v9=>wI v9 (wV (Bm prog 24 (e 0) (e 8)) fun Bu=>wV (ld prog 56 Bu W) fun Bh=>Ej prog AM (e 1) [Bh] W (fun CI W2=>wI CI ((O1 ro K) .ret (Env.of e [(4,(e 8)),(17,(e 8)),(16,CI),(15,Bh),(14,Bu),(13,(e 8)),(12,(e 0)),(11,(e 1)),(5,(e 8)),(10,(e 8)),(9,v9)]) ds W2) ((O1 ro K) .normal (Env.of e [(16,CI),(15,Bh),(14,Bu),(13,(e 8)),(12,(e 0)),(11,(e 1)),(5,(e 8)),(10,(e 8)),(9,v9)]) ds W2)) (fun PS W3=>(O1 ro K) (.panic PS) (Env.of e [(15,Bh),(14,Bu),(13,(e 8)),(12,(e 0)),(11,(e 1)),(5,(e 8)),(10,(e 8)),(9,v9)]) ds W3)) (K (.exit 0) (Env.of e [(9,v9)]) ds W)):=by kernel_rfl
theorem Uw (Q:Ending→CW→Prop) (e:Env) (W:CW):AI prog Tryz.f117 Q .ret e [] W=Q (.returned (e 4)) W:=by kernel_rfl
theorem xM {Q:Ending→CW→Prop} {v0 v1:Value} {W:CW} (h:AJ prog AM none 117 19 (AK prog 117) (Env.args [v0,v1]) [] W (AI prog Tryz.f117 Q)):AD prog AM 117 [v0,v1] W Q:=AX Tryz.func117 (by kernel_rfl) (by kernel_rfl) (by kernel_rfl) (by kernel_rfl) (by kernel_rfl) h
theorem xN (v0 v1 v2:Value) (K:AB) (W:CW):AJ prog AM none 118 11 (AK prog 118) (Env.args [v0,v1,v2]) [] W K=(CZ (SZ prog 56 v0 W) fun v3 W0=>wV (ld prog 78 v1 W0) fun v5=>wV (ld prog 56 v3 W0) fun v6=>wV (ld prog 24 v2 W0) fun v7=>wV (A8 prog 24 v7 W0) fun v8=>AD prog AM 119 [v5,v6,v8] W0 (AQ (fun v9 W1=>wV (KU v9) fun v10=>K .ret (Env.of (Env.args [v0,v1,v2]) [(4,v10),(10,v10),(9,v9),(8,v8),(7,v7),(6,v6),(5,v5),(4,(.bool false)),(3,v3)]) [] W1) (fun dw W2=>K (.panic dw) (Env.of (Env.args [v0,v1,v2]) [(8,v8),(7,v7),(6,v6),(5,v5),(4,(.bool false)),(3,v3)]) [] W2))):=by kernel_rfl
theorem fC (Q:Ending→CW→Prop) (e:Env) (W:CW):AI prog Tryz.f118 Q .ret e [] W=Q (.returned (e 4)) W:=by kernel_rfl
theorem xO {Q:Ending→CW→Prop} {v0 v1 v2:Value} {W:CW} (h:AJ prog AM none 118 11 (AK prog 118) (Env.args [v0,v1,v2]) [] W (AI prog Tryz.f118 Q)):AD prog AM 118 [v0,v1,v2] W Q:=AX Tryz.func118 (by kernel_rfl) (by kernel_rfl) (by kernel_rfl) (by kernel_rfl) (by kernel_rfl) h
def O2 (ro:Option Nat) (K:AB):AB:=Ag (fun e ds W=>wV (B5 prog 4 (e 6) (.bool true) W) fun W6=>K .ret e ds W6) K
def L6 (ro:Option Nat) (K:AB):AB:=Ag (fun e ds W=>wV (ld prog 78 (e 3) W) fun GD=>wV (ld prog 56 (e 4) W) fun EG=>AD prog AM 62 [GD,EG] W (AQ (fun Fk W8=>Bj prog AM ro 119 72 (.rangeFunc (.tmp 47) #[48,49] (AU prog 119 0) (AV prog 119 0)) (Env.of e [(47,Fk),(46,EG),(45,GD)]) ds W8 (Av 0 (O2 ro K))) (fun lN W9=>(O2 ro K) (.panic lN) (Env.of e [(46,EG),(45,GD)]) ds W9))) K
def J3 (ro:Option Nat) (K:AB):AB:=Ag (fun e ds W=>wI (e 44) (wV (B5 prog 4 (e 6) (.bool false) W) fun Du=>(L6 ro K) .ret e ds Du) ((L6 ro K) .normal e ds W)) (L6 ro K)
theorem xP (v0 v1 v2:Value) (K:AB) (W:CW):AJ prog AM none 119 72 (AK prog 119) (Env.args [v0,v1,v2]) [] W K=(CZ (SZ prog 78 v0 W) fun v3 W0=>CZ (SZ prog 56 v1 W0) fun v4 W1=>CZ (SZ prog 3 v2 W1) fun v5 W2=>CZ (H2 prog 4 W2) fun v6 W3=>wV (BD prog 78 v3 0) fun C2=>wV (ld prog 75 C2 W3) fun Bu=>wV (BD prog 56 v4 0) fun Bh=>wV (ld prog 9 Bh W3) fun CI=>wV (HW prog 75 Bu CI true W3) fun CH=>wV (ext CH 0) fun DE=>wV (ext CH 1) fun Di=>CZ (H2 prog 48 W3) fun v7 W4=>wV (B5 prog 48 v7 DE W4) fun W5=>wV (KU Di) fun DQ=>wI DQ ((J3 none K) .normal (Env.of (Env.args [v0,v1,v2]) [(44,(.bool true)),(43,undef),(39,(.bool true)),(42,undef),(39,(.bool true)),(41,undef),(39,(.bool true)),(40,undef),(39,(.bool true)),(39,(.bool true)),(38,(.bool true)),(37,undef),(22,(.bool true)),(36,undef),(35,undef),(34,undef),(33,undef),(32,undef),(31,undef),(30,undef),(29,undef),(28,undef),(27,undef),(26,undef),(22,(.bool true)),(25,undef),(22,(.bool true)),(24,undef),(22,(.bool true)),(23,undef),(22,(.bool true)),(22,DQ),(21,DQ),(20,Di),(8,Di),(7,v7),(19,Di),(18,DE),(12,CH),(17,CH),(16,CI),(15,Bh),(14,Bu),(13,C2),(6,v6),(5,v5),(4,v4),(3,v3)]) [] W5) (wV (BD prog 48 v7 3) fun DP=>wV (ld prog 5 DP W5) fun DI=>wV (AH prog .eql 5 true DI (.int .u8 0)) fun DZ=>wI DZ (wV (BD prog 56 v4 1) fun Dv=>wV (ld prog 40 Dv W5) fun Dx=>wV (A8 prog 40 Dx W5) fun C5=>wV (BD prog 78 v3 1) fun v30=>wV (ld prog 76 v30 W5) fun Dg=>wV (BD prog 56 v4 0) fun DY=>wV (ld prog 9 DY W5) fun FJ=>wV (HW prog 76 Dg FJ false W5) fun EH=>wV (A8 prog 29 EH W5) fun FL=>wV (AH prog .neq 3 false C5 FL) fun G9=>wI G9 ((J3 none K) .normal (Env.of (Env.args [v0,v1,v2]) [(44,(.bool true)),(43,undef),(39,(.bool true)),(42,undef),(39,(.bool true)),(41,undef),(39,(.bool true)),(40,undef),(39,(.bool true)),(39,G9),(38,G9),(37,G9),(22,(.bool false)),(36,G9),(26,(.bool true)),(35,FL),(26,(.bool true)),(34,EH),(26,(.bool true)),(33,FJ),(26,(.bool true)),(32,DY),(26,(.bool true)),(31,Dg),(26,(.bool true)),(30,v30),(26,(.bool true)),(29,C5),(26,(.bool true)),(28,Dx),(26,(.bool true)),(27,Dv),(26,(.bool true)),(26,DZ),(22,(.bool false)),(25,DZ),(22,(.bool false)),(24,DI),(22,(.bool false)),(23,DP),(22,(.bool false)),(22,DQ),(21,DQ),(20,Di),(8,Di),(7,v7),(19,Di),(18,DE),(12,CH),(17,CH),(16,CI),(15,Bh),(14,Bu),(13,C2),(6,v6),(5,v5),(4,v4),(3,v3)]) [] W5) (wV (BD prog 56 v4 1) fun EC=>wV (ld prog 40 EC W5) fun Df=>wV (A8 prog 40 Df W5) fun GH=>wV (AH prog .gtr 3 true GH (.int .i64 200)) fun Fq=>(J3 none K) .normal (Env.of (Env.args [v0,v1,v2]) [(44,Fq),(43,Fq),(39,(.bool false)),(42,GH),(39,(.bool false)),(41,Df),(39,(.bool false)),(40,EC),(39,(.bool false)),(39,G9),(38,G9),(37,G9),(22,(.bool false)),(36,G9),(26,(.bool true)),(35,FL),(26,(.bool true)),(34,EH),(26,(.bool true)),(33,FJ),(26,(.bool true)),(32,DY),(26,(.bool true)),(31,Dg),(26,(.bool true)),(30,v30),(26,(.bool true)),(29,C5),(26,(.bool true)),(28,Dx),(26,(.bool true)),(27,Dv),(26,(.bool true)),(26,DZ),(22,(.bool false)),(25,DZ),(22,(.bool false)),(24,DI),(22,(.bool false)),(23,DP),(22,(.bool false)),(22,DQ),(21,DQ),(20,Di),(8,Di),(7,v7),(19,Di),(18,DE),(12,CH),(17,CH),(16,CI),(15,Bh),(14,Bu),(13,C2),(6,v6),(5,v5),(4,v4),(3,v3)]) [] W5)) (wV (BD prog 56 v4 1) fun EC=>wV (ld prog 40 EC W5) fun Df=>wV (A8 prog 40 Df W5) fun GH=>wV (AH prog .gtr 3 true GH (.int .i64 200)) fun Fq=>(J3 none K) .normal (Env.of (Env.args [v0,v1,v2]) [(44,Fq),(43,Fq),(39,(.bool false)),(42,GH),(39,(.bool false)),(41,Df),(39,(.bool false)),(40,EC),(39,(.bool false)),(39,(.bool false)),(38,(.bool false)),(37,(.bool false)),(22,(.bool false)),(36,undef),(26,(.bool false)),(35,undef),(26,(.bool false)),(34,undef),(26,(.bool false)),(33,undef),(26,(.bool false)),(32,undef),(26,(.bool false)),(31,undef),(26,(.bool false)),(30,undef),(26,(.bool false)),(29,undef),(26,(.bool false)),(28,undef),(26,(.bool false)),(27,undef),(26,(.bool false)),(26,DZ),(22,(.bool false)),(25,DZ),(22,(.bool false)),(24,DI),(22,(.bool false)),(23,DP),(22,(.bool false)),(22,DQ),(21,DQ),(20,Di),(8,Di),(7,v7),(19,Di),(18,DE),(12,CH),(17,CH),(16,CI),(15,Bh),(14,Bu),(13,C2),(6,v6),(5,v5),(4,v4),(3,v3)]) [] W5))):=by kernel_rfl
theorem rV (ro:Option Nat) (e:Env) (ds:List Deferred) (K:AB) (W:CW):AJ prog AM ro 119 72 (AU prog 119 0) e ds W K=(K .normal (Env.of e [(10,(e 49)),(9,(e 48))]) ds W):=by kernel_rfl
def Fm (ro:Option Nat) (K:AB):AB:=Ag (fun e ds W=>wI (e 71) (wV (B5 prog 4 (e 6) (.bool false) W) fun H5=>K .ret e ds H5) (K .normal e ds W)) (Av 1 K)
theorem rX (ro:Option Nat) (e:Env) (ds:List Deferred) (K:AB) (W:CW):AJ prog AM ro 119 72 (AV prog 119 0) e ds W K=(wV (BD prog 56 (e 4) 1) fun F_=>wV (ld prog 40 F_ W) fun GF=>wV (Bm prog 40 GF (e 9)) fun FX=>wV (ld prog 3 FX W) fun E_=>wV (AH prog .eql 5 true (e 10) (.int .u8 1)) fun D0=>wI D0 (AD prog AM 103 [E_,(.int .i64 (-1000000000)),(.int .i64 1000000000)] W (AQ (fun Ko Nj=>wV (KU Ko) fun GN=>wI GN ((Fm ro K) .normal (Env.of e [(71,(.bool true)),(70,undef),(62,(.bool true)),(69,undef),(68,undef),(67,undef),(66,undef),(65,undef),(62,(.bool true)),(64,undef),(62,(.bool true)),(63,undef),(62,(.bool true)),(62,GN),(61,GN),(60,GN),(57,(.bool true)),(59,Ko),(57,(.bool true)),(58,E_),(57,(.bool true)),(57,D0),(56,D0),(55,(e 10)),(11,E_),(54,E_),(53,FX),(52,(e 9)),(51,GF),(50,F_)]) ds Nj) (wV (AH prog .eql 5 true (e 10) (.int .u8 2)) fun Hx=>wI Hx (wV (ld prog 3 (e 5) Nj) fun Nm=>AD prog AM 103 [E_,(.int .i64 0),Nm] Nj (AQ (fun Ji MQ=>wV (KU Ji) fun G8=>(Fm ro K) .normal (Env.of e [(71,G8),(70,G8),(62,(.bool false)),(69,G8),(65,(.bool true)),(68,Ji),(65,(.bool true)),(67,Nm),(65,(.bool true)),(66,E_),(65,(.bool true)),(65,Hx),(62,(.bool false)),(64,Hx),(62,(.bool false)),(63,(e 10)),(62,(.bool false)),(62,GN),(61,GN),(60,GN),(57,(.bool true)),(59,Ko),(57,(.bool true)),(58,E_),(57,(.bool true)),(57,D0),(56,D0),(55,(e 10)),(11,E_),(54,E_),(53,FX),(52,(e 9)),(51,GF),(50,F_)]) ds MQ) (fun jN LI=>(Fm ro K) (.panic jN) (Env.of e [(65,(.bool true)),(67,Nm),(65,(.bool true)),(66,E_),(65,(.bool true)),(65,Hx),(62,(.bool false)),(64,Hx),(62,(.bool false)),(63,(e 10)),(62,(.bool false)),(62,GN),(61,GN),(60,GN),(57,(.bool true)),(59,Ko),(57,(.bool true)),(58,E_),(57,(.bool true)),(57,D0),(56,D0),(55,(e 10)),(11,E_),(54,E_),(53,FX),(52,(e 9)),(51,GF),(50,F_)]) ds LI))) ((Fm ro K) .normal (Env.of e [(71,(.bool false)),(70,(.bool false)),(62,(.bool false)),(69,undef),(65,(.bool false)),(68,undef),(65,(.bool false)),(67,undef),(65,(.bool false)),(66,undef),(65,(.bool false)),(65,Hx),(62,(.bool false)),(64,Hx),(62,(.bool false)),(63,(e 10)),(62,(.bool false)),(62,GN),(61,GN),(60,GN),(57,(.bool true)),(59,Ko),(57,(.bool true)),(58,E_),(57,(.bool true)),(57,D0),(56,D0),(55,(e 10)),(11,E_),(54,E_),(53,FX),(52,(e 9)),(51,GF),(50,F_)]) ds Nj))) (fun vE CQ=>(Fm ro K) (.panic vE) (Env.of e [(57,(.bool true)),(58,E_),(57,(.bool true)),(57,D0),(56,D0),(55,(e 10)),(11,E_),(54,E_),(53,FX),(52,(e 9)),(51,GF),(50,F_)]) ds CQ))) (wV (AH prog .eql 5 true (e 10) (.int .u8 2)) fun Hx=>wI Hx (wV (ld prog 3 (e 5) W) fun Nm=>AD prog AM 103 [E_,(.int .i64 0),Nm] W (AQ (fun Ji Is=>wV (KU Ji) fun G8=>(Fm ro K) .normal (Env.of e [(71,G8),(70,G8),(62,(.bool false)),(69,G8),(65,(.bool true)),(68,Ji),(65,(.bool true)),(67,Nm),(65,(.bool true)),(66,E_),(65,(.bool true)),(65,Hx),(62,(.bool false)),(64,Hx),(62,(.bool false)),(63,(e 10)),(62,(.bool false)),(62,(.bool false)),(61,(.bool false)),(60,undef),(57,(.bool false)),(59,undef),(57,(.bool false)),(58,undef),(57,(.bool false)),(57,D0),(56,D0),(55,(e 10)),(11,E_),(54,E_),(53,FX),(52,(e 9)),(51,GF),(50,F_)]) ds Is) (fun eF Nk=>(Fm ro K) (.panic eF) (Env.of e [(65,(.bool true)),(67,Nm),(65,(.bool true)),(66,E_),(65,(.bool true)),(65,Hx),(62,(.bool false)),(64,Hx),(62,(.bool false)),(63,(e 10)),(62,(.bool false)),(62,(.bool false)),(61,(.bool false)),(60,undef),(57,(.bool false)),(59,undef),(57,(.bool false)),(58,undef),(57,(.bool false)),(57,D0),(56,D0),(55,(e 10)),(11,E_),(54,E_),(53,FX),(52,(e 9)),(51,GF),(50,F_)]) ds Nk))) ((Fm ro K) .normal (Env.of e [(71,(.bool false)),(70,(.bool false)),(62,(.bool false)),(69,undef),(65,(.bool false)),(68,undef),(65,(.bool false)),(67,undef),(65,(.bool false)),(66,undef),(65,(.bool false)),(65,Hx),(62,(.bool false)),(64,Hx),(62,(.bool false)),(63,(e 10)),(62,(.bool false)),(62,(.bool false)),(61,(.bool false)),(60,undef),(57,(.bool false)),(59,undef),(57,(.bool false)),(58,undef),(57,(.bool false)),(57,D0),(56,D0),(55,(e 10)),(11,E_),(54,E_),(53,FX),(52,(e 9)),(51,GF),(50,F_)]) ds W))):=by kernel_rfl
theorem xQ {Q:Ending→CW→Prop} {v0 v1 v2:Value} {W:CW} (h:AJ prog AM none 119 72 (AK prog 119) (Env.args [v0,v1,v2]) [] W (AI prog Tryz.f119 Q)):AD prog AM 119 [v0,v1,v2] W Q:=AX Tryz.func119 (by kernel_rfl) (by kernel_rfl) (by kernel_rfl) (by kernel_rfl) (by kernel_rfl) h
theorem xR (v0 v1:Value) (K:AB) (W:CW):AJ prog AM none 104 9 (AK prog 104) (Env.args [v0,v1]) [] W K=(AD prog AM 126 [v0,v1] W (AQ (fun v7 W0=>wV (AH prog .geq 3 true v7 (.int .i64 0)) fun v8=>K .ret (Env.of (Env.args [v0,v1]) [(4,v8),(8,v8),(7,v7),(6,v1),(5,v0),(4,(.bool false))]) [] W0) (fun Jh W1=>K (.panic Jh) (Env.of (Env.args [v0,v1]) [(6,v1),(5,v0),(4,(.bool false))]) [] W1))):=by kernel_rfl
theorem fD (Q:Ending→CW→Prop) (e:Env) (W:CW):AI prog Tryz.f104 Q .ret e [] W=Q (.returned (e 4)) W:=by kernel_rfl
theorem xS {Q:Ending→CW→Prop} {v0 v1:Value} {W:CW} (h:AJ prog AM none 104 9 (AK prog 104) (Env.args [v0,v1]) [] W (AI prog Tryz.f104 Q)):AD prog AM 104 [v0,v1] W Q:=AX Tryz.func104 (by kernel_rfl) (by kernel_rfl) (by kernel_rfl) (by kernel_rfl) (by kernel_rfl) h
def Yd (ro:Option Nat) (K:AB):AB:=Ag (fun e ds W=>K .ret (Env.of e [(4,(.int .i64 (-1)))]) ds W) K
theorem xT (v0 v1:Value) (K:AB) (W:CW):AJ prog AM none 126 19 (AK prog 126) (Env.args [v0,v1]) [] W K=(wV (A8 prog 40 v0 W) fun v7=>Bj prog AM none 126 19 (.loop (AY prog 126 0)) (Env.of (Env.args [v0,v1]) [(8,(.int .i64 0)),(7,v7),(6,v0),(4,(.int .i64 0))]) [] W (Av 0 (Yd none K))):=by kernel_rfl
def TF (ro:Option Nat) (K:AB):AB:=Ag (fun e ds W=>wV (AH prog .add 3 true (e 8) (.int .i64 1)) fun DE=>K .normal (Env.of e [(8,DE),(18,DE)]) ds W) K
theorem rY (ro:Option Nat) (e:Env) (ds:List Deferred) (K:AB) (W:CW):AJ prog AM ro 126 19 (AY prog 126 0) e ds W K=(wV (AH prog .lss 3 false (e 8) (e 7)) fun v9=>wI v9 (wV (Bm prog 40 (e 0) (e 8)) fun Bu=>wV (ld prog 3 Bu W) fun Bh=>wV (AH prog .eql 3 false (e 1) Bh) fun CI=>wI CI ((TF ro K) .ret (Env.of e [(4,(e 8)),(17,(e 8)),(16,CI),(15,Bh),(14,Bu),(13,(e 8)),(12,(e 0)),(11,(e 1)),(5,(e 8)),(10,(e 8)),(9,v9)]) ds W) ((TF ro K) .normal (Env.of e [(16,CI),(15,Bh),(14,Bu),(13,(e 8)),(12,(e 0)),(11,(e 1)),(5,(e 8)),(10,(e 8)),(9,v9)]) ds W)) (K (.exit 0) (Env.of e [(9,v9)]) ds W)):=by kernel_rfl
theorem Ux (Q:Ending→CW→Prop) (e:Env) (W:CW):AI prog Tryz.f126 Q .ret e [] W=Q (.returned (e 4)) W:=by kernel_rfl
theorem xU {Q:Ending→CW→Prop} {v0 v1:Value} {W:CW} (h:AJ prog AM none 126 19 (AK prog 126) (Env.args [v0,v1]) [] W (AI prog Tryz.f126 Q)):AD prog AM 126 [v0,v1] W Q:=AX Tryz.func126 (by kernel_rfl) (by kernel_rfl) (by kernel_rfl) (by kernel_rfl) (by kernel_rfl) h
end Go.Ce
namespace Go.Ce
open Go Go.Proofs Go.Proofs.Tryz
theorem O3:∀ a:List UInt8,SP a a=false
 | []=>rfl
 | a::x=>by
  simp only [SP,Nat.beq_refl,Bool.true_and,O3 x,Bool.or_false]
  cases h:Nat.blt a.toNat a.toNat with
  | false=>rfl
  | true=>have:=Nat.le_of_ble_eq_true h; omega
theorem Mi:∀ a b c:List UInt8,SP a b=true→SP b c=true→SP a c=true
 | _,_,[],_,h=>by simp [SP] at h
 | _,[],_::_,h,_=>by simp [SP] at h
 | [],_::_,_::_,_,_=>rfl
 | a::x,b::y,c::z,h1,h2=>by
  simp only [SP,Bool.or_eq_true,Bool.and_eq_true] at h1 h2 ⊢; have blt:∀ m n:Nat,Nat.blt m n=true↔m<n:=fun m n=>⟨fun h=>Nat.le_of_ble_eq_true h,fun h=>Nat.ble_eq_true_of_le h⟩
  rw [blt,Nat.beq_eq] at h1 h2 ⊢
  rcases h1 with h1 | ⟨h1,h1'⟩
  ·rcases h2 with h2 | ⟨h2,zi⟩
   ·exact .inl (Nat.lt_trans h1 h2)
   ·exact .inl (by omega)
  ·rcases h2 with h2 | ⟨h2,zi⟩
   ·exact .inl (by omega)
   ·exact .inr ⟨by omega,Mi x y z h1' zi⟩
theorem nW {c:List Aj}:∀ {i:Nat},(∀ j,j<i→BU c j=false)→∀ j k x y,j<k→k<i→c[j]?=some x→c[k]?=some y→SP (sb x.name) (sb y.name)=true:=by
 intro i h j k
 induction k with
 | zero=>intro x y hj; omega
 | succ k ih =>
  intro x y hj hk hx hy; have hb:=h (k+1) hk; unfold BU at hb; rw [hy] at hb; simp only [Bool.or_eq_false_iff] at hb; have hp:=hb.1.2; unfold IZ at hp; have h_:k<c.length:=by have:=(List.getElem?_eq_some_iff.1 hy).1; omega
  have hz:=List.getElem?_eq_getElem h_; simp only [hz,Bool.not_eq_false'] at hp
  rcases Nat.lt_succ_iff_lt_or_eq.1 hj with h1 | rfl
  ·exact Mi _ _ _ (ih x _ h1 (by omega) hx hz) hp
  ·rw [hx] at hz; cases hz; exact hp
theorem fE {c:List Aj} {i:Nat} (h:∀ j,j<i→BU c j=false) {j k:Nat} {x y:Aj} (hjk:j≠k) (hj:j<i) (hk:k<i) (hx:c[j]?=some x) (hy:c[k]?=some y):x.name≠y.name:=by
 intro e
 rcases Nat.lt_or_gt_of_ne hjk with h1 | h1
 ·have:=nW h j k x y h1 hk hx hy; rw [e,O3] at this; cases this
 ·have:=nW h k j y x h1 hj hy hx; rw [e,O3] at this; cases this
theorem rZ {c:List Aj} (h:∀ j,j<c.length→BU c j=false) {i:Nat} {x:Aj} (hx:c[i]?=some x):BL c x.name=some i:=by
 unfold BL; have hi:=(List.getElem?_eq_some_iff.1 hx).1; have he:=(List.getElem?_eq_some_iff.1 hx).2; rw [List.findIdx?_eq_some_iff_getElem]; refine ⟨hi,by rw [he]; simp,fun j hj=>?_⟩; have Vy:j<c.length:=by omega
 have:=fE h (by omega:j≠i) Vy hi (List.getElem?_eq_getElem Vy) hx
 simpa using this
theorem DX {c:List Aj} {f i:Nat} {l:List Nat} {x:Aj} (hx:c[i]?=some x) (h:Bs c f i=some l):(x.By=EP∧l=[i])∨(x.By≠EP∧∃ f' j m,f=f'+1∧Vw c i=some j∧Bs c f' j=some m∧l=i::m):=by
 by_cases hs:x.By=EP
 ·rw [Me hx hs] at h; exact .inl ⟨hs,(Option.some.inj h).symm⟩
 ·right; refine ⟨hs,?_⟩
  cases f with
  | zero=>rw [eX hx hs] at h; cases h
  | succ f =>
   rw [Ns hx hs] at h
   cases hj:Vw c i with
   | none=>rw [hj] at h; cases h
   | some j =>
    rw [hj] at h; simp only at h
    cases h1:Bs c f j with
    | none=>rw [h1] at h; cases h
    | some m =>
     rw [h1] at h; exact ⟨f,j,m,rfl,rfl,h1,(Option.some.inj h).symm⟩
theorem FP {c:List Aj} {f i:Nat} {l:List Nat} (h:Bs c f i=some l):∃ x,c[i]?=some x:=by
 unfold Bs at h
 cases hx:c[i]? with
 | none=>rw [hx] at h; cases h
 | some x=>exact ⟨x,rfl⟩
theorem Wt {c:List Aj}:∀ {f i:Nat} {l:List Nat},Bs c f i=some l→∀ {f':Nat} {l':List Nat},Bs c f' i=some l'→l=l':=by
 intro f
 induction f with
 | zero =>
  intro i l h f' l' h'; obtain ⟨x,hx⟩:=FP h
  rcases DX hx h with ⟨hs,rfl⟩ | ⟨hs,f1,j,m,h1,_⟩
  ·rcases DX hx h' with ⟨_,rfl⟩ | ⟨KB,_⟩
   ·rfl
   ·exact (KB hs).elim
  ·omega
 | succ f ih =>
  intro i l h f' l' h'; obtain ⟨x,hx⟩:=FP h
  rcases DX hx h with ⟨hs,rfl⟩ | ⟨hs,f1,j,m,h1,h2,h3,rfl⟩
  ·rcases DX hx h' with ⟨_,rfl⟩ | ⟨KB,_⟩
   ·rfl
   ·exact (KB hs).elim
  ·rcases DX hx h' with ⟨KB,_⟩ | ⟨_,f1',j',m',h1',zi,h3',rfl⟩
   ·exact (hs KB).elim
   ·have:f1=f:=by omega
    subst this; rw [h2] at zi
    cases zi
    rw [ih h3 h3']
theorem jf {c:List Aj}:∀ {f i:Nat} {l:List Nat},Bs c f i=some l→∀ k,l.length≤k+1→Bs c k i=some l:=by
 intro f
 induction f with
 | zero =>
  intro i l h k hk; obtain ⟨x,hx⟩:=FP h
  rcases DX hx h with ⟨hs,rfl⟩ | ⟨hs,f1,j,m,h1,_⟩
  ·exact Me hx hs
  ·omega
 | succ f ih =>
  intro i l h k hk; obtain ⟨x,hx⟩:=FP h
  rcases DX hx h with ⟨hs,rfl⟩ | ⟨hs,f1,j,m,h1,h2,h3,rfl⟩
  ·exact Me hx hs
  ·have:f1=f:=by omega
   subst this; simp only [List.length_cons] at hk
   have hm:0<m.length:=by
    obtain ⟨y,hy⟩:=FP h3; rcases DX hy h3 with ⟨_,rfl⟩ | ⟨_,_,_,_,_,_,_,rfl⟩ <;> simp
   cases k with
   | zero=>omega
   | succ k =>
    rw [Ns hx hs,h2]; simp only; rw [ih h3 k (by omega)]; rfl
theorem a6 {c:List Aj}:∀ {f i:Nat} {l:List Nat},Bs c f i=some l→∀ j,j ∈ l→∃ f' m,Bs c f' j=some m∧m.length≤l.length:=by
 intro f
 induction f with
 | zero =>
  intro i l h j hj; obtain ⟨x,hx⟩:=FP h
  rcases DX hx h with ⟨hs,rfl⟩ | ⟨hs,f1,j,m,h1,_⟩
  ·rw [List.mem_singleton.1 hj]; exact ⟨_,_,h,Nat.le_refl _⟩
  ·omega
 | succ f ih =>
  intro i l h j hj; obtain ⟨x,hx⟩:=FP h
  rcases DX hx h with ⟨hs,rfl⟩ | ⟨hs,f1,k,m,h1,h2,h3,rfl⟩
  ·rw [List.mem_singleton.1 hj]; exact ⟨_,_,h,Nat.le_refl _⟩
  ·have:f1=f:=by omega
   subst this
   rcases List.mem_cons.1 hj with rfl | hj
   ·exact ⟨_,_,h,Nat.le_refl _⟩
   ·obtain ⟨f',m',h4,h5⟩:=ih h3 j hj; exact ⟨f',m',h4,by simp only [List.length_cons]; omega⟩
theorem fF {c:List Aj}:∀ {f i:Nat} {l:List Nat},Bs c f i=some l→l.Nodup:=by
 intro f
 induction f with
 | zero =>
  intro i l h; obtain ⟨x,hx⟩:=FP h
  rcases DX hx h with ⟨hs,rfl⟩ | ⟨hs,f1,j,m,h1,_⟩
  ·exact List.pairwise_singleton _ _
  ·omega
 | succ f ih =>
  intro i l h; obtain ⟨x,hx⟩:=FP h
  rcases DX hx h with ⟨hs,rfl⟩ | ⟨hs,f1,k,m,h1,h2,h3,rfl⟩
  ·exact List.pairwise_singleton _ _
  ·have:f1=f:=by omega
   subst this; refine List.nodup_cons.2 ⟨fun hm=>?_,ih h3⟩; obtain ⟨f',m',h4,h5⟩:=a6 h3 i hm; have:=Wt h h4; rw [←this] at h5; simp only [List.length_cons] at h5; omega
theorem iA {n:Nat} {o:List Nat} (h:o.Nodup) (hl:∀ v,v ∈ o→v<n):o.length≤n:=by
 have:=Up n (o.map fun v:Nat=>((v:Int)+1)) (by
  rw [List.Nodup,List.pairwise_map]
  exact h.imp fun EB e=>EB (by omega)) fun v hv=>by
   obtain ⟨u,hu,rfl⟩:=List.mem_map.1 hv; have:=hl u hu; omega
 rwa [List.length_map] at this
theorem Wu {c:List Aj} {f i:Nat} {l:List Nat} (h:Bs c f i=some l):Bs c c.length i=some l :=
 jf h _ (by have:=iA (fF h) (Ku c _ _ _ h).2; omega)
def CC:List ByteArray→List UT→Bool
 | _,[]=>true
 | F,f::fs=>(GB f.name && (Hy f.kind && !F.any fun s=>decide (s=f.name))) && CC (F++[f.name]) fs
theorem F4:∀ (F:List ByteArray) (fs gs:List UT),CC F (fs++gs)=(CC F fs && CC (F++fs.map (·.name)) gs)
 | F,[],gs=>by simp [CC]
 | F,f::fs,gs=>by
  rw [List.cons_append,CC,CC,F4]; simp [Bool.and_assoc]
theorem Ry {fs:List UT}:∀ k,k≤fs.length→(CC [] (fs.take k)=true↔∀ j,j<k→Ia fs j=false)
 | 0,_=>by simp [CC]
 | k+1,hk=>by
  have hx:=List.getElem?_eq_getElem (show k<fs.length by omega); have ih:=Ry k (by omega:k≤fs.length); rw [List.take_add_one,hx,Option.toList_some,F4,Bool.and_eq_true,ih]
  have hb:Ia fs k=false↔CC ([]++(fs.take k).map (·.name)) [fs[k]]=true:=by
   unfold Ia CC CC; rw [hx]; simp only [Bool.and_true,Bool.and_eq_true,Bool.or_eq_false_iff,Bool.not_eq_false',Bool.not_eq_true',List.nil_append]
   have:Um fs k fs[k].name=((fs.take k).map (·.name)).any fun s=>decide (s=fs[k].name):=by
    unfold Um Dt; rw [Bool.eq_iff_iff,List.any_eq_true,List.any_eq_true]
    constructor
    ·rintro ⟨n,hn,h⟩; have hnk:=List.mem_range.1 hn; rw [List.getElem?_eq_getElem (by omega)] at h; refine ⟨fs[n].name,List.mem_map.2 ⟨fs[n],?_,rfl⟩,by simpa using h⟩; exact List.mem_take_iff_getElem.2 ⟨n,by omega,rfl⟩
    ·rintro ⟨s,hs,h⟩; obtain ⟨f,hf,rfl⟩:=List.mem_map.1 hs; obtain ⟨n,hn,rfl⟩:=List.mem_take_iff_getElem.1 hf; refine ⟨n,List.mem_range.2 (by omega),?_⟩; rw [List.getElem?_eq_getElem (by omega)]
     simpa using h
   rw [this,and_assoc]
  constructor
  ·rintro ⟨h1,h2⟩ j hj
   rcases Nat.lt_succ_iff_lt_or_eq.1 hj with h | rfl
   ·exact h1 j h
   ·exact hb.2 h2
  ·intro h; exact ⟨fun j hj=>h j (by omega),hb.1 (h k (by omega))⟩
theorem fG (fs:List UT):CC [] fs=!Dt fs.length (Ia fs):=by
 have h:=Ry (fs:=fs) fs.length (Nat.le_refl _); rw [List.take_length] at h; rw [Bool.eq_iff_iff,h,Bool.not_eq_true']; exact ⟨fun h=>FB h,fun h j hj=>Dk h hj⟩
def B_ (W:CW) (r:Nat) (S:List ByteArray):Prop:=∃ m:List (ByteArray × Value),FR Value.string W r m∧∀ s,Kr m s=if S.any (fun x=>decide (x=s)) then some (.bool true) else none
theorem B_.congr {W W':CW} {r:Nat} {S:List ByteArray} (h:B_ W r S) (ho:W'.obj r=W.obj r):B_ W' r S:=by
 obtain ⟨m,h1,h2⟩:=h; exact ⟨m,h1.congr ho,h2⟩
theorem B_.lt {W:CW} (ht:Aq W) {r:Nat} {S:List ByteArray} (h:B_ W r S):r<W.sz:=by
 obtain ⟨m,h1,h2⟩:=h; exact h1.lt ht
theorem ABQ:prog.underlying 181=some (.map 9 4):=by kernel_rfl
theorem z4:Gp prog 4=some (.bool false):=by kernel_rfl
theorem B_.look {W:CW} {r:Nat} {S:List ByteArray} (h:B_ W r S) (s:ByteArray):HW prog 181 (.map (some r)) (.string s) false W=some (.bool (S.any fun x=>decide (x=s))):=by
 obtain ⟨m,h1,h2⟩:=h; rw [Ks ABQ u9 rfl z4 Fu h1 s false,h2]
 cases S.any fun x=>decide (x=s) <;> rfl
theorem B_.put {W:CW} {r:Nat} {S:List ByteArray} (h:B_ W r S) {s:ByteArray} {K:CW→Prop} (hK:∀ W1,Da r W W1→B_ W1 r (S++[s])→K W1):wV (cP prog 181 (.map (some r)) (.string s) (.bool true) W) K:=by
 obtain ⟨m,h1,h2⟩:=h; refine aQ ABQ u9 rfl Fu h1 fun W1 hu hm=>hK W1 hu ⟨_,hm,fun u=>?_⟩; rw [II,h2,List.any_append]
 by_cases e:u=s
 ·rw [if_pos e,e]; simp
 ·rw [if_neg e]; have:([s].any fun x=>decide (x=u))=false:=by simp; exact fun h=>e h.symm
  rw [this,Bool.or_false]
def a7 (W:CW) (u:Value) (x:Aj):Prop:=∃ vf ab lb cb,u=.agg #[.string x.name,.string x.By,vf,.int .u8 x.elem,.slice ab lb cb]∧A3 2 (QL W) vf x.fields
end Go.Ce
namespace Go.Ce
open Go Go.Proofs Go.Proofs.Tryz
theorem Ee {S:Nat→Prop} {W W':CW} (h:DF S W W') (ht:Aq W) (hm:∀ j,S j→∀ k,W.cell j k=none) {b k:Nat} {v:Value} (hc:W.cell b k=some v):W'.cell b k=some v :=
 h.cell ht (fun hs=>by rw [hm b hs k] at hc; cases hc) hc
theorem B_.cell {W:CW} {r:Nat} {S:List ByteArray} (h:B_ W r S) (k:Nat):W.cell r k=none:=by
 obtain ⟨m,⟨es,EE,h1,_⟩,_⟩:=h; unfold CW.cell; rw [h1]
def TG (W:CW) (r:Nat) (c:List Aj):Prop:=∃ m:List (ByteArray × Value),FR Value.string W r m∧∀ s,match BL c s with
 | some i=>∃ u x,Kr m s=some u∧c[i]?=some x∧a7 W u x
 | none=>Kr m s=none
theorem u75:prog.underlying 75=some (.map 9 48):=by kernel_rfl
def xV:Value:=.agg #[.string ⟨#[]⟩,.string ⟨#[]⟩,.slice none 0 0,.int .u8 0,.slice none 0 0]
theorem TG.some {W:CW} {r:Nat} {c:List Aj} (h:TG W r c) {s:ByteArray} {i:Nat} (hi:BL c s=Option.some i):∃ u x,c[i]?=Option.some x∧a7 W u x∧HW prog 75 (.map (Option.some r)) (.string s) true W=Option.some (.tuple #[u,.bool true])∧HW prog 75 (.map (Option.some r)) (.string s) false W=Option.some u:=by
 obtain ⟨m,h1,h2⟩:=h; have:=h2 s; rw [hi] at this; obtain ⟨u,x,h3,h4,h5⟩:=this
 refine ⟨u,x,h4,h5,?_,?_⟩
 ·rw [Ks u75 u9 rfl nN Fu h1 s true,h3]; rfl
 ·rw [Ks u75 u9 rfl nN Fu h1 s false,h3]; rfl
theorem TG.none {W:CW} {r:Nat} {c:List Aj} (h:TG W r c) {s:ByteArray} (hi:BL c s=Option.none):HW prog 75 (.map (Option.some r)) (.string s) true W=Option.some (.tuple #[xV,.bool false])∧HW prog 75 (.map (Option.some r)) (.string s) false W=Option.some xV:=by
 obtain ⟨m,h1,h2⟩:=h; have:=h2 s; rw [hi] at this
 constructor
 ·rw [Ks u75 u9 rfl nN Fu h1 s true,this]; rfl
 ·rw [Ks u75 u9 rfl nN Fu h1 s false,this]; rfl
theorem a7.Gy {S:Nat→Prop} {W W':CW} (h:DF S W W') (ht:Aq W) (hm:∀ j,S j→∀ k,W.cell j k=none) {u:Value} {x:Aj} (hu:a7 W u x):a7 W' u x:=by
 obtain ⟨vf,ab,lb,cb,h1,h2⟩:=hu; exact ⟨vf,ab,lb,cb,h1,h2.imp fun _ _ _ hr=>⟨Ee h ht hm hr.name,Ee h ht hm hr.kind,hr.lo,hr.hi⟩⟩
theorem TG.Gy {S:Nat→Prop} {W W':CW} (h:DF S W W') (ht:Aq W) (hm:∀ j,S j→∀ k,W.cell j k=Option.none) {r:Nat} {c:List Aj} (hr:TG W r c) (hS:¬S r):TG W' r c:=by
 obtain ⟨m,h1,h2⟩:=hr; refine ⟨m,h1.congr (h.obj r (h1.lt ht) hS),fun s=>?_⟩; have:=h2 s
 cases hi:BL c s with
 | none=>rw [hi] at this; exact this
 | some i =>
  rw [hi] at this; obtain ⟨u,x,h3,h4,h5⟩:=this; exact ⟨u,x,h3,h4,h5.Gy h ht hm⟩
theorem TG.kp {W W':CW} {r:Nat} {c:List Aj} (hr:TG W r c) (ht:Aq W) (k:Kp W W'):TG W' r c:=hr.Gy (DF.Gl (S:=fun _=>False) k) ht (fun _ h=>h.elim) (fun h=>h)
theorem B_.kp {W W':CW} {r:Nat} {S:List ByteArray} (h:B_ W r S) (ht:Aq W) (k:Kp W W'):B_ W' r S:=h.congr (k.obj r (h.lt ht))
structure QV (W:CW) (bk bs ba bf rs rf r1:Nat) (c:List Aj):Prop where
 k:W.cell bk 0=some (.map (some r1))
 s:W.cell bs 0=some (.map (some rs))
 f:W.cell bf 0=some (.map (some rf))
 a:W.cell ba 0=some (.func (.func 125) #[] #[.pointer (some ⟨bk,0,none⟩),.pointer (some ⟨bs,0,none⟩),.pointer (some ⟨ba,0,none⟩),.pointer (some ⟨bf,0,none⟩)])
 sh:TG W r1 c
 ns:r1≠rs
 nf:r1≠rf
 sf:rs≠rf
def Uy (rs rf:Nat) (j:Nat):Prop:=j=rs∨j=rf
theorem Uy.none {W:CW} {rs rf:Nat} {S F:List ByteArray} (hs:B_ W rs S) (hf:B_ W rf F):∀ j,Uy rs rf j→∀ k,W.cell j k=none:=by
 rintro j (rfl | rfl) k
 ·exact hs.cell k
 ·exact hf.cell k
theorem QV.Gy {W W':CW} {bk bs ba bf rs rf r1:Nat} {c:List Aj} (R:QV W bk bs ba bf rs rf r1 c) (ht:Aq W) {S F:List ByteArray} (hs:B_ W rs S) (hf:B_ W rf F) (h:DF (Uy rs rf) W W'):QV W' bk bs ba bf rs rf r1 c :=
 have hm:=Uy.none hs hf
 ⟨Ee h ht hm R.k,Ee h ht hm R.s,Ee h ht hm R.f,Ee h ht hm R.a,R.sh.Gy h ht hm (fun h=>h.elim R.ns R.nf),R.ns,R.nf,R.sf⟩
theorem QL.ld {W:CW} {b o:Nat} {x:UT} (h:QL W b o x):ld prog 72 (.pointer (some ⟨b,o,none⟩)) W=some (.agg [.string x.name,.int .u8 x.kind].toArray) :=
 Ba (vs:=[.string x.name,.int .u8 x.kind]) a72 s72 rfl (by omega) h.cells
theorem xW:agg? prog 181=some false:=by kernel_rfl
theorem xX:agg? prog 75=some false:=by kernel_rfl
theorem a76:agg? prog 76=some false:=by kernel_rfl
theorem ABR:agg? prog 161=some false:=by kernel_rfl
theorem K1 (a:Addr):BD prog 78 (.pointer (some a)) 0=some (.pointer (some ⟨a.block,a.off,none⟩)):=by kernel_rfl
theorem O4 (a:Addr):BD prog 78 (.pointer (some a)) 1=some (.pointer (some ⟨a.block,a.off+1,none⟩)):=by kernel_rfl
theorem a8 {F:List ByteArray} {gs:List UT} {j:Nat} {g:UT} (hg:gs[j]?=some g):CC F (gs.take (j+1))=(CC F (gs.take j) && (GB g.name && (Hy g.kind && !(F++(gs.take j).map (·.name)).any fun s=>decide (s=g.name)))):=by
 rw [List.take_add_one,hg,Option.toList_some,F4]; congr 1; simp [CC]
theorem fH {F:List ByteArray} {gs:List UT} (j:Nat) (h:CC F (gs.take j)=false):CC F gs=false:=by
 rw [←List.take_append_drop j gs,F4,h,Bool.false_and]
theorem jg {W0 W:CW} {K:AB} {e e1:Env} {vf out:Value} {bk bs ba bf rs rf r1:Nat} {c:List Aj} {S F:List ByteArray} {gs:List UT} {ks:List Int} (t0:Aq W0) (R:QV W0 bk bs ba bf rs rf r1 c) {S0 F0:List ByteArray} (SV:B_ W0 rs S0) (hf0:B_ W0 rf F0) (HU:DF (Uy rs rf) W0 W) (ht:Aq W) (hs:B_ W rs S) (hf:B_ W rf F)
  (hv:A3 2 (QL W0) vf gs) (hgl:gs.length≤100) (hnm:∀ g,g ∈ gs→g.name.size<1000) (ho:C8 W 5 1 out (Bk ks)) (SB:B9 W0.sz out) (h_:ks.length<100000)
  (h4:e 4=.pointer (some ⟨bf,0,none⟩)) (h49:e 49=vf) (h50:e 50=.int .i64 gs.length) (he:DR [4,49,50] e e1) (Nz:e1 10=out) (h51:e1 51=.int .i64 0)
  (GX:CC F gs=false→∀ e' W',DF (Uy rs rf) W0 W'→Aq W'→e' 6=.slice none 0 0→e' 7=.bool false→K .ret e' [] W')
  (Rz:CC F gs=true→∀ e' W' LK,DF (Uy rs rf) W0 W'→Aq W'→e' 10=LK→C8 W' 5 1 LK (Bk (ks++gs.map (·.kind)))→B9 W0.sz LK→B_ W' rs S→B_ W' rf (F++gs.map (·.name))→K (.exit 0) e' [] W') :
  Bj prog AM none 125 84 (.loop (AY prog 125 0)) e1 [] W K:=by
 have SY:=Uy.none SV hf0; have ADZ:=SV.lt t0; have ADa:=hf0.lt t0
 refine FT (fun j e' EV W'=>EV=[]∧∃ LK,DF (Uy rs rf) W0 W'∧Aq W'∧DR [4,49,50] e e'∧e' 10=LK∧e' 51=.int .i64 j∧C8 W' 5 1 LK (Bk (ks++(gs.take j).map (·.kind)))∧B9 W0.sz LK∧B_ W' rs S∧B_ W' rf (F++(gs.take j).map (·.name))∧CC F (gs.take j)=true) gs.length
  ⟨rfl,out,HU,ht,he,Nz,h51,by simpa using ho,SB,hs,by simpa using hf,by simp [CC]⟩ ?_
 rintro j e' EV W' hj ⟨rfl,LK,nX,t',O5,jh,g51,Hi,xY,KB,gS,Ai⟩; have g4:=(O5 4 (by decide)).trans h4; have g49:=(O5 49 (by decide)).trans h49; have g50:=(O5 50 (by decide)).trans h50; rw [rJ,g4,g49,g50,g51]; simp only [Ax,AA]
 refine It (fun A0=>?_) (fun Mx=>?_)
 ·have hx:=List.getElem?_eq_getElem A0; obtain ⟨a,cap,rfl,hc⟩:=hv; obtain ⟨p,rfl,hp⟩:=hc j _ hx; have hpW:QL W' p.block (p.off+j*2) gs[j]:=⟨Ee nX t0 SY hp.name,Ee nX t0 SY hp.kind,hp.lo,hp.hi⟩
  rw [BM tL s72 A0]; simp only [AA]; rw [hpW.ld]; simp only [AA]; refine D' z72 s72 rfl rfl rfl t' fun W1 k1 t1 z1 hB=>?_; have q0:∀ W2,Kp W1 W2→ld prog 9 (.pointer (some ⟨W'.sz,0,none⟩)) W2=some (.string gs[j].name):=fun W2 k2=>AF a9 (a:=⟨W'.sz,0,none⟩) (k2.cell t1 (hB.cell rfl)); have q1:∀ W2,Kp W1 W2→ld prog 5 (.pointer (some ⟨W'.sz,0+1,none⟩)) W2=some (.int .u8 gs[j].kind):=fun W2 k2=>AF a5 (a:=⟨W'.sz,0+1,none⟩) (k2.cell t1 (hB.cell rfl)); simp only [YT,gv,AA,q0 W1 (.refl _)]; have il:=a8 (F:=F) hx; rw [Ai,Bool.true_and] at il; have AFW:=nX.sz; refine UX (Rs t1 (by have:=hnm _ (List.getElem_mem A0); omega)) fun W2 k2 t2=>?_; have ZH:=k1.trans k2; have fI:DF (Uy rs rf) W0 W2:=nX.then (DF.Gl (S:=fun _=>False) ZH) fun _ _ h=>h.elim
  have leaf:∀ (b:Bool) (e2:Env),DR [4,10,49,50,51] e' e2→e2 12=.pointer (some ⟨W'.sz,0,none⟩)→e2 70=.bool b→(b=!CC F (gs.take (j+1))) →
    (IX none (Ot (fun j e' EV W'=>EV=[]∧∃ LK,DF (Uy rs rf) W0 W'∧Aq W'∧DR [4,49,50] e e'∧e' 10=LK∧e' 51=.int .i64 j∧C8 W' 5 1 LK (Bk (ks++(gs.take j).map (·.kind)))∧B9 W0.sz LK∧B_ W' rs S∧B_ W' rf (F++(gs.take j).map (·.name))∧CC F (gs.take j)=true) j gs.length K)) .normal e2 [] W2:=by
   intro b e2 Wv r12 r70 hb; simp only [IX,Bi,r70]
   refine AN (fun R0=>?_) (fun R0=>?_)
   ·simp only [Ly,S7,Bi,LC,PV,Kv,Wm]; rw [R0] at hb; exact GX (fH (j+1) (by simpa using hb.symm)) _ W2 fI t2 rfl rfl
   ·rw [R0] at hb; have Vl:CC F (gs.take (j+1))=true:=by simpa using hb.symm
    have r4:=(Wv 4 (by decide)).trans g4; have r10:=(Wv 10 (by decide)).trans jh; have r51:=(Wv 51 (by decide)).trans g51; simp only [Ly,Bi,r4,r10,r12]; have qf:ld prog 181 (.pointer (some ⟨bf,0,none⟩)) W2=some (.map (some rf)):=AF xW (a:=⟨bf,0,none⟩) (Ee fI t0 SY R.f); simp only [qf,AA,YT,gv,q0 W2 k2]; refine (gS.kp t' ZH).put fun W3 hu hf3=>?_; have ADb:rf<W2.sz:=by have:=fI.sz; omega
    have t3:Aq W3:=t2.Az ADb hu; have ADc:W'.sz≠rf:=by omega
    have qk:ld prog 5 (.pointer (some ⟨W'.sz,0+1,none⟩)) W3=some (.int .u8 gs[j].kind):=AF a5 (a:=⟨W'.sz,0+1,none⟩) (by
     show W3.cell W'.sz (0+1)=_; rw [hu.cell ADc]
     exact k2.cell t1 (hB.cell rfl))
    simp only [qk,AA]; have zv:C8 W3 5 1 LK (Bk (ks++(gs.take j).map (·.kind))):=GQ (Hi.kp t' ZH) hu fun b l c e=>by have:=xY b l c e; omega
    refine nJ eR s5 z5 rfl (by omega) by5 (by omega) (tO _) rfl rfl t3 zv (by rw [Ie,List.length_append,List.length_map,List.length_take]; omega) fun u v1 W4 LL t4 o4 n4=>?_; have Iz:∀ i,BE LK i→W0.sz≤i:=fun i hi=>xY.in hi; have ADd:DF (Uy rs rf) W0 W4:=((fI.then hu.Gy fun i hi h=>.inr h)).then LL.Gy fun i hi h=>by have:=Iz i h; omega
    have Ye:=LL.sz; simp only [S7,Bi,Kv]; simp only [AW,Aa,Nat.reduceEqDiff,↓reduceIte,r51,Ae,AA]
    have pW:B_ W4 rs S:=by
     have h2:=KB.kp t' ZH; have h3:B_ W3 rs S:=h2.congr (hu.obj rs R.sf); exact h3.congr (LL.obj rs (by rw [hu.sz]; have:=fI.sz; omega) fun b l c e hb=>by have:=Iz rs ⟨b,l,c,e,hb.symm⟩; omega)
    have hf4:B_ W4 rf ((F++(gs.take j).map (·.name))++[gs[j].name]) :=
     hf3.congr (LL.obj rf (by rw [hu.sz]; omega) fun b l c e hb=>by have:=Iz rf ⟨b,l,c,e,hb.symm⟩; omega)
    refine ⟨A0,trivial,v1,ADd,t4,(O5.trans fun t ht=>Wv t (by revert t; decide)).trans ((DR.put rfl).trans (.put rfl)),rfl,by rw [FU (by omega)],?_,n4 _ (by rw [hu.sz]; exact fI.sz),pW,?_,Vl⟩
    ·rw [List.take_add_one,hx]; have:Bk (ks++((gs.take j)++(some gs[j]).toList).map (·.kind))=Bk (ks++(gs.take j).map (·.kind))++[.int .u8 gs[j].kind]:=by simp only [Bk,List.map_append,Option.toList_some,List.map_cons,List.map_nil,List.append_assoc]
     rw [this]; exact o4
    ·rw [List.take_add_one,hx,List.map_append,←List.append_assoc]; exact hf4
  simp only [Ar,AA]
  refine AN (fun hb=>?_) (fun hb=>?_)
  ·have hb:GB gs[j].name=false:=by simpa using hb
   exact leaf true _ (.put rfl) rfl rfl (by rw [il,hb]; rfl)
  ·have hb:GB gs[j].name=true:=by simpa using hb
   simp only [q1 W2 k2,AA]; refine BA (Wl _ _) ?_; simp only [Ar,AA]
   refine AN (fun NB=>?_) (fun NB=>?_)
   ·have NB:Hy gs[j].kind=false:=by unfold Hy; simpa only [Bool.not_eq_true'] using NB
    exact leaf true _ (.put rfl) rfl rfl (by rw [il,hb,NB]; rfl)
   ·have NB:Hy gs[j].kind=true:=by unfold Hy; simpa only [Bool.not_eq_false'] using NB
    have qf:ld prog 181 (.pointer (some ⟨bf,0,none⟩)) W2=some (.map (some rf)):=AF xW (a:=⟨bf,0,none⟩) (Ee fI t0 SY R.f); simp only [qf,q0 W2 k2,AA,(gS.kp t' ZH).look]; exact leaf _ _ (.put rfl) rfl rfl (by rw [il,hb,NB]; simp)
 ·simp only [Uj]; have ZI:gs.take j=gs:=List.take_of_length_le (by omega); rw [ZI] at Hi gS Ai; exact Rz Ai _ W' LK nX t' jh Hi xY KB gS
end Go.Ce
namespace Go.Ce
open Go Go.Proofs Go.Proofs.Tryz
def nameAt (c:List Aj) (i:Nat):ByteArray:=match c[i]? with
 | some x=>x.name
 | none=>EP
def J4 (c:List Aj) (F:List ByteArray) (s:ByteArray):Option (List UT):=match BL c s with
 | some i=>match Bs c c.length i with
  | some l=>if CC F (l.reverse.flatMap (Jz c)) && decide ((l.reverse.flatMap (Jz c)).length≤60) then some (l.reverse.flatMap (Jz c)) else none
  | none=>none
 | none=>none
def TH (c:List Aj) (rs rf:Nat) (F:List ByteArray) (s:ByteArray) (W:CW):Ending→CW→Prop:=fun e W'=>DF (Uy rs rf) W W'∧Aq W'∧match J4 c F s with
 | some fs=>∃ vo S',e=.returned (.tuple #[vo,.bool true])∧C8 W' 5 1 vo (Bk (fs.map (·.kind)))∧B9 W.sz vo∧B_ W' rs S'∧B_ W' rf (F++fs.map (·.name))
 | none=>∃ vo,e=.returned (.tuple #[vo,.bool false])
theorem TI (a b c d e:Value):vB prog 48 (.agg #[a,b,c,d,e]) 3=some d:=by kernel_rfl
theorem Uz {args:List Value} {cap:Array Value} {W:CW} {K:Value→CW→Prop} {KP:List PanicEntry→CW→Prop} (h:AD prog AM 125 (args++cap.toList) W (AQ K KP)):Ej prog AM (.func (.func 125) #[] cap) args W K KP :=
 H8 Tryz.func125 (by kernel_rfl) (by simpa using h)
theorem nY {c:List Aj} (hs:∀ j,j<c.length→BU c j=false) {S:List Nat} (hS:∀ j,j ∈ S→j<c.length) {i:Nat} {x:Aj} (hx:c[i]?=some x):((S.map (nameAt c)).any fun u=>decide (u=x.name))=decide (i ∈ S):=by
 rw [Bool.eq_iff_iff,List.any_eq_true,decide_eq_true_eq]
 constructor
 ·rintro ⟨u,hu,he⟩; obtain ⟨j,hj,rfl⟩:=List.mem_map.1 hu; have Vy:=hS j hj; have Ww:=List.getElem?_eq_getElem Vy; have he:=of_decide_eq_true he; unfold nameAt at he; rw [Ww] at he
  by_cases e:j=i
  ·exact e ▸ hj
  ·exact (fE hs e Vy (List.getElem?_eq_some_iff.1 hx).1 Ww hx he).elim
 ·intro hi; exact ⟨x.name,List.mem_map.2 ⟨i,hi,by unfold nameAt; rw [hx]⟩,by simp⟩
theorem xZ {c:List Aj} (hC:SG c) (hsh:∀ j,j<c.length→BU c j=false) {bk bs ba bf rs rf r1:Nat} {F:List ByteArray}:∀ (n:Nat) (S:List Nat) (s:ByteArray) (W:CW),Aq W→QV W bk bs ba bf rs rf r1 c→B_ W rs (S.map (nameAt c))→B_ W rf F→S.Nodup→(∀ j,j ∈ S→j<c.length)→c.length≤n+S.length →
  (∀ i0,i0 ∈ S→∀ f l,Bs c f i0=some l→∃ i f' m,BL c s=some i∧Bs c f' i=some m∧m.length<l.length)→s.size<1000000 →
  AD prog AM 125 [.string s,.pointer (some ⟨bk,0,none⟩),.pointer (some ⟨bs,0,none⟩),.pointer (some ⟨ba,0,none⟩),.pointer (some ⟨bf,0,none⟩)] W (TH c rs rf F s W):=by
 intro n
 induction n using Nat.strongRecOn with
 | ind n ih =>
  intro S s W ht R hs hf Vn zw hlen hinv HD; refine wo ?_; rw [wj]; have qk:∀ W1,Kp W W1→ld prog 75 (.pointer (some ⟨bk,0,none⟩)) W1=some (.map (some r1)):=fun W1 k1=>AF xX (a:=⟨bk,0,none⟩) (k1.cell ht R.k); have qs:∀ W1,Kp W W1→ld prog 181 (.pointer (some ⟨bs,0,none⟩)) W1=some (.map (some rs)):=fun W1 k1=>AF xW (a:=⟨bs,0,none⟩) (k1.cell ht R.s); simp only [K1,AA,qk W (.refl _)]; generalize LM:AI prog Tryz.f125 (TH c rs rf F s W)=K
  have Iz:∀ (e:Env) W' v,DF (Uy rs rf) W W'→Aq W'→e 6=v→e 7=.bool false→J4 c F s=none→K .ret e [] W':=by
   intro e W' v k t h6 h7 hr; rw [←LM,UR,h6,h7]; unfold TH; rw [hr]; exact ⟨k,t,v,rfl⟩
  cases hi:BL c s with
  | none =>
   obtain ⟨l1,_⟩:=R.sh.none hi; simp only [l1,Bd,Be,AA]; have SI:J4 c F s=none:=by unfold J4; rw [hi]
   refine D' (ws:=[.string ⟨#[]⟩,.string ⟨#[]⟩,.slice none 0 0,.int .u8 0,.slice none 0 0]) nN gu rfl rfl rfl ht fun W1 k1 t1 z1 hB=>?_; simp only [Ar,AA]; rw [show (!false)=true from rfl]; simp only [Bx,S6,MX,Fs,JA,Bi,LC,zs]; rw [show ∀ b l,(Env.of (Env.args [Value.string s,.pointer (some ⟨bk,0,none⟩),.pointer (some ⟨bs,0,none⟩),.pointer (some ⟨ba,0,none⟩),.pointer (some ⟨bf,0,none⟩)]) ((26,b)::l)) 26=b from fun _ _=>rfl]; simp only [Bx]; exact Iz _ W1 _ (DF.Gl k1) t1 rfl rfl SI
  | some i =>
   obtain ⟨u,x,hx,hu,l1,_⟩:=R.sh.some hi; simp only [l1,Bd,Be,AA]; obtain ⟨vf,ab,lb,cb,rfl,hvf⟩:=hu; obtain ⟨af,cf,rfl,_⟩:=id hvf; have Ge:=(List.getElem?_eq_some_iff.1 hx).1
   have Ty:x.name=s:=by
    obtain ⟨h1,h2,_⟩:=List.findIdx?_eq_some_iff_getElem.1 hi; rw [List.getElem?_eq_getElem h1] at hx; cases hx; exact of_decide_eq_true h2
   refine D' (ws:=[.string x.name,.string x.By,.slice af x.fields.length cf,.int .u8 x.elem,.slice ab lb cb]) nN gu rfl rfl rfl ht fun W1 k1 t1 z1 hB=>?_; simp only [Ar,AA]; rw [show (!true)=false from rfl]; have SW:=hs.kp ht k1; have Zk:=hf.kp ht k1; simp only [Ay,qs W1 k1,AA,SW.look]; rw [←Ty,nY hsh zw hx]; have e26:∀ b l,(Env.of (Env.args [Value.string s,.pointer (some ⟨bk,0,none⟩),.pointer (some ⟨bs,0,none⟩),.pointer (some ⟨ba,0,none⟩),.pointer (some ⟨bf,0,none⟩)]) ((26,b)::l)) 26=b:=fun _ _=>rfl; simp only [S6,Bi]; rw [Ty,e26]; have SY:=Uy.none hs hf; have ABS:=Uy.none SW Zk; have ADe:=SW.lt t1; have AFX:=Zk.lt t1; have ADZ:=hs.lt ht; have ADa:=hf.lt ht; have q1:∀ W2,DF (Uy rs rf) W1 W2→ld prog 9 (.pointer (some ⟨W.sz,0+1,none⟩)) W2=some (.string x.By):=fun W2 k2=>AF a9 (a:=⟨W.sz,0+1,none⟩) (Ee k2 t1 ABS (hB.cell rfl)); have q2:∀ W2,DF (Uy rs rf) W1 W2→ld prog 45 (.pointer (some ⟨W.sz,0+2,none⟩)) W2=some (.slice af x.fields.length cf):=fun W2 k2=>AF a45 (a:=⟨W.sz,0+2,none⟩) (Ee k2 t1 ABS (hB.cell rfl))
   refine AN (fun hm=>?_) (fun hm=>?_)
   ·have hm:=of_decide_eq_true hm; simp only [MX,Fs,JA,Bi,LC,zs]; refine Iz _ W1 _ (DF.Gl k1) t1 rfl rfl ?_; unfold J4; rw [hi]; simp only
    cases hl:Bs c c.length i with
    | none=>rfl
    | some l =>
     obtain ⟨i',f',m,h1,h2,h3⟩:=hinv i hm _ _ hl; rw [hi] at h1; cases h1; rw [Wt hl h2] at h3; omega
   ·have hm:=of_decide_eq_false hm; simp only [MX,Bi]; simp only [AW,Aa,aK,Nat.reduceEqDiff,↓reduceIte,aL,pb,ZF]; simp only [qs W1 k1,AA]; refine SW.put fun W2 H4 Vh=>?_; have c2:DF (Uy rs rf) W1 W2:=⟨by rw [H4.sz]; exact Nat.le_refl _,fun j hj hn=>H4.obj j (fun e=>hn (.inl e))⟩
    have t2:=t1.Az ADe H4; have lF:B_ W2 rf F:=Zk.congr (H4.obj rf (Ne.symm R.sf)); have R1:=R.Gy ht hs hf (DF.Gl k1); have R2:=R1.Gy t1 SW Zk c2; have c02:DF (Uy rs rf) W W2:=(DF.Gl k1).then c2 fun _ _ h=>h
    have Vh:B_ W2 rs ((S++[i]).map (nameAt c)):=by
     rw [List.map_append]; have:nameAt c i=s:=by unfold nameAt; rw [hx]; exact Ty
     simp only [List.map_cons,List.map_nil,this]; exact Vh
    simp only [YR,AA,q1 W2 c2,Wi,MZ]; have eV:x.fields.length≤100:=hC.fields x (List.mem_of_getElem? hx); have Xf:∀ g,g ∈ x.fields→g.name.size<1000:=hC.AA8 x (List.mem_of_getElem? hx)
    have tail:∀ (W3:CW) (out:Value) (S3:List ByteArray) (hd:List UT) (e2:Env),DF (Uy rs rf) W W3→DF (Uy rs rf) W1 W3→Aq W3→B_ W3 rs S3→B_ W3 rf (F++hd.map (·.name))→C8 W3 5 1 out (Bk (hd.map (·.kind)))→B9 W.sz out→hd.length≤60→e2 4=.pointer (some ⟨bf,0,none⟩)→e2 8=.pointer (some ⟨W.sz,0,none⟩)→e2 10=out →
      (J4 c F s=if CC F (hd++x.fields) && decide ((hd++x.fields).length≤60) then some (hd++x.fields) else none)→CC F hd=true →
      (Fs none K) .normal e2 [] W3:=by
     intro W3 out S3 hd e2 c3 c13 t3 hs3 hf3 zv tR pe h4 h8 Nz SI ADf; simp only [Fs,Bi,h8,Oq,AA,q2 W3 c13,At tL]; have AFY:=c3.sz
     refine jg (e:=Env.of e2 [(50,.int .i64 x.fields.length),(49,.slice af x.fields.length cf)]) ht R hs hf c3 t3 hs3 hf3 hvf eV Xf zv tR (by rw [List.length_map]; omega) h4 rfl rfl (fun t ht=>by
      simp only [List.mem_cons,List.not_mem_nil,or_false] at ht
      rcases ht with rfl | rfl | rfl <;> rfl) Nz rfl (fun hb e' W' c' t' h6 h7=>?_) (fun hb e' W' LK c' t' ADg Hi Zm KB gS=>?_)
     ·simp only [LC,PV,JA]; refine Iz e' W' _ c' t' h6 h7 ?_; rw [SI,F4,hb]; simp
     ·have h_:(Bk (hd.map (·.kind)++x.fields.map (·.kind))).length=(hd++x.fields).length*1:=by simp [Bk]
      simp only [Bi,Rr,JB,if_true,JA,ADg]; rw [JX eR Hi (by omega) h_]; simp only [AA,Ds]; have ADh:CC F (hd++x.fields)=true:=by rw [F4,ADf,hb]; rfl
      rw [ADh,Bool.true_and] at SI; rw [←LM,UR]; unfold TH
      by_cases hle:(hd++x.fields).length≤60
      ·rw [SI,if_pos (decide_eq_true hle)]; refine ⟨c',t',LK,S3,?_,by rw [List.map_append]; exact Hi,Zm,KB,by rw [List.map_append,←List.append_assoc]; exact gS⟩; simp only [AW,Nat.reduceEqDiff,↓reduceIte]; rw [decide_eq_true (by omega)]
      ·rw [SI,if_neg (by simp; simp at hle; omega)]; refine ⟨c',t',LK,?_⟩; simp only [AW,Nat.reduceEqDiff,↓reduceIte]; rw [decide_eq_false (by omega)]
    refine AN (fun a_=>?_) (fun a_=>?_)
    ·have a_:x.By≠EP:=by simpa [EP] using a_
     obtain tS:=R2.sh; have qk2:ld prog 75 (.pointer (some ⟨bk,0,none⟩)) W2=some (.map (some r1)):=AF xX (a:=⟨bk,0,none⟩) R2.k; have qa2:ld prog 161 (.pointer (some ⟨ba,0,none⟩)) W2=some (.func (.func 125) #[] #[.pointer (some ⟨bk,0,none⟩),.pointer (some ⟨bs,0,none⟩),.pointer (some ⟨ba,0,none⟩),.pointer (some ⟨bf,0,none⟩)]):=AF ABR (a:=⟨ba,0,none⟩) R2.a; simp only [K1,AA,qk2,q1 W2 c2,qa2]
     have Wx:Vw c i=match BL c x.By with
       | some j=>if elemAt c j=0 then some j else none
       | none=>none:=by
      unfold Vw; rw [hx]; simp only; unfold BL
      cases hj:c.findIdx? fun y=>decide (y.name=x.By) with
      | none=>rfl
      | some j =>
       have Vy:=(List.findIdx?_eq_some_iff_getElem.1 hj).1; simp only [elemAt,List.getElem?_eq_getElem Vy]
     have ADi:x.By.size<1000000:=by have:=hC.sup x (List.mem_of_getElem? hx); omega
     have xa:∀ f m,Bs c f i=some m→∃ j f' m',Vw c i=some j∧Bs c f' j=some m'∧m=i::m':=by
      intro f m h
      rcases DX hx h with ⟨h1,_⟩ | ⟨_,f1,j,m',_,h2,h3,h4⟩
      ·exact (a_ h1).elim
      ·exact ⟨j,f1,m',h2,h3,h4⟩
     have hij:∀ j,Vw c i=some j→BL c x.By=some j:=by
      intro j h; rw [Wx] at h
      cases hj:BL c x.By with
      | none=>rw [hj] at h; cases h
      | some j' =>
       rw [hj] at h; simp only at h
       split at h
       ·exact h
       ·cases h
     have ABT:(S++[i]).Nodup:=by
      rw [List.nodup_append]; exact ⟨Vn,List.pairwise_singleton _ _,fun a ha b hb=>by rw [List.mem_singleton.1 hb]; exact fun e=>hm (e ▸ ha)⟩
     have ABU:∀ j,j ∈ S++[i]→j<c.length:=fun j hj=>by
      rcases List.mem_append.1 hj with h | h
      ·exact zw j h
      ·rw [List.mem_singleton.1 h]; exact Ge
     have hpg:=iA ABT ABU; rw [List.length_append,List.length_singleton] at hpg
     have qM:=ih (n-1) (by omega) (S++[i]) x.By W2 t2 R2 Vh lF ABT ABU (by rw [List.length_append,List.length_singleton]; omega) (fun i0 h0 f l hl=>by
      have h1:∃ f' m,Bs c f' i=some m∧m.length≤l.length:=by
       rcases List.mem_append.1 h0 with h | h
       ·obtain ⟨i',f',m,h2,h3,h4⟩:=hinv i0 h f l hl; rw [hi] at h2; cases h2; exact ⟨f',m,h3,Nat.le_of_lt h4⟩
       ·rw [List.mem_singleton.1 h] at hl; exact ⟨f,l,hl,Nat.le_refl _⟩
      obtain ⟨f',m,h2,h3⟩:=h1; obtain ⟨j,f2,m',h4,h5,rfl⟩:=xa f' m h2
      exact ⟨j,f2,m',hij j h4,h5,by simp only [List.length_cons] at h3; omega⟩) ADi
     have tT:Vw c i=none→J4 c F s=none:=by
      intro h; unfold J4; rw [hi]; simp only
      cases hl:Bs c c.length i with
      | none=>rfl
      | some l =>
       obtain ⟨j,_,_,h2,_⟩:=xa _ _ hl; rw [h] at h2; cases h2
     cases hj:BL c x.By with
     | none =>
      obtain ⟨_,l2⟩:=tS.none hj; rw [hj] at Wx; simp only at Wx; rw [l2]; simp only [AA]; unfold xV; rw [TI]; simp only [AA,DK]; rw [show ((0:Int) != 0)=false from rfl]; simp only [Ay]; refine Uz (qM.mono fun en W5 ⟨c5,t5,hp⟩=>?_); have:J4 c F x.By=none:=by unfold J4; rw [hj]
      rw [this] at hp; obtain ⟨vo,rfl⟩:=hp; simp only [AQ,Bd,Be,AA,Ar]; rw [show (!false)=true from rfl]; simp only [Bx,Fs,JA,Bi,LC]; exact Iz _ W5 _ (c02.then c5 fun _ _ h=>h) t5 rfl rfl (tT Wx)
     | some j =>
      obtain ⟨u,y,hy,hu,_,l2⟩:=tS.some hj; obtain ⟨vf2,ab2,lb2,cb2,rfl,_⟩:=hu; rw [hj] at Wx; simp only at Wx; have P0:elemAt c j=y.elem:=by unfold elemAt; rw [hy]
      rw [l2]; simp only [AA]; rw [TI]; simp only [AA,DK]
      refine AN (fun he=>?_) (fun he=>?_)
      ·have he:y.elem≠0:=by simpa using he
       simp only [Fs,JA,LC]; exact Iz _ W2 _ c02 t2 rfl rfl (tT (by rw [Wx,if_neg (by rw [P0]; exact he)]))
      ·have he:y.elem=0:=by simpa using he
       have Wx:Vw c i=some j:=by rw [Wx,if_pos (by rw [P0]; exact he)]
       have hfi:Jz c i=x.fields:=by unfold Jz; rw [hx]
       have WU:J4 c F s=match Bs c c.length j with
         | some m=>if CC F (m.reverse.flatMap (Jz c)++x.fields) && decide ((m.reverse.flatMap (Jz c)++x.fields).length≤60) then some (m.reverse.flatMap (Jz c)++x.fields) else none
         | none=>none:=by
        unfold J4; rw [hi]; simp only
        cases hl:Bs c c.length i with
        | none =>
         cases hm:Bs c c.length j with
         | none=>rfl
         | some m =>
          have:Bs c (c.length+1) i=some (i::m):=by rw [Ns hx a_,Wx]; simp only [hm]; rfl
          rw [Wu this] at hl; cases hl
        | some l =>
         obtain ⟨j',f',m,h2,h3,rfl⟩:=xa _ _ hl; rw [Wx] at h2; cases h2; rw [Wu h3]; simp only [List.reverse_cons,List.flatMap_append,List.flatMap_cons,List.flatMap_nil,List.append_nil,hfi]
       have ji:J4 c F x.By=match Bs c c.length j with
         | some m=>if CC F (m.reverse.flatMap (Jz c)) && decide ((m.reverse.flatMap (Jz c)).length≤60) then some (m.reverse.flatMap (Jz c)) else none
         | none=>none:=by
        unfold J4; rw [hj]
       refine Uz (qM.mono fun en W5 ⟨c5,t5,hp⟩=>?_); have c05:DF (Uy rs rf) W W5:=c02.then c5 fun _ _ h=>h
       cases hrI:J4 c F x.By with
       | none =>
        rw [hrI] at hp; obtain ⟨vo,rfl⟩:=hp; simp only [AQ,Bd,Be,AA,Ar]; rw [show (!false)=true from rfl]; simp only [Bx,Fs,JA,Bi,LC]; refine Iz _ W5 _ c05 t5 rfl rfl ?_; rw [WU]; rw [hrI] at ji
        cases hm:Bs c c.length j with
        | none=>rfl
        | some m =>
         rw [hm] at ji; simp only at ji ⊢
         split at ji
         ·cases ji
         ·rename_i hn; rw [if_neg]; intro hh; apply hn; simp only [Bool.and_eq_true,decide_eq_true_eq,F4,List.length_append] at hh ⊢; exact ⟨hh.1.1,by omega⟩
       | some fs =>
        rw [hrI] at hp; obtain ⟨vo,S',rfl,ho5,hn5,hs5,hf5⟩:=hp; simp only [AQ,Bd,Be,AA,Ar]; rw [show (!true)=false from rfl]; simp only [Ay]; rw [hrI] at ji
        cases hm:Bs c c.length j with
        | none=>rw [hm] at ji; cases ji
        | some m =>
         rw [hm] at ji WU; simp only at ji WU
         split at ji
         ·rename_i hh
          cases ji
          simp only [Bool.and_eq_true,decide_eq_true_eq] at hh; have dH:=c2.sz; have AFZ:=k1.sz; exact tail W5 vo S' _ _ c05 (c2.then c5 fun _ _ h=>h) t5 hs5 hf5 ho5 (fun b l c e=>by have:=hn5 b l c e; omega) hh.2 rfl rfl rfl WU hh.1
         ·cases ji
    ·have a_:x.By=EP:=by simpa [EP] using a_
     refine tail W2 (.slice none 0 0) _ [] _ c02 c2 t2 Vh (by simpa using lF) C8.nil (B9.nil _ _ _) (by simp) rfl rfl rfl ?_ rfl; unfold J4; rw [hi]; simp only; rw [Me hx a_]; simp only [List.reverse_cons,List.reverse_nil,List.nil_append,List.flatMap_cons,List.flatMap_nil,List.append_nil]; have:Jz c i=x.fields:=by unfold Jz; rw [hx]
     rw [this]
theorem ABV:Gp prog 181=some (.map none):=by kernel_rfl
theorem ABW:Db prog 181=some 1:=by kernel_rfl
theorem ADj:Gp prog 161=some .nilFunc:=by kernel_rfl
theorem ADk:Db prog 161=some 1:=by kernel_rfl
theorem NS:Db prog 78=some 2:=by kernel_rfl
theorem iB:agg? prog 78=some true:=by kernel_rfl
theorem pf:Gp prog 78=some (.agg #[.map none,.map none]):=by kernel_rfl
theorem nZ {t:TypeId} {z v:Value} (hz:Gp prog t=some z) (hs:Db prog t=some 1) (mO:z.cells.size=1) (h1:BO v=true) {W:CW} {K:Value→CW→Prop} (ht:Aq W)
  (hk:∀ W2,Kp W W2→Aq W2→W2.sz=W.sz+1→BF W2 W.sz t [v]→K (.pointer (some ⟨W.sz,0,none⟩)) W2):CZ (H2 prog t W) fun p W1=>wV (B5 prog t p v W1) fun W2=>K p W2:=by
 refine HM hz hs ht fun W1 k1 t1 z1 hB=>?_; refine Am hs (a:=⟨W.sz,0,none⟩) h1 hB (by simp [mO]) fun W2 hu HN=>?_; rw [QO (by simp [mO])] at HN; exact hk W2 (k1.Az (Nat.le_refl _) hu) (t1.Az (by rw [z1]; exact Nat.lt_succ_self _) hu) (by rw [hu.sz,z1]) HN
theorem ra {t:TypeId} {z:Value} {v:Value→Value} (hz:Gp prog t=some z) (hs:Db prog t=some 1) (mO:z.cells.size=1) {W:CW} (h1:BO (v (.pointer (some ⟨W.sz,0,none⟩)))=true) {K:Value→CW→Prop} (ht:Aq W)
  (hk:∀ W2,Kp W W2→Aq W2→W2.sz=W.sz+1→BF W2 W.sz t [v (.pointer (some ⟨W.sz,0,none⟩))]→K (.pointer (some ⟨W.sz,0,none⟩)) W2):CZ (H2 prog t W) fun p W1=>wV (B5 prog t p (v p) W1) fun W2=>K p W2:=by
 refine HM hz hs ht fun W1 k1 t1 z1 hB=>?_; refine Am hs (a:=⟨W.sz,0,none⟩) h1 hB (by simp [mO]) fun W2 hu HN=>?_; rw [QO (by simp [mO])] at HN; exact hk W2 (k1.Az (Nat.le_refl _) hu) (t1.Az (by rw [z1]; exact Nat.lt_succ_self _) hu) (by rw [hu.sz,z1]) HN
def na (c:List Aj) (s:ByteArray) (W:CW):Ending→CW→Prop:=fun e W'=>Kp W W'∧Aq W'∧match J4 c [] s with
 | some fs=>∃ vo,e=.returned (.tuple #[vo,.bool true])∧C8 W' 5 1 vo (Bk (fs.map (·.kind)))∧B9 W.sz vo
 | none=>∃ vo,e=.returned (.tuple #[vo,.bool false])
theorem re {c:List Aj} (hC:SG c) (hsh:∀ j,j<c.length→BU c j=false) {r1:Nat} {v2:Value} {s:ByteArray} {W:CW} (ht:Aq W) (hr:TG W r1 c) (ZA:BO v2=true) (HD:s.size<1000000) :
  AD prog AM 102 [.agg #[.map (some r1),v2],.string s] W (na c s W):=by
 refine wi ?_; rw [wh]; refine GA NS ht fun W0 k0 t0 z0 Vz=>?_; have Vz:BF W0 W.sz 78 [.map (some r1),v2]:=Vz; refine UW (enc:=Value.string) t0 fun W1 k1 t1 z1 Va=>?_; refine nZ ABV ABW rfl rfl t1 fun W3 k3 t3 z3 IJ=>?_; refine UW (enc:=Value.string) t3 fun W4 k4 t4 z4 gM=>?_; refine nZ ABV ABW rfl rfl t4 fun W6 k6 t6 z6 Ja=>?_; simp only [AA]; refine ra (v:=fun p=>.func (.func 125) #[] #[.pointer (some ⟨W.sz,0,none⟩),.pointer (some ⟨W1.sz,0,none⟩),p,.pointer (some ⟨W4.sz,0,none⟩)]) ADj ADk rfl rfl t6 fun W8 k8 t8 z8 SJ=>?_; rw [AF ABR (a:=⟨W6.sz,0,none⟩) (SJ.cell rfl)]; simp only [AA]; have xc:Kp W0 W8:=(((k1.trans k3).trans k4).trans k6).trans k8; have kk:=k0.trans xc; have SV:B_ W8 W0.sz ([].map (nameAt c)):=⟨[],(Va.kp t1 (((k3.trans k4).trans k6).trans k8)),fun s=>rfl⟩
 have hf0:B_ W8 W3.sz []:=⟨[],gM.kp t4 (k6.trans k8),fun s=>rfl⟩
 have PO:=(hr.Gy (DF.Gl (S:=fun _=>False) kk) ht (fun _ h=>h.elim) (fun h=>h))
 have ABX:r1<W.sz:=by
  obtain ⟨m,h1,_⟩:=hr; exact h1.lt ht
 have R:QV W8 W.sz W1.sz W6.sz W4.sz W0.sz W3.sz r1 c:=⟨xc.cell t0 (Vz.cell rfl),(((k4.trans k6).trans k8)).cell t3 (IJ.cell rfl),k8.cell t6 (Ja.cell rfl),SJ.cell rfl,PO,by omega,by omega,by omega⟩
 refine Uz ((xZ hC hsh c.length [] s W8 t8 R SV hf0 List.nodup_nil (fun j h=>by cases h) (by simp) (fun _ h=>by cases h) HD).mono fun en W9 ⟨c9,t9,hp⟩=>?_); have kW:Kp W W9:=DF.kp kk c9 fun j hj=>by rcases hj with rfl | rfl <;> omega
 cases xd:J4 c [] s with
 | none =>
  rw [xd] at hp; obtain ⟨vo,rfl⟩:=hp; simp only [AQ,Bd,Be,AA]; rw [UQ]; refine ⟨kW,t9,?_⟩; rw [xd]; exact ⟨vo,rfl⟩
 | some fs =>
  rw [xd] at hp; obtain ⟨vo,S',rfl,ho,hn,_,_⟩:=hp; simp only [AQ,Bd,Be,AA]; rw [UQ]; refine ⟨kW,t9,?_⟩; rw [xd]; exact ⟨vo,rfl,ho,fun b l c e=>Nat.le_trans kk.sz (hn b l c e)⟩
theorem nb {c:List Aj} {s:ByteArray} {i:Nat} (hi:BL c s=some i):J4 c [] s=if L0 c i then none else some (FN c i):=by
 unfold J4 L0; rw [hi]; simp only
 cases hl:Bs c c.length i with
 | none=>rfl
 | some l =>
  have hf:FN c i=l.reverse.flatMap (Jz c):=by unfold FN; rw [hl]
  simp only; rw [←hf,fG]
  by_cases h60:(FN c i).length≤60
  ·rw [decide_eq_true h60,decide_eq_false (by omega)]
   cases Dt (FN c i).length (Ia (FN c i)) <;> rfl
  ·rw [decide_eq_false h60,decide_eq_true (by omega)]; simp
end Go.Ce
namespace Go.Ce
open Go Go.Proofs Go.Proofs.Tryz
theorem bA:Tryz.f47.results.toList=[.cell 2 78,.tmp 3]:=by kernel_rfl
theorem Ig {P:Program} {fn:Func} {Q:Ending→CW→Prop} {e:Env} {W:CW} {s t:Tmp} {ty:TypeId} {p:Addr} {v:Value} (hr:fn.results.toList=[.cell s ty,.tmp t]) (he:e s=.pointer (some p)) (hv:ld P ty (.pointer (some p)) W=some v) (hq:Q (.returned (.tuple #[v,e t])) W):AI P fn Q .ret e [] W:=by
 have hv:Jm P ty p W=some v:=hv; simp only [AI,EW,hr,LA,m5,he,hv]; exact hq
theorem Wy {c:List Aj} {i:Nat} (hs:∀ j,j<i+1→BU c j=false) {x:Aj} (hx:c[i]?=some x) (s:ByteArray):BL (c.take (i+1)) s=if s=x.name then some i else BL (c.take i) s:=by
 unfold BL; have Ge:=(List.getElem?_eq_some_iff.1 hx).1; rw [List.take_add_one,hx,Option.toList_some,List.findIdx?_append]
 by_cases e:s=x.name
 ·rw [if_pos e]
  have:(c.take i).findIdx? (fun y=>decide (y.name=s))=none:=by
   rw [List.findIdx?_eq_none_iff]; intro y hy; obtain ⟨j,hj,rfl⟩:=List.mem_take_iff_getElem.1 hy; have:=fE hs (by omega:j≠i) (by omega) (by omega) (List.getElem?_eq_getElem (by omega)) hx; rw [e]
   simpa using this
  rw [this]; simp [List.findIdx?_cons,e,List.length_take]; omega
 ·rw [if_neg e]; have:([x].findIdx? fun y=>decide (y.name=s))=none:=by simp [List.findIdx?_cons]; exact fun h=>e h.symm
  rw [this]
  cases (c.take i).findIdx? (fun y=>decide (y.name=s)) <;> rfl
theorem K2 {W W':CW} {r b k:Nat} {v:Value} {m:List (ByteArray × Value)} (hu:Da r W W') (hm:FR Value.string W r m) (hc:W.cell b k=some v):W'.cell b k=some v:=by
 obtain ⟨es,EE,h1,_⟩:=hm
 have:b≠r:=by
  rintro rfl; unfold CW.cell at hc; rw [h1] at hc; cases hc
 rw [hu.cell this]; exact hc
theorem TG.put {W:CW} {r:Nat} {c:List Aj} {i:Nat} {x:Aj} {u:Value} (h:TG W r (c.take i)) (hs:∀ j,j<i+1→BU c j=false) (hx:c[i]?=Option.some x) (hu:a7 W u x) {K:CW→Prop} (hK:∀ W1,Da r W W1→(∀ b k v,W.cell b k=Option.some v→W1.cell b k=Option.some v)→TG W1 r (c.take (i+1))→K W1):wV (cP prog 75 (.map (Option.some r)) (.string x.name) u W) K:=by
 obtain ⟨m,h1,h2⟩:=h; refine aQ u75 u9 rfl Fu h1 fun W1 Wx hm=>?_; have BP:∀ b k v,W.cell b k=Option.some v→W1.cell b k=Option.some v:=fun b k v hc=>K2 Wx h1 hc; have hA:∀ {u x},a7 W u x→a7 W1 u x:=fun {u x} ⟨vf,ab,lb,cb,h3,h4⟩=>⟨vf,ab,lb,cb,h3,h4.imp fun _ _ _ hr=>⟨BP _ _ _ hr.name,BP _ _ _ hr.kind,hr.lo,hr.hi⟩⟩
 refine hK W1 Wx BP ⟨_,hm,fun s=>?_⟩; have Ge:=(List.getElem?_eq_some_iff.1 hx).1; rw [Wy hs hx,II]
 by_cases e:s=x.name
 ·rw [if_pos e,if_pos e]; exact ⟨u,x,rfl,by rw [List.getElem?_take,if_pos (by omega)]; exact hx,hA hu⟩
 ·rw [if_neg e,if_neg e]; have:=h2 s
  cases hi:BL (c.take i) s with
  | none=>rw [hi] at this; exact this
  | some j =>
   rw [hi] at this; obtain ⟨u',x',h3,h4,h5⟩:=this; refine ⟨u',x',h3,?_,hA h5⟩; rw [List.getElem?_take] at h4 ⊢
   split at h4
   ·rw [if_pos (by omega)]; exact h4
   ·cases h4
theorem ABY (a b:Nat):Sh prog 78 [(0,.map (some a)),(1,.map (some b))]=some (.agg [.map (some a),.map (some b)].toArray):=by kernel_rfl
theorem V0 {W:CW} {b a1 a2:Nat} (h:BF W b 78 [.map (some a1),.map (some a2)]):ld prog 78 (.pointer (some ⟨b,0,none⟩)) W=some (.agg [.map (some a1),.map (some a2)].toArray):=Ba (vs:=[.map (some a1),.map (some a2)]) iB NS rfl (by omega) h.cells
def tU (W:CW) (r:Nat) (c:List Aj) (n:Nat):Prop:=∃ m:List (ByteArray × Value),FR Value.string W r m∧∀ s,match BL (c.take n) s with
 | some i=>∃ v,Kr m s=some v∧A3 1 (RKd W) v (BH c i)
 | none=>Kr m s=none
theorem u76:prog.underlying 76=some (.map 9 29):=by kernel_rfl
theorem z29:Gp prog 29=some (.slice none 0 0):=by kernel_rfl
theorem tU.put {W:CW} {r:Nat} {c:List Aj} {i:Nat} {x:Aj} {u:Value} (h:tU W r c i) (hs:∀ j,j<c.length→BU c j=false) (hx:c[i]?=some x) (hu:A3 1 (RKd W) u (BH c i)) {K:CW→Prop} (hK:∀ W1,Da r W W1→(∀ b k v,W.cell b k=some v→W1.cell b k=some v)→tU W1 r c (i+1)→K W1):wV (cP prog 76 (.map (some r)) (.string x.name) u W) K:=by
 obtain ⟨m,h1,h2⟩:=h; refine aQ u76 u9 rfl Fu h1 fun W1 Wx hm=>?_; have BP:∀ b k v,W.cell b k=some v→W1.cell b k=some v:=fun b k v hc=>K2 Wx h1 hc; have Ge:=(List.getElem?_eq_some_iff.1 hx).1; refine hK W1 Wx BP ⟨_,hm,fun s=>?_⟩; rw [Wy (fun j hj=>hs j (by omega)) hx,II]
 by_cases e:s=x.name
 ·rw [if_pos e,if_pos e]; exact ⟨u,rfl,hu.imp fun _ _ _ hr=>BP _ _ _ hr⟩
 ·rw [if_neg e,if_neg e]; have:=h2 s
  cases hi:BL (c.take i) s with
  | none=>rw [hi] at this; exact this
  | some j =>
   rw [hi] at this; obtain ⟨v,h3,h4⟩:=this; exact ⟨v,h3,h4.imp fun _ _ _ hr=>BP _ _ _ hr⟩
structure D_ (W:CW) (r1 r2:Nat) (c:List Aj):Prop where
 sh:TG W r1 c
 rw:tU W r2 c c.length
def K3 (r1 r2:Nat):Value:=.agg #[.map (some r1),.map (some r2)]
def Wz (c:List Aj) (W:CW):Ending→CW→Prop:=fun e W'=>Kp W W'∧Aq W'∧∃ r1 r2,e=.returned (.tuple #[K3 r1 r2,.bool (BV c)])∧W.sz≤r1∧W.sz≤r2∧(BV c=true→D_ W' r1 r2 c)
structure U0 (W0 W:CW) (b2 b4 r1 r2:Nat):Prop where
 kp:Kp W0 W
 top:Aq W
 b2:BF W b2 78 [.map none,.map none]
 b4:BF W b4 78 [.map (some r1),.map (some r2)]
theorem U0.cT {W0 W W':CW} {b2 b4 r1 r2:Nat} (I:U0 W0 W b2 b4 r1 r2) (k:Kp W W') (t:Aq W'):U0 W0 W' b2 b4 r1 r2:=⟨I.kp.trans k,t,I.b2.ext I.top k,I.b4.ext I.top k⟩
theorem Bo {W:CW} {b r:Nat} {el:TypeId} {vs:List Value} {m:List (ByteArray × Value)} (h:BF W b el vs) (hm:FR Value.string W r m):b≠r:=by
 rintro rfl; obtain ⟨es,EE,h1,_⟩:=hm; obtain ⟨c,n,z,h2,_⟩:=h; rw [h1] at h2; cases h2
theorem BF.Ih {W:CW} {b k:Nat} {el:TypeId} {vs:List Value} {v:Value} (h:BF W b el vs) (hc:W.cell b k=some v):vs[k]?=some v:=by
 obtain ⟨c,n,z,h1,h2,h3⟩:=h; unfold CW.cell at hc; rw [h1] at hc; simp only at hc
 split at hc
 ·rename_i hk; have hk:k<vs.length:=by omega
  have:=h3 k _ (List.getElem?_eq_getElem hk); rw [List.getElem?_eq_getElem hk,←hc,this]
 ·cases hc
theorem bB {v0:Value} {c:List Aj} {W:CW} (ht:Aq W) (hc:A3 5 (M7 W) v0 c) (hC:SG c):AD prog AM 47 [v0] W (Wz c W):=by
 refine ABA ?_; rw [AA_]; refine HM pf NS ht fun W0 k0 t0 z0 HN=>?_; have HN:BF W0 W.sz 78 [.map none,.map none]:=HN; refine UW (enc:=Value.string) t0 fun W1 k1 t1 z1 Va=>?_; refine UW (enc:=Value.string) t1 fun W2 k2 t2 z2 B3=>?_; rw [ABY]; simp only [AA]; refine D' pf NS rfl rfl rfl t2 fun W4 k4 t4 z4 Mj=>?_; obtain ⟨a,cap,rfl,_⟩:=id hc; simp only [At ky,AA,CO]; have hlen:=hC.len; have kk:Kp W W4:=((k0.trans k1).trans k2).trans k4; have I4:U0 W W4 W.sz W2.sz W0.sz W1.sz:=⟨kk,t4,HN.ext t0 ((k1.trans k2).trans k4),Mj⟩
 have ng:=Va.kp t1 (k2.trans k4); have nh:=B3.kp t2 k4; have r1W:W.sz≤W0.sz:=k0.sz; have r2W:W.sz≤W1.sz:=Nat.le_trans r1W k1.sz; generalize PO:W0.sz=r1 at I4 ng Va r1W; generalize lS:W1.sz=r2 at I4 nh B3 r2W; have r12:r1≠r2:=by omega
 generalize W2.sz=b4 at I4; generalize NB:W.sz=b2 at I4; generalize LM:AI prog Tryz.f47 (Wz c W)=K
 have Gz:∀ W1 (ok:Bool),U0 W W1 b2 b4 r1 r2→ok=BV c→(BV c=true→D_ W1 r1 r2 c)→∀ {K':CW→Prop},(∀ W2,(∀ e,e 2=.pointer (some ⟨b2,0,none⟩)→e 3=.bool ok→K .ret e [] W2)→K' W2) →
   wV (B5 prog 78 (.pointer (some ⟨b2,0,none⟩)) (.agg [.map (some r1),.map (some r2)].toArray) W1) K':=by
  intro W1 ok I Ai GG K' xe; refine Dj NS (a:=⟨b2,0,none⟩) rfl rfl I.b2 (by simp) fun W2 hu hB=>xe W2 fun e h2 h3=>?_; have hu:Da b2 W1 W2:=hu; rw [←LM]; have hB:BF W2 b2 78 [.map (some r1),.map (some r2)]:=hB; refine Ig bA h2 (V0 hB) ?_; have ADl:=I.b2.lt I.top; refine ⟨I.kp.Az (by omega) hu,I.top.Az ADl hu,r1,r2,by rw [h3,Ai]; rfl,by omega,by omega,fun hc=>?_⟩; obtain ⟨⟨m,g1,g2⟩,⟨m',g3,g4⟩⟩:=GG hc; have Vb:=Bo I.b2 g1; have cy:=Bo I.b2 g3
  have BP:∀ b k v,v≠.map none→W1.cell b k=some v→W2.cell b k=some v:=fun b k v hv h=>by
   rw [hu.cell]
   ·exact h
   ·rintro rfl; have h2:=I.b2.Ih h
    match k,h2 with
    | 0,h2=>cases h2; exact hv rfl
    | 1,h2=>cases h2; exact hv rfl
  refine ⟨⟨m,g1.congr (hu.obj r1 (Ne.symm Vb)),fun s=>?_⟩,⟨m',g3.congr (hu.obj r2 (Ne.symm cy)),fun s=>?_⟩⟩
  ·have:=g2 s
   cases hi:BL c s with
   | none=>rw [hi] at this; exact this
   | some i =>
    rw [hi] at this; obtain ⟨u,x,h5,h6,vf,ab,lb,cb,h7,h8⟩:=this; exact ⟨u,x,h5,h6,vf,ab,lb,cb,h7,h8.imp fun _ _ _ hr=>⟨BP _ _ _ (by intro h; cases h) hr.name,BP _ _ _ (by intro h; cases h) hr.kind,hr.lo,hr.hi⟩⟩
  ·have:=g4 s
   cases hi:BL (c.take c.length) s with
   | none=>rw [hi] at this; exact this
   | some i =>
    rw [hi] at this; obtain ⟨v,h5,h6⟩:=this; exact ⟨v,h5,h6.imp fun _ _ _ hr=>BP _ _ _ (by intro h; cases h) hr⟩
 refine AN (fun hg=>?_) (fun hg=>?_)
 ·rw [V0 I4.b4]; simp only [AA]
  have GX:BV c=false:=by
   have:=of_decide_eq_true hg; unfold BV; rw [decide_eq_false (by omega)]; rfl
  exact Gz W4 false I4 GX.symm (fun h=>by rw [GX] at h; cases h) fun W5 hr=>hr _ rfl rfl
 ·have hg:=of_decide_eq_false hg
  have Jg:BV c=(!Dt c.length (BU c) && !Dt c.length (L0 c)):=by
   unfold BV; rw [decide_eq_true (by omega)]; rfl
  have hA0:(∀ j,j<0→BU c j=false):=fun j h=>by omega
  refine FT (fun i e ds W'=>ds=[]∧U0 W W' b2 b4 r1 r2∧e 0=.slice a c.length cap∧e 19=.slice a c.length cap∧e 20=.int .i64 c.length∧e 21=.int .i64 i∧e 2=.pointer (some ⟨b2,0,none⟩)∧e 4=.pointer (some ⟨b4,0,none⟩)∧TG W' r1 (c.take i)∧FR Value.string W' r2 []∧∀ j,j<i→BU c j=false) c.length
   ⟨rfl,I4,rfl,rfl,rfl,rfl,rfl,rfl,⟨[],ng,fun s=>rfl⟩,nh,hA0⟩ ?_
  rintro i e ds W' hi ⟨rfl,I',h0,h19,h20,h21,h2,h4,VV,hrm,Bg⟩; rw [wx,h19,h20,h21]; simp only [Ax,AA]
  refine It (fun A0=>?_) (fun Mx=>?_)
  ·obtain ⟨x,hx⟩:∃ x,c[i]?=some x:=⟨_,List.getElem?_eq_getElem A0⟩
   have Hl:=List.mem_of_getElem? hx; have hcW:A3 5 (M7 W') (.slice a c.length cap) c:=hc.imp fun _ _ _ hr=>hr.kp ht I'.kp; obtain ⟨a',cap',ha,BP⟩:=hcW
   cases ha
   obtain ⟨p,rfl,hr⟩:=BP i _ hx; obtain ⟨vf,ab,lb,cb,xg,tV⟩:=hr.ld; obtain ⟨af,xh,rfl,_⟩:=id tV; rw [BM ky gu A0]; simp only [AA,xg]; refine D' nN gu rfl rfl rfl I'.top fun W6 k6 t6 z6 Ja=>?_; have I6:=I'.cT k6 t6; have q0:∀ W7,Kp W6 W7→ld prog 9 (.pointer (some ⟨W'.sz,0,none⟩)) W7=some (.string x.name):=fun W7 k7=>AF a9 (a:=⟨W'.sz,0,none⟩) (k7.cell t6 (Ja.cell rfl)); have q1:∀ W7,Kp W6 W7→ld prog 9 (.pointer (some ⟨W'.sz,0+1,none⟩)) W7=some (.string x.By):=fun W7 k7=>AF a9 (a:=⟨W'.sz,1,none⟩) (k7.cell t6 (Ja.cell rfl)); have q2:∀ W7,Kp W6 W7→ld prog 45 (.pointer (some ⟨W'.sz,0+2,none⟩)) W7=some (.slice af x.fields.length xh):=fun W7 k7=>AF a45 (a:=⟨W'.sz,2,none⟩) (k7.cell t6 (Ja.cell rfl)); have q3:∀ W7,Kp W6 W7→ld prog 5 (.pointer (some ⟨W'.sz,0+3,none⟩)) W7=some (.int .u8 x.elem):=fun W7 k7=>AF a5 (a:=⟨W'.sz,3,none⟩) (k7.cell t6 (Ja.cell rfl)); have xi:BU c i=((!GB x.name || IZ c x i) || ((decide (x.elem≠0) && (!Hy x.elem || decide (x.By≠EP) || decide (0<x.fields.length))) || decide (20<x.fields.length))):=by unfold BU; rw [hx]
   have leaf:∀ (W7:CW) (b:Bool) (e1:Env),Kp W6 W7→Aq W7→DR [0,2,4,19,20,21] e e1→e1 6=.pointer (some ⟨W'.sz,0,none⟩)→e1 73=.bool b→b=BU c i →
     (JE none (Ot (fun i e ds W'=>ds=[]∧U0 W W' b2 b4 r1 r2∧e 0=.slice (some p) c.length cap∧e 19=.slice (some p) c.length cap∧e 20=.int .i64 c.length∧e 21=.int .i64 i∧e 2=.pointer (some ⟨b2,0,none⟩)∧e 4=.pointer (some ⟨b4,0,none⟩)∧TG W' r1 (c.take i)∧FR Value.string W' r2 []∧∀ j,j<i→BU c j=false) i c.length (Av 0 (Uu none K)))) .normal e1 [] W7:=by
    intro W7 b e1 k7 t7 hA g6 g73 hb; have I7:=I6.cT k7 t7; have g2:=(hA 2 (by decide)).trans h2; have g4:=(hA 4 (by decide)).trans h4; simp only [JE,Bi,g73]
    refine AN (fun R0=>?_) (fun R0=>?_)
    ·rw [g2,g4,V0 I7.b4]; simp only [AA]; have GX:BV c=false:=by rw [Jg,Dz A0 (by rw [←hb,R0])]; rfl
     refine Gz W7 false I7 GX.symm (fun h=>by rw [GX] at h; cases h) fun W8 hr=>?_; simp only [Ov,Uv,Bi,LC,PV,Kv,Wm,Uu]; exact hr _ g2 rfl
    ·have Rz:BU c i=false:=by rw [←hb,R0]
     simp only [Ov,Bi,g4,g6,K1,Oo,AA]; rw [AF xX (a:=⟨b4,0,none⟩) (I7.b4.cell rfl),q0 W7 k7,Ba (vs:=[.string x.name,.string x.By,.slice af x.fields.length xh,.int .u8 x.elem,.slice ab lb cb]) a48 gu rfl (by omega) (Ja.ext t6 k7).cells]; simp only [AA]; have k67:=k6.trans k7; have ABZ:=VV.kp I'.top k67; refine ABZ.put (J0 Bg Rz) hx ⟨_,_,_,_,rfl,tV.imp fun _ _ _ hr=>hr.kp I'.top k67⟩ fun W8 hu BP xj=>?_; obtain ⟨m7,g7,_⟩:=ABZ; have ABX:=g7.lt I7.top; have t8:=I7.top.Az ABX hu; have cy:=Bo I7.b2 g7; have hn4:=Bo I7.b4 g7; have I8:U0 W W8 b2 b4 r1 r2:=⟨I7.kp.Az r1W hu,t8,I7.b2.congr (hu.obj _ cy),I7.b4.congr (hu.obj _ hn4)⟩
     simp only [Uv,Bi,Kv]; simp only [AW,Aa,Nat.reduceEqDiff,↓reduceIte,(hA 21 (by decide)).trans h21,Ae,AA]; refine ⟨A0,trivial,I8,(hA 0 (by decide)).trans h0,(hA 19 (by decide)).trans h19,(hA 20 (by decide)).trans h20,by rw [FU (by omega)],g2,g4,xj,((hrm.kp I'.top k67).congr (hu.obj _ (Ne.symm r12))),J0 Bg Rz⟩
   have hnp:∀ b:Bool,b=(decide (x.elem=0) || (Hy x.elem && (decide (x.By=EP) && decide (x.fields.length=0))))→BU c i=((!GB x.name || IZ c x i) || (!b || decide (20<x.fields.length))):=by
    intro b hb; rw [xi,hb]; congr 2
    by_cases e1:x.elem=0 <;> by_cases e2:x.By=EP <;> by_cases e3:x.fields.length=0 <;> cases Hy x.elem <;> simp [e1,e2,e3] <;> omega
   have head:∀ (b:Bool) (e1:Env),DR [0,2,4,19,20,21] e e1→e1 6=.pointer (some ⟨W'.sz,0,none⟩)→e1 5=.int .i64 i→e1 7=.bool b→b=(decide (x.elem=0) || (Hy x.elem && (decide (x.By=EP) && decide (x.fields.length=0)))) →
     (Kx none (Ot (fun i e ds W'=>ds=[]∧U0 W W' b2 b4 r1 r2∧e 0=.slice (some p) c.length cap∧e 19=.slice (some p) c.length cap∧e 20=.int .i64 c.length∧e 21=.int .i64 i∧e 2=.pointer (some ⟨b2,0,none⟩)∧e 4=.pointer (some ⟨b4,0,none⟩)∧TG W' r1 (c.take i)∧FR Value.string W' r2 []∧∀ j,j<i→BU c j=false) i c.length (Av 0 (Uu none K)))) .normal e1 [] W6:=by
    intro b e1 hA g6 g5 g7 hb; have xi:=hnp b hb; have g0:=(hA 0 (by decide)).trans h0; simp only [Kx,Bi,g0,g5,g6,g7,Oo,Oq,AA,q0 W6 (.refl _)]; refine UX (Rs t6 (by have:=hC.name x Hl; omega)) fun W7 k7 t7=>?_; simp only [Ar,AA,CO]
    refine AN (fun hs=>?_) (fun hs=>?_)
    ·exact ⟨by simp only [q0 W6 (.refl _),and_self],trivial,leaf W7 true _ k7 t7 (hA.trans (.put rfl)) g6 rfl (by rw [xi,hs]; rfl)⟩
    ·have tl:∀ e2:Env,True:=fun _=>trivial; refine AN (fun h=>?g1) (fun h=>?g2)
     case' g1 =>
      obtain ⟨j,rfl⟩:∃ j,i=j+1:=⟨i-1,by have:=of_decide_eq_true h; omega⟩
      have Vy:j<c.length:=by omega
      have hxp:=List.getElem?_eq_getElem Vy; obtain ⟨p',hp',lT⟩:=BP j _ hxp
      cases hp'
      have es:((j+1:Nat):Int)-1=(j:Nat):=by omega
      have hpb:IZ c x (j+1)=!SP (sb c[j].name) (sb x.name):=by unfold IZ; simp only [hxp]
      have q4:ld prog 9 (.pointer (some ⟨p.block,p.off+j*5,none⟩)) W7=some (.string c[j].name):=AF a9 (a:=⟨p.block,p.off+j*5,none⟩) (k7.cell t6 (k6.cell I'.top lT.name)); simp only [Ak,AA,es]; rw [wrap64 (by omega) (by omega),BM ky gu Vy]; simp only [AA,Oo,q0 W7 k7,q4,Wk]; refine AN (fun hq=>?h1) (fun hq=>?h2)
      case h1=>exact ⟨by simp only [q0 W6 (.refl _),and_self],trivial,leaf W7 true _ k7 t7 (hA.trans (.put rfl)) g6 rfl (by rw [xi,hpb,hq]; simp)⟩
      have hpf:=hpb.trans hq
     case' g2 =>
      have hpf:IZ c x i=false:=by
       cases i with
       | zero=>rfl
       | succ i=>have:=of_decide_eq_false h; omega
     all_goals
      rw [hs,hpf,Bool.or_self,Bool.false_or] at xi
      refine AN (fun h1=>?_) (fun h1=>?_)
      ·exact ⟨by simp only [q0 W6 (.refl _),and_self],trivial,leaf W7 true _ k7 t7 (hA.trans (.put rfl)) g6 rfl (by rw [xi,h1]; rfl)⟩
      ·simp only [q2 W7 k7,At tL,AA,CO]; refine ⟨by simp only [q0 W6 (.refl _),and_self],trivial,leaf W7 _ _ k7 t7 (hA.trans (.put rfl)) g6 rfl ?_⟩; rw [xi,h1,Bool.false_or]; exact decide_eq_decide.2 (by omega)
   simp only [YS,AA,q3 W6 (.refl _),CD]
   refine AN (fun he=>?_) (fun he=>?_)
   ·have he:x.elem=0:=by simpa using he
    exact head true _ (.put rfl) rfl rfl rfl (by rw [decide_eq_true he]; rfl)
   ·have he:¬x.elem=0:=by simpa using he
    refine BA (Wl _ _) ?_
    refine AN (fun hk=>?_) (fun hk=>?_)
    ·have hk:Hy x.elem=true:=hk; simp only [YR,AA,q1 W6 (.refl _),MY,MZ]
     refine AN (fun ri=>?_) (fun ri=>?_)
     ·have ri:decide (x.By=EP)=true:=ri; simp only [Oq,AA,q2 W6 (.refl _),At tL,CD]; refine head ((x.fields.length:Int) == 0) _ (.put rfl) rfl rfl rfl ?_; rw [decide_eq_false he,hk,ri,Bool.false_or,Bool.true_and,Bool.true_and]
      cases x.fields <;> simp
      omega
     ·have ri:decide (x.By=EP)=false:=ri; exact head false _ (.put rfl) rfl rfl rfl (by rw [decide_eq_false he,ri]; simp)
    ·have hk:Hy x.elem=false:=hk; exact head false _ (.put rfl) rfl rfl rfl (by rw [decide_eq_false he,hk]; rfl)
  ·have ZI:c.take i=c:=List.take_of_length_le (by omega); rw [ZI] at VV; have hS:∀ j,j<c.length→BU c j=false:=fun j hj=>Bg j (by omega); have hSa:Dt c.length (BU c)=false:=FB hS; rw [hSa] at Jg; simp only [Bi,Rr,JB,Uj,if_true,Uu]; simp only [AW,Aa,Nat.reduceEqDiff,↓reduceIte,h0]; simp only [At ky,AA]
   refine FT (fun i e ds W'=>ds=[]∧U0 W W' b2 b4 r1 r2∧e 81=.slice a c.length cap∧e 82=.int .i64 c.length∧e 83=.int .i64 i∧e 2=.pointer (some ⟨b2,0,none⟩)∧e 4=.pointer (some ⟨b4,0,none⟩)∧TG W' r1 c∧tU W' r2 c i∧∀ j,j<i→L0 c j=false) c.length
    ⟨rfl,I',rfl,rfl,rfl,h2,h4,VV,⟨[],hrm,fun s=>by simp [BL,Kr]⟩,by omega⟩ ?_
   rintro i2 e2 ds2 W2 hi2 ⟨rfl,I2,g81,g82,g83,g2,g4,xk,xl,R3⟩; rw [wy,g81,g82,g83]; simp only [Ax,AA]
   refine It (fun A0=>?_) (fun ABa=>?_)
   ·obtain ⟨x,hx⟩:∃ x,c[i2]?=some x:=⟨_,List.getElem?_eq_getElem A0⟩
    have Hl:=List.mem_of_getElem? hx; have hcW:A3 5 (M7 W2) (.slice a c.length cap) c:=hc.imp fun _ _ _ hr=>hr.kp ht I2.kp; obtain ⟨a',cap',ha,BP⟩:=hcW
    cases ha
    obtain ⟨p,rfl,hr⟩:=BP i2 _ hx; obtain ⟨vf,ab,lb,cb,xg,tV⟩:=hr.ld; obtain ⟨af,xh,rfl,_⟩:=id tV; rw [BM ky gu A0]; simp only [AA,xg]; refine D' nN gu rfl rfl rfl I2.top fun W6 k6 t6 z6 Ja=>?_; have I6:=I2.cT k6 t6; have q0:∀ W7,Kp W6 W7→ld prog 9 (.pointer (some ⟨W2.sz,0,none⟩)) W7=some (.string x.name):=fun W7 k7=>AF a9 (a:=⟨W2.sz,0,none⟩) (k7.cell t6 (Ja.cell rfl)); rw [g4,V0 I6.b4]; simp only [Oo,AA,q0 W6 (.refl _)]; refine (re hC hS t6 (xk.kp I2.top k6) rfl (by have:=hC.name x Hl; omega)).mono fun en W7 ⟨k7,t7,hp⟩=>?_; have Jq:=rZ hS hx; rw [nb Jq] at hp; have I7:=I6.cT k7 t7
    cases hrb:L0 c i2 with
    | true =>
     rw [hrb] at hp; obtain ⟨vo,rfl⟩:=hp; simp only [AQ,Bd,Be,AA,Ar]; rw [show (!false)=true from rfl]; simp only [Bx]; rw [V0 I7.b4,g2]; simp only [AA]; have GX:BV c=false:=by rw [Jg,Dz A0 hrb]; rfl
     refine Gz W7 false I7 GX.symm (fun h=>by rw [GX] at h; cases h) fun W8 hr=>?_; simp only [Ow,LC,PV,Kv,Wm,eo]; exact hr _ g2 rfl
    | false =>
     rw [hrb] at hp; obtain ⟨vo,rfl,ho,hn⟩:=hp; simp only [AQ,Bd,Be,AA,Ar]; rw [show (!true)=false from rfl]; simp only [Ay,O4,AA,q0 W7 k7]; rw [AF a76 (a:=⟨b4,0+1,none⟩) (I7.b4.cell rfl)]; simp only [AA]; have xm:A3 1 (RKd W7) vo (BH c i2):=Hs (f:=fun k=>Value.int .u8 k) (by unfold BH; exact ho)
     have ABb:tU W7 r2 c i2:=by
      obtain ⟨m,m1,m2⟩:=xl; refine ⟨m,m1.kp I2.top (k6.trans k7),fun s=>?_⟩; have:=m2 s
      cases hi:BL (c.take i2) s with
      | none=>rw [hi] at this; exact this
      | some i =>
       rw [hi] at this; obtain ⟨v,h5,h6⟩:=this; exact ⟨v,h5,h6.imp fun _ _ _ hr=>(k6.trans k7).cell I2.top hr⟩
     refine ABb.put hS hx xm fun W8 hu ni ADm=>?_; obtain ⟨m7,g7,_⟩:=ABb; have ADn:=g7.lt I7.top; have cy:=Bo I7.b2 g7; have hn4:=Bo I7.b4 g7; have I8:U0 W W8 b2 b4 r1 r2:=⟨I7.kp.Az r2W hu,I7.top.Az ADn hu,I7.b2.congr (hu.obj _ cy),I7.b4.congr (hu.obj _ hn4)⟩
     have xj:TG W8 r1 c:=by
      obtain ⟨m,m1,m2⟩:=xk.kp I2.top (k6.trans k7); refine ⟨m,m1.congr (hu.obj _ r12),fun s=>?_⟩; have:=m2 s
      cases hi:BL c s with
      | none=>rw [hi] at this; exact this
      | some i =>
       rw [hi] at this; obtain ⟨u,x,h5,h6,vf,ab,lb,cb,h7,h8⟩:=this; exact ⟨u,x,h5,h6,vf,ab,lb,cb,h7,h8.imp fun _ _ _ hr=>⟨ni _ _ _ hr.name,ni _ _ _ hr.kind,hr.lo,hr.hi⟩⟩
     simp only [Ow,Bi,Kv]; simp only [AW,Aa,Nat.reduceEqDiff,↓reduceIte,g83,Ae,AA]; exact ⟨A0,trivial,I8,g81,g82,by rw [FU (by omega)],g2,g4,xj,ADm,J0 R3 hrb⟩
   ·have hR:Dt c.length (L0 c)=false:=FB fun j hj=>R3 j (by omega); have Rz:BV c=true:=by rw [Jg,hR]; rfl
    have hi3:i2=c.length:=by omega
    rw [hi3] at xl; simp only [Bi,Rr,JB,Uj,if_true,eo]; simp only [AW,Aa,Nat.reduceEqDiff,↓reduceIte,g2,g4]; rw [V0 I2.b4]; simp only [AA]; exact Gz W2 true I2 Rz.symm (fun _=>⟨xk,xl⟩) fun W8 hr=>hr _ g2 rfl
end Go.Ce
namespace Go.Ce
open Go Go.Proofs Go.Proofs.Tryz
theorem bC {v0:Value} {l:List Int} {n:Int} {W:CW} (hc:A3 1 (DW W) v0 l) (hlen:l.length<1000000):AD prog AM 126 [v0,.int .i64 n] W (Gk (.int .i64 (IY l fun x=>decide (x=n))) W):=by
 refine xU ?_; rw [xT]; obtain ⟨a,cap,rfl,BP⟩:=hc; simp only [At Hq,AA]; refine FT (fun i e ds W'=>W'=W∧ds=[]∧e 0=.slice a l.length cap∧e 1=.int .i64 n∧e 7=.int .i64 l.length∧e 8=.int .i64 i∧∀ j x,j<i→l[j]?=some x→decide (x=n)=false) l.length ⟨rfl,rfl,rfl,rfl,rfl,rfl,by omega⟩ ?_; rintro i e ds W' hi ⟨rfl,rfl,h0,h1,h7,h8,Bg⟩; rw [rY,h0,h1,h7,h8]; simp only [Ax,AA]
 refine It (fun A0=>?_) (fun Mx=>?_)
 ·have hx:=List.getElem?_eq_getElem A0; obtain ⟨p,rfl,hp⟩:=BP i _ hx; rw [BM Hq s3 A0]; simp only [AA]; rw [AF a3 (a:=⟨p.block,p.off+i*1,none⟩) hp.1]; simp only [AA,CD]
  refine AN (fun hq=>?_) (fun hq=>?_)
  ·have hq:n=l[i]:=by simpa using hq
   simp only [TF,LC,PV,Kv,Wm,Yd,Ux]; refine ⟨?_,rfl⟩; simp only [AW,↓reduceIte]; rw [Jw A0 (by simp [hq]) Bg]
  ·have hq:¬n=l[i]:=by simpa using hq
   simp only [TF,Bi,Kv]; simp only [AW,Aa,Nat.reduceEqDiff,↓reduceIte,h0,h1,h7,h8,Ae,AA]; refine ⟨A0,trivial,trivial,trivial,trivial,trivial,by rw [FU (by omega)],fun j x hj QN=>?_⟩
   rcases Nat.lt_succ_iff_lt_or_eq.1 hj with h2 | rfl
   ·exact Bg j x h2 QN
   ·rw [hx] at QN; cases QN; exact decide_eq_false fun e=>hq e.symm
 ·simp only [Bi,Rr,JB,Uj,if_true,Yd,Ux]; refine ⟨?_,rfl⟩; simp only [AW,↓reduceIte]; rw [Jx fun j x hj hx=>Bg j x (by omega) hx]
theorem U1 {v0:Value} {l:List Int} {n:Int} {W:CW} (hc:A3 1 (DW W) v0 l) (hlen:l.length<1000000):AD prog AM 104 [v0,.int .i64 n] W (Gk (.bool (l.any fun x=>decide (x=n))) W):=by
 refine xS ?_; rw [xR]; refine BA (bC hc hlen) ?_; simp only [DL,AA,fD]; refine ⟨?_,rfl⟩; simp only [AW,↓reduceIte]; congr 2; unfold IY
 cases h:l.findIdx? fun x=>decide (x=n) with
 | none =>
  rw [List.findIdx?_eq_none_iff] at h
  have:(l.any fun x=>decide (x=n))=false:=by
   rw [List.any_eq_false]; intro x hx; rw [h x hx]; simp
  rw [this]; rfl
 | some i =>
  obtain ⟨h1,h2,_⟩:=List.findIdx?_eq_some_iff_getElem.1 h; rw [List.any_eq_true.2 ⟨_,List.getElem_mem h1,h2⟩]; simp
def fJ (W:CW) (u:Value) (x:Br):Prop:=∃ am cm,u=.agg #[.string x.type,.string x.to,.slice am x.map.length cm]∧A3 1 (DW W) (.slice am x.map.length cm) x.map
def O6 (key:Br→ByteArray) (W:CW) (r:Nat) (l:List Br):Prop:=∃ m:List (ByteArray × Value),FR Value.string W r m∧∀ s,match l.find? (fun x=>decide (key x=s)) with
 | some x=>∃ u,Kr m s=some u∧fJ W u x
 | none=>Kr m s=none
theorem fJ.cell {W W1:CW} {u:Value} {x:Br} (h:fJ W u x) (hc:∀ b k k2 n,W.cell b k=some (.int k2 n)→W1.cell b k=some (.int k2 n)):fJ W1 u x:=by
 obtain ⟨am,cm,h1,h2⟩:=h; exact ⟨am,cm,h1,h2.imp fun _ _ _ hr=>⟨hc _ _ _ _ hr.1,hr.2⟩⟩
theorem O6.cell {key:Br→ByteArray} {W W1:CW} {r:Nat} {l:List Br} (h:O6 key W r l) (ho:W1.obj r=W.obj r) (hc:∀ b k k2 n,W.cell b k=some (.int k2 n)→W1.cell b k=some (.int k2 n)):O6 key W1 r l:=by
 obtain ⟨m,h1,h2⟩:=h; refine ⟨m,h1.congr ho,fun s=>?_⟩; have:=h2 s
 cases hf:l.find? (fun x=>decide (key x=s)) with
 | none=>rw [hf] at this; exact this
 | some x =>
  rw [hf] at this; obtain ⟨u,h3,h4⟩:=this; exact ⟨u,h3,h4.cell hc⟩
theorem O6.kp {key:Br→ByteArray} {W W1:CW} {r:Nat} {l:List Br} (h:O6 key W r l) (ht:Aq W) (k:Kp W W1):O6 key W1 r l:=by
 have h':=h; obtain ⟨m,h1,_⟩:=h'; exact h.cell (k.obj r (h1.lt ht)) fun _ _ _ _ hc=>k.cell ht hc
theorem u81:prog.underlying 81=some (.map 9 58):=by kernel_rfl
def xn:Value:=.agg #[.string ⟨#[]⟩,.string ⟨#[]⟩,.slice none 0 0]
theorem rj:Gp prog 58=some xn:=by kernel_rfl
theorem O6.put {key:Br→ByteArray} {W:CW} {r:Nat} {l:List Br} {i:Nat} {x:Br} {u:Value} (h:O6 key W r (l.take i)) (hx:l[i]?=some x) (rk:∀ j y,j<i→l[j]?=some y→key y≠key x) (hu:fJ W u x) {K:CW→Prop}
  (hK:∀ W1,Da r W W1→(∀ b k v,W.cell b k=some v→W1.cell b k=some v)→O6 key W1 r (l.take (i+1))→K W1):wV (cP prog 81 (.map (some r)) (.string (key x)) u W) K:=by
 obtain ⟨m,h1,h2⟩:=h; refine aQ u81 u9 rfl Fu h1 fun W1 Wx hm=>?_; have BP:∀ b k v,W.cell b k=some v→W1.cell b k=some v:=fun b k v hc=>K2 Wx h1 hc; refine hK W1 Wx BP ⟨_,hm,fun s=>?_⟩; have Ge:=(List.getElem?_eq_some_iff.1 hx).1; rw [List.take_add_one,hx,Option.toList_some,List.find?_append,II]
 by_cases e:s=key x
 ·rw [if_pos e]
  have:(l.take i).find? (fun y=>decide (key y=s))=none:=by
   rw [List.find?_eq_none]; intro y hy; obtain ⟨j,hj,rfl⟩:=List.mem_take_iff_getElem.1 hy; have:=rk j _ (by omega) (List.getElem?_eq_getElem (by omega)); rw [e]
   simpa using this
  rw [this]; simp only [Option.none_or,List.find?_cons,e,decide_true]; exact ⟨u,rfl,hu.cell fun _ _ _ _ hc=>BP _ _ _ hc⟩
 ·rw [if_neg e]
  have:([x].find? fun y=>decide (key y=s))=none:=by
   rw [List.find?_eq_none]; intro y hy; rw [List.mem_singleton.1 hy]
   simpa using Ne.symm e
  rw [this,Option.or_none]; have:=h2 s
  cases hf:(l.take i).find? (fun y=>decide (key y=s)) with
  | none=>rw [hf] at this; exact this
  | some y =>
   rw [hf] at this; obtain ⟨u',h3,h4⟩:=this; exact ⟨u',h3,h4.cell fun _ _ _ _ hc=>BP _ _ _ hc⟩
theorem O6.some {key:Br→ByteArray} {W:CW} {r:Nat} {l:List Br} (h:O6 key W r l) {s:ByteArray} {x:Br} (hf:l.find? (fun x=>decide (key x=s))=Option.some x):∃ u,fJ W u x∧HW prog 81 (.map (Option.some r)) (.string s) true W=Option.some (.tuple #[u,.bool true]):=by
 obtain ⟨m,h1,h2⟩:=h; have:=h2 s; rw [hf] at this; obtain ⟨u,h3,h4⟩:=this; refine ⟨u,h4,?_⟩; rw [Ks u81 u9 rfl rj Fu h1 s true,h3]; rfl
theorem O6.none {key:Br→ByteArray} {W:CW} {r:Nat} {l:List Br} (h:O6 key W r l) {s:ByteArray} (hf:l.find? (fun x=>decide (key x=s))=Option.none):HW prog 81 (.map (Option.some r)) (.string s) true W=Option.some (.tuple #[xn,.bool false]):=by
 obtain ⟨m,h1,h2⟩:=h; have:=h2 s; rw [hf] at this; rw [Ks u81 u9 rfl rj Fu h1 s true,this]; rfl
theorem tU.some {W:CW} {r:Nat} {c:List Aj} (h:tU W r c c.length) {s:ByteArray} {i:Nat} (hi:BL c s=Option.some i):∃ a cap,HW prog 76 (.map (Option.some r)) (.string s) false W=Option.some (.slice a (BH c i).length cap)∧A3 1 (RKd W) (.slice a (BH c i).length cap) (BH c i):=by
 obtain ⟨m,h1,h2⟩:=h; have:=h2 s; rw [List.take_length,hi] at this; obtain ⟨v,h3,h4⟩:=this; obtain ⟨a,cap,rfl,h5⟩:=id h4; refine ⟨a,cap,?_,h4⟩; rw [Ks u76 u9 rfl z29 Fu h1 s false,h3]; rfl
def En (c:List Aj) (l:List Br) (i:Nat) (s:Br):Bool:=match BL c s.type,BL c s.to with
 | some t,some a=>(decide (elemAt c t≠0) || decide (elemAt c a≠0) || G' l s i) || decide (s.map.length≠(BH c a).length)
 | _,_=>true
def Mk (l:List Br) (i:Nat) (s:Br):Bool:=Dt i fun k=>decide ((l[k]?).map (·.to)=some s.to)
def U2 (c:List Aj) (s:Br):Bool:=match BL c s.type,BL c s.to with
 | some t,some a=>Dt (BH c a).length (Kw (BH c t) (BH c a) s.map)
 | _,_=>true
def QW (l:List Br) (s:Br):Bool:=(l.find? fun x=>decide (x.type=s.to)).isSome
def Jb (c:List Aj) (l:List Br) (i:Nat):Bool:=match l[i]? with
 | none=>true
 | some s=>En c l i s || (Mk l i s || U2 c s)
theorem QX {c:List Aj} {l:List Br} {i:Nat} {s:Br} (hs:l[i]?=some s):QQ c l i=(Jb c l i || QW l s):=by
 unfold QQ Jb En U2; rw [hs]; simp only
 cases ht:BL c s.type with
 | none=>simp
 | some t =>
  cases ha:BL c s.to with
  | none=>simp
  | some a =>
   simp only
   have hn:Dt l.length (JC l s i)=(Mk l i s || QW l s):=by
    have Ge:=(List.getElem?_eq_some_iff.1 hs).1; rw [Bool.eq_iff_iff,Bool.or_eq_true]; unfold QW; rw [List.find?_isSome]
    constructor
    ·intro h; obtain ⟨k,hk,hb⟩:=List.any_eq_true.1 h; have hk:=List.mem_range.1 hk; unfold JC at hb; have hxk:=List.getElem?_eq_getElem hk; rw [hxk] at hb; simp only [Bool.or_eq_true,Bool.and_eq_true,decide_eq_true_eq] at hb
     rcases hb with hb | ⟨hb,NB⟩
     ·exact .inr ⟨_,List.getElem_mem hk,by simpa using hb⟩
     ·exact .inl (Dz hb (by rw [hxk]; simpa using NB))
    ·rintro (h | ⟨x,hx,hb⟩)
     ·obtain ⟨k,hk,hb⟩:=List.any_eq_true.1 h; have hk:=List.mem_range.1 hk; have hxk:=List.getElem?_eq_getElem (show k<l.length by omega); rw [hxk] at hb; refine Dz (show k<l.length by omega) ?_; unfold JC; rw [hxk]; simp only [Option.map_some,Option.some.injEq,decide_eq_true_eq] at hb; simp [hb,hk]
     ·obtain ⟨k,hk,rfl⟩:=List.mem_iff_getElem.1 hx; refine Dz hk ?_; unfold JC; rw [List.getElem?_eq_getElem hk]; simp only [hb,Bool.true_or]
   rw [hn]
   cases decide (elemAt c t≠0) <;> cases decide (elemAt c a≠0) <;> cases G' l s i <;> cases Mk l i s <;> cases QW l s <;> cases decide (s.map.length≠(BH c a).length) <;> simp
theorem rn {c:List Aj} {l:List Br}:∀ {i:Nat},(∀ j,j<i→∀ s,l[j]?=some s→En c l j s=false)→∀ j k x y,j<k→k<i→l[j]?=some x→l[k]?=some y→SP (sb x.type) (sb y.type)=true:=by
 intro i h j k
 induction k with
 | zero=>intro x y hj; omega
 | succ k ih =>
  intro x y hj hk hx hy; have hb:=h (k+1) hk y hy; unfold En at hb
  split at hb
  ·simp only [Bool.or_eq_false_iff] at hb; have hp:=hb.1.2; unfold G' at hp; have h_:k<l.length:=by have:=(List.getElem?_eq_some_iff.1 hy).1; omega
   have hz:=List.getElem?_eq_getElem h_; simp only [hz,Bool.not_eq_false'] at hp
   rcases Nat.lt_succ_iff_lt_or_eq.1 hj with h1 | rfl
   ·exact Mi _ _ _ (ih x _ h1 (by omega) hx hz) hp
   ·rw [hx] at hz; cases hz; exact hp
  ·cases hb
end Go.Ce
namespace Go.Ce
open Go Go.Proofs Go.Proofs.Tryz
theorem D_.kp {W W':CW} {r1 r2:Nat} {c:List Aj} (h:D_ W r1 r2 c) (ht:Aq W) (k:Kp W W'):D_ W' r1 r2 c:=by
 refine ⟨h.sh.kp ht k,?_⟩; obtain ⟨m,m1,m2⟩:=h.rw; refine ⟨m,m1.kp ht k,fun s=>?_⟩; have:=m2 s
 cases hi:BL (c.take c.length) s with
 | none=>rw [hi] at this; exact this
 | some i =>
  rw [hi] at this; obtain ⟨v,h5,h6⟩:=this; exact ⟨v,h5,h6.imp fun _ _ _ hr=>k.cell ht hr⟩
theorem D_.Az {W W':CW} {r1 r2 r:Nat} {c:List Aj} (h:D_ W r1 r2 c) (hu:Da r W W') (h1:r1≠r) (h2:r2≠r) (BP:∀ b k v,W.cell b k=some v→W'.cell b k=some v):D_ W' r1 r2 c:=by
 constructor
 ·obtain ⟨m,m1,m2⟩:=h.sh; refine ⟨m,m1.congr (hu.obj _ h1),fun s=>?_⟩; have:=m2 s
  cases hi:BL c s with
  | none=>rw [hi] at this; exact this
  | some i =>
   rw [hi] at this; obtain ⟨u,x,h5,h6,vf,ab,lb,cb,h7,h8⟩:=this; exact ⟨u,x,h5,h6,vf,ab,lb,cb,h7,h8.imp fun _ _ _ hr=>⟨BP _ _ _ hr.name,BP _ _ _ hr.kind,hr.lo,hr.hi⟩⟩
 ·obtain ⟨m,m1,m2⟩:=h.rw; refine ⟨m,m1.congr (hu.obj _ h2),fun s=>?_⟩; have:=m2 s
  cases hi:BL (c.take c.length) s with
  | none=>rw [hi] at this; exact this
  | some i =>
   rw [hi] at this; obtain ⟨v,h5,h6⟩:=this; exact ⟨v,h5,h6.imp fun _ _ _ hr=>BP _ _ _ hr⟩
theorem bD {mp:List Int} {k:Nat} (hk:k≤mp.length) (n:Int):QP mp k n=(mp.take k).any fun x=>decide (x=n):=by
 unfold QP Dt; rw [Bool.eq_iff_iff,List.any_eq_true,List.any_eq_true]
 constructor
 ·rintro ⟨j,hj,h⟩; have hjk:=List.mem_range.1 hj; rw [List.getElem?_eq_getElem (by omega)] at h; exact ⟨mp[j],List.mem_take_iff_getElem.2 ⟨j,by omega,rfl⟩,by simpa using h⟩
 ·rintro ⟨x,hx,h⟩; obtain ⟨j,hj,rfl⟩:=List.mem_take_iff_getElem.1 hx; refine ⟨j,List.mem_range.2 (by omega),?_⟩; rw [List.getElem?_eq_getElem (by omega)]
  simpa using h
theorem nj {W:CW} {v:Value} {l:List Int} {k:Nat} (h:A3 1 (DW W) v l) (ho:Nq W 3 v) (hk:k≤l.length):∃ v',vA prog 40 v none (some (.int .i64 k)) none W=some v'∧A3 1 (DW W) v' (l.take k):=by
 obtain ⟨a,cap,rfl,hc⟩:=h; obtain ⟨he,hle⟩:=ho _ _ _ rfl; have h_:(l.take k).length=k:=by rw [List.length_take]; omega
 refine ⟨.slice (cond (Nat.beq cap 0) a (a.map fun a=>⟨a.block,a.off+0*1,none⟩)) k cap,?_,⟨_,cap,by rw [h_],fun i x hx=>?_⟩⟩
 ·unfold vA; rw [Hq]; simp only [TW,Hq,C7,bound,s3]; rw [show (decide ((0:Int)≤(k:Int)) && decide ((k:Int)≤(cap:Int)))=true by simp; omega]; simp only [cond_true,he,Option.isSome_none,Bool.false_and,Bool.false_or,Bool.not_true,Bool.or_false,Int.toNat_natCast]; rw [show Nat.ble k cap=true from Nat.ble_eq_true_of_le (by omega)]; simp
 ·have hik:i<k:=by have:=(List.getElem?_eq_some_iff.1 hx).1; omega
  rw [List.getElem?_take,if_pos hik] at hx; obtain ⟨p,rfl,hr⟩:=hc i x hx
  have qI:Nat.beq cap 0=false:=by
   cases hb:Nat.beq cap 0 with
   | false=>rfl
   | true=>have:=Nat.eq_of_beq_eq_true hb; omega
  rw [qI]; exact ⟨⟨p.block,p.off+0*1,none⟩,rfl,by rw [Nat.zero_mul,Nat.add_zero]; exact hr⟩
theorem rq {W:CW} {K:AB} {e e1:Env} {c:List Aj} {s:Br} {r1 r2 b2 b8 t a:Nat} {vm:Value} (GG:D_ W r1 r2 c) (NB:W.cell b2 1=some (.map (some r2))) (SJ:BF W b8 58 [.string s.type,.string s.to,vm]) (cj:A3 1 (DW W) vm s.map) (Ai:Nq W 3 vm) (ht:BL c s.type=some t) (ha:BL c s.to=some a) (hlen:s.map.length=(BH c a).length) (jD:s.map.length<100000) (SE:(BH c t).length<100000)
  (h2:e 2=.pointer (some ⟨b2,0,none⟩)) (h8:e 8=.pointer (some ⟨b8,0,none⟩)) (ADo:e 107=vm) (ADp:e 108=.int .i64 s.map.length) (he:DR [1,2,4,6,8,29,30,31,107,108] e e1) (ADq:e1 109=.int .i64 0)
  (xo:U2 c s=true→∀ e',DR [4,6] e e'→wV (ld prog 83 (e' 6) W) fun eI=>wV (B5 prog 83 (e' 4) eI W) fun ZD=>∀ e2:Env,e2 4=e' 4→e2 5=.bool false→K .ret e2 [] ZD)
  (Iz:U2 c s=false→∀ e',DR [1,2,4,6,8,29,30,31] e e'→K (.exit 2) e' [] W) :
  Bj prog AM none 48 179 (.loop (AY prog 48 1)) e1 [] W K:=by
 have hms:U2 c s=Dt (BH c a).length (Kw (BH c t) (BH c a) s.map):=by unfold U2; rw [ht,ha]
 refine FT (fun m e' EV W'=>EV=[]∧W'=W∧DR [1,2,4,6,8,29,30,31,107,108] e e'∧e' 109=.int .i64 m∧∀ j,j<m→Kw (BH c t) (BH c a) s.map j=false) s.map.length ⟨rfl,rfl,he,ADq,by omega⟩ ?_; rintro m e' EV W' hm ⟨rfl,rfl,hA,ABc,Bg⟩; have g2:=(hA 2 (by decide)).trans h2; have g8:=(hA 8 (by decide)).trans h8; rw [w6,g2,g8,ABc,(hA 107 (by decide)).trans ADo,(hA 108 (by decide)).trans ADp]; simp only [Ax,AA]
 refine It (fun A0=>?_) (fun Mx=>?_)
 ·have hx:=List.getElem?_eq_getElem A0; have P9:m<(BH c a).length:=by omega
  have hxa:=List.getElem?_eq_getElem P9; obtain ⟨av,cv,rfl,hmc⟩:=id cj; obtain ⟨q,rfl,hq⟩:=hmc m _ hx; obtain ⟨art,crt,lt,zk⟩:=GG.rw.some ht; obtain ⟨ara,cra,la,hra⟩:=GG.rw.some ha; rw [BM Hq s3 A0]; simp only [AA,O4,S8,Mb,S9]; have qm:ld prog 76 (.pointer (some ⟨b2,0+1,none⟩)) W'=some (.map (some r2)):=AF a76 (a:=⟨b2,0+1,none⟩) NB; have qt:ld prog 9 (.pointer (some ⟨b8,0,none⟩)) W'=some (.string s.type):=AF a9 (a:=⟨b8,0,none⟩) (SJ.cell rfl); have qa:ld prog 9 (.pointer (some ⟨b8,0+1,none⟩)) W'=some (.string s.to):=AF a9 (a:=⟨b8,0+1,none⟩) (SJ.cell rfl); have qv:ld prog 40 (.pointer (some ⟨b8,0+2,none⟩)) W'=some (.slice (some q) s.map.length cv):=AF Nr (a:=⟨b8,0+2,none⟩) (SJ.cell rfl); rw [AF a3 (a:=⟨q.block,q.off+m*1,none⟩) hq.1]; simp only [AA,qm,qt,lt,At eR,Ak]; rw [wrap64 (by omega) (by omega)]; have hmb:Kw (BH c t) (BH c a) s.map m=(decide (s.map[m]<0) || decide (s.map[m]≥(BH c t).length) || decide ((BH c t)[s.map[m].toNat]?≠(BH c a)[m]?) || QP s.map m s.map[m]):=by unfold Kw; rw [hx]
  have leaf:∀ (b:Bool) (e2:Env),DR [1,2,4,6,8,29,30,31,107,108,109] e' e2→e2 147=.bool b→b=Kw (BH c t) (BH c a) s.map m→(Oz none (Ot (fun m e' ADr lU=>ADr=[]∧lU=W'∧DR [1,2,4,6,8,29,30,31,107,108] e e'∧e' 109=.int .i64 m∧∀ j,j<m→Kw (BH c t) (BH c a) s.map j=false) m s.map.length K)) .normal e2 [] W':=by
   intro b e2 Wv ADs hb; simp only [Oz,Bi,ADs]
   refine AN (fun R0=>?_) (fun R0=>?_)
   ·have hA3:DR [1,2,4,6,8,29,30,31,107,108] e e2:=hA.trans fun t ht=>Wv t (by revert t; decide); have:=xo (by rw [hms]; exact Dz P9 (by rw [←hb,R0])) e2 (fun t ht=>hA3 t (by revert t; decide))
    revert this
    cases ld prog 83 (e2 6) W' with
    | none=>exact fun h=>h
    | some v =>
     simp only [AA]
     cases B5 prog 83 (e2 4) v W' with
     | none=>exact fun h=>h
     | some ZD =>
      simp only [AA]; intro h; simp only [Oy,LC,Kv,Wm]; exact h _ rfl rfl
   ·simp only [Oy,Bi,Kv,(Wv 109 (by decide)).trans ABc,Ae,AA]; refine ⟨A0,trivial,trivial,(hA.trans fun t ht=>Wv t (by revert t; decide)).trans (.put rfl),?_,J0 Bg (by rw [←hb,R0])⟩; simp only [AW,↓reduceIte]; rw [FU (by omega)]
  refine BA (aM _ _ _ _) ?_; simp only [Ar,AA]
  refine AN (fun hb=>?_) (fun hb=>?_)
  ·refine ⟨by simp only [and_self],trivial,leaf true _ (.put rfl) rfl ?_⟩; rw [hmb]
   by_cases h1:s.map[m]<0
   ·rw [decide_eq_true h1]; rfl
   ·have:¬(s.map[m]≤((BH c t).length:Int)-1):=by
     intro h2; rw [decide_eq_true (by omega:(0:Int)≤s.map[m]),decide_eq_true h2] at hb
     cases hb
    rw [decide_eq_true (by omega:s.map[m]≥((BH c t).length:Int))]; simp
  ·have hb:(decide ((0:Int)≤s.map[m]) && decide (s.map[m]≤((BH c t).length:Int)-1))=true:=by simpa only [Bool.not_eq_false'] using hb
   simp only [Bool.and_eq_true,decide_eq_true_eq] at hb; obtain ⟨WK,AFa⟩:=hb; obtain ⟨v',hsl,G4⟩:=nj (k:=m) cj Ai (by omega); simp only [qv,hsl,AA]; refine BA (U1 G4 (by rw [List.length_take]; omega)) ?_; have ABd:=bD (mp:=s.map) (k:=m) (by omega) s.map[m]
   refine AN (fun hd=>?_) (fun hd=>?_)
   ·refine ⟨by simp only [and_self],trivial,leaf true _ (.put rfl) rfl ?_⟩; rw [hmb,ABd,hd]; simp
   ·have KO:s.map[m].toNat<(BH c t).length:=by omega
    have hxt:=List.getElem?_eq_getElem KO; obtain ⟨_,_,e3,ADt⟩:=zk
    cases e3
    obtain ⟨_,_,e4,ADu⟩:=hra
    cases e4
    obtain ⟨pt,rfl,hpt⟩:=ADt _ _ hxt; obtain ⟨pa,rfl,hpa⟩:=ADu _ _ hxa
    have ei:Bm prog 29 (.slice (some pt) (BH c t).length crt) (.int .i64 s.map[m])=some (.pointer (some ⟨pt.block,pt.off+s.map[m].toNat*1,none⟩)):=by
     have e1:(Value.int IntKind.i64 s.map[m])=.int .i64 ((s.map[m].toNat:Nat):Int):=by rw [Int.toNat_of_nonneg WK]
     rw [e1]; exact BM eR s5 KO
    simp only [ei,AA]; rw [AF a5 (a:=⟨pt.block,pt.off+s.map[m].toNat*1,none⟩) hpt]; simp only [AA,qm,qa,la]; rw [BM eR s5 P9]; simp only [AA]; rw [AF a5 (a:=⟨pa.block,pa.off+m*1,none⟩) hpa]; simp only [AA,DK]; refine ⟨by simp only [and_self],trivial,leaf _ _ (.put rfl) rfl ?_⟩; rw [hmb,ABd,hd,hxt,hxa,decide_eq_false (by omega:¬s.map[m]<0),decide_eq_false (by omega:¬s.map[m]≥((BH c t).length:Int))]; simp only [Bool.or_self,Bool.false_or,Bool.or_false]
    by_cases e:(BH c t)[s.map[m].toNat]=(BH c a)[m]
    ·rw [decide_eq_false (by simp [e])]; simp [e]
    ·rw [decide_eq_true (by simpa using e)]; simpa using e
 ·simp only [Uj]; refine Iz ?_ _ (fun t ht=>(DR.put rfl t (by exact ht)).trans (hA t (by revert t; decide))); rw [hms]; exact FB fun j hj=>Bg j (by omega)
end Go.Ce
namespace Go.Ce
open Go Go.Proofs Go.Proofs.Tryz
theorem bE:Tryz.f48.results.toList=[.cell 4 83,.tmp 5]:=by kernel_rfl
theorem rr:Db prog 83=some 2:=by kernel_rfl
theorem a83:agg? prog 83=some true:=by kernel_rfl
theorem zx:agg? prog 81=some false:=by kernel_rfl
theorem z83:Gp prog 83=some (.agg #[.map none,.map none]):=by kernel_rfl
theorem ABe (a b:Nat):Sh prog 83 [(0,.map (some a)),(1,.map (some b))]=some (.agg [.map (some a),.map (some b)].toArray):=by kernel_rfl
theorem Yf (a:Addr):BD prog 83 (.pointer (some a)) 0=some (.pointer (some ⟨a.block,a.off,none⟩)):=by kernel_rfl
theorem Yg (a:Addr):BD prog 83 (.pointer (some a)) 1=some (.pointer (some ⟨a.block,a.off+1,none⟩)):=by kernel_rfl
theorem fK {W:CW} {b a1 a2:Nat} (h:BF W b 83 [.map (some a1),.map (some a2)]):ld prog 83 (.pointer (some ⟨b,0,none⟩)) W=some (.agg [.map (some a1),.map (some a2)].toArray):=Ba (vs:=[.map (some a1),.map (some a2)]) a83 rr rfl (by omega) h.cells
theorem Vv.ld {W:CW} {b o:Nat} {x:Br} (h:Vv W b o x):∃ am cm,ld prog 58 (.pointer (some ⟨b,o,none⟩)) W=some (.agg [.string x.type,.string x.to,.slice am x.map.length cm].toArray)∧A3 1 (DW W) (.slice am x.map.length cm) x.map∧Nq W 3 (.slice am x.map.length cm):=by
 obtain ⟨v,h1,h2,h3⟩:=h.map; obtain ⟨am,cm,rfl,h4⟩:=id h2; refine ⟨am,cm,Ba (vs:=[.string x.type,.string x.to,.slice am x.map.length cm]) a58 jT rfl (by omega) ?_,h2,h3⟩; intro j w hj
 match j,hj with
 | 0,hj=>cases hj; exact h.type
 | 1,hj=>cases hj; exact h.to
 | 2,hj=>cases hj; exact h1
theorem fL {W:CW} {r1:Nat} {c:List Aj} (h:TG W r1 c) (s:ByteArray):∃ ws:List Value,HW prog 75 (.map (some r1)) (.string s) true W=some (.tuple #[.agg ws.toArray,.bool (BL c s).isSome])∧ws.length=5∧ws.all BO=true∧∀ i,BL c s=some i→ws[3]?=some (.int .u8 (elemAt c i)):=by
 cases hi:BL c s with
 | none =>
  obtain ⟨l1,_⟩:=h.none hi; exact ⟨[.string ⟨#[]⟩,.string ⟨#[]⟩,.slice none 0 0,.int .u8 0,.slice none 0 0],l1,rfl,rfl,fun i h=>by cases h⟩
 | some i =>
  obtain ⟨u,x,hx,hu,l1,_⟩:=h.some hi; obtain ⟨vf,ab,lb,cb,rfl,hf⟩:=hu; obtain ⟨af,cf,rfl,_⟩:=hf; refine ⟨[.string x.name,.string x.By,.slice af x.fields.length cf,.int .u8 x.elem,.slice ab lb cb],l1,rfl,rfl,fun j h=>?_⟩
  cases h
  unfold elemAt; rw [hx]; rfl
theorem fN {key:Br→ByteArray} {W:CW} {r:Nat} {l:List Br} (h:O6 key W r l) (s:ByteArray):∃ ws:List Value,HW prog 81 (.map (some r)) (.string s) true W=some (.tuple #[.agg ws.toArray,.bool (l.find? fun x=>decide (key x=s)).isSome])∧ws.length=3∧ws.all BO=true:=by
 cases hf:l.find? fun x=>decide (key x=s) with
 | none=>exact ⟨[.string ⟨#[]⟩,.string ⟨#[]⟩,.slice none 0 0],h.none hf,rfl,rfl⟩
 | some x =>
  obtain ⟨u,hu,l1⟩:=h.some hf; obtain ⟨am,cm,rfl,_⟩:=hu; exact ⟨[.string x.type,.string x.to,.slice am x.map.length cm],l1,rfl,rfl⟩
structure QY (W0 W:CW) (b2 b4 b6 r1 r2 w r:Nat) (c:List Aj):Prop where
 kp:Kp W0 W
 top:Aq W
 b2:BF W b2 78 [.map (some r1),.map (some r2)]
 b4:BF W b4 83 [.map none,.map none]
 b6:BF W b6 83 [.map (some w),.map (some r)]
 cat:D_ W r1 r2 c
theorem QY.cT {W0 W W':CW} {b2 b4 b6 r1 r2 w r:Nat} {c:List Aj} (I:QY W0 W b2 b4 b6 r1 r2 w r c) (k:Kp W W') (t:Aq W'):QY W0 W' b2 b4 b6 r1 r2 w r c:=⟨I.kp.trans k,t,I.b2.ext I.top k,I.b4.ext I.top k,I.b6.ext I.top k,I.cat.kp I.top k⟩
def W_ (c:List Aj) (l:List Br) (W:CW):Ending→CW→Prop:=fun e W'=>Kp W W'∧Aq W'∧∃ w r,e=.returned (.tuple #[.agg #[.map (some w),.map (some r)],.bool (BI c l)])∧(BI c l=true→O6 Br.type W' w l∧O6 Br.to W' r l)
theorem nk {v1:Value} {c:List Aj} {l:List Br} {r1 r2:Nat} {W:CW} (ht:Aq W) (GG:D_ W r1 r2 c) (hC:SG c) (hl:A3 3 (Vv W) v1 l) (pU:l.length<100000) (VU:∀ s,s ∈ l→s.map.length<100000):AD prog AM 48 [K3 r1 r2,v1] W (W_ c l W):=by
 refine ABF ?_; rw [ABC]; obtain ⟨a,cap,rfl,_⟩:=id hl; unfold K3; refine GA NS ht fun W0 k0 t0 z0 HN=>?_; have HN:BF W0 W.sz 78 [.map (some r1),.map (some r2)]:=HN; refine HM z83 rr t0 fun W1 k1 t1 z1 Mj=>?_; have Mj:BF W1 W0.sz 83 [.map none,.map none]:=Mj; refine UW (enc:=Value.string) t1 fun W2 k2 t2 z2 Va=>?_; refine UW (enc:=Value.string) t2 fun W3 k3 t3 z3 B3=>?_; rw [ABe]; simp only [AA]; refine D' z83 rr rfl rfl rfl t3 fun W5 k5 t5 z5 Ja=>?_; simp only [At u23,AA,CO]; have Yh:=(k2.trans k3).trans k5; have kk:Kp W W5:=(k0.trans k1).trans Yh; have I5:QY W W5 W.sz W0.sz W3.sz r1 r2 W1.sz W2.sz c:=⟨kk,t5,HN.ext t0 (k1.trans Yh),Mj.ext t1 Yh,Ja,GG.kp ht kk⟩
 have ng:=Va.kp t2 (k3.trans k5); have nh:=B3.kp t3 k5; have wW:W.sz≤W1.sz:=(k0.trans k1).sz; have rW:W.sz≤W2.sz:=Nat.le_trans wW k2.sz; have r1l:r1<W.sz:=by obtain ⟨m,h1,_⟩:=GG.sh; exact h1.lt ht
 have r2l:r2<W.sz:=by obtain ⟨m,h1,_⟩:=GG.rw; exact h1.lt ht
 have MN:W1.sz≠W2.sz:=by omega
 generalize W1.sz=w at I5 ng wW MN; generalize W2.sz=r at I5 nh rW MN; generalize W3.sz=b6 at I5; have nm:W.sz≤W0.sz:=k0.sz; generalize W0.sz=b4 at I5 nm; generalize LM:AI prog Tryz.f48 (W_ c l W)=K
 have Gz:∀ W1 (ok:Bool),QY W W1 W.sz b4 b6 r1 r2 w r c→ok=BI c l→(BI c l=true→O6 Br.type W1 w l∧O6 Br.to W1 r l)→∀ {K':CW→Prop},(∀ W2,(∀ e,e 4=.pointer (some ⟨b4,0,none⟩)→e 5=.bool ok→K .ret e [] W2)→K' W2) →
   wV (B5 prog 83 (.pointer (some ⟨b4,0,none⟩)) (.agg [.map (some w),.map (some r)].toArray) W1) K':=by
  intro W1 ok I Ai GG K' xe; refine Dj rr (a:=⟨b4,0,none⟩) rfl rfl I.b4 (by simp) fun W2 hu hB=>xe W2 fun e h4 h5=>?_; have hu:Da b4 W1 W2:=hu; rw [←LM]; have hB:BF W2 b4 83 [.map (some w),.map (some r)]:=hB; refine Ig bE h4 (fK hB) ?_; have ADv:=I.b4.lt I.top; refine ⟨I.kp.Az nm hu,I.top.Az ADv hu,w,r,by rw [h5,Ai],fun hc=>?_⟩; obtain ⟨s1,s2⟩:=GG hc
  have BP:∀ b k k2 n,W1.cell b k=some (.int k2 n)→W2.cell b k=some (.int k2 n):=fun b k k2 n h=>by
   rw [hu.cell]
   ·exact h
   ·rintro rfl; have h2:=I.b4.Ih h
    match k,h2 with
    | 0,h2=>cases h2
    | 1,h2=>cases h2
  obtain ⟨m,g1,_⟩:=id s1; obtain ⟨m',g2,_⟩:=id s2; exact ⟨s1.cell (hu.obj _ (Ne.symm (Bo I.b4 g1))) BP,s2.cell (hu.obj _ (Ne.symm (Bo I.b4 g2))) BP⟩
 refine AN (fun hg=>?_) (fun hg=>?_)
 ·rw [fK I5.b6]; simp only [AA]
  have GX:BI c l=false:=by
   have:=of_decide_eq_true hg; unfold BI; rw [decide_eq_false (by omega)]; rfl
  exact Gz W5 false I5 GX.symm (fun h=>by rw [GX] at h; cases h) fun W6 hr=>hr _ rfl rfl
 ·have hg:=of_decide_eq_false hg
  have Jg:BI c l=!Dt l.length (QQ c l):=by
   unfold BI; rw [decide_eq_true (by omega)]; rfl
  have rz:∀ i s,l[i]?=some s→Jb c l i=true→BI c l=false:=fun i s hs hb=>by
   rw [Jg,Dz (List.getElem?_eq_some_iff.1 hs).1 (by rw [QX hs,hb]; rfl)]; rfl
  refine FT (fun i e ds W'=>ds=[]∧QY W W' W.sz b4 b6 r1 r2 w r c∧e 1=.slice a l.length cap∧e 29=.slice a l.length cap∧e 30=.int .i64 l.length∧e 31=.int .i64 i∧e 2=.pointer (some ⟨W.sz,0,none⟩)∧e 4=.pointer (some ⟨b4,0,none⟩)∧e 6=.pointer (some ⟨b6,0,none⟩)∧O6 Br.type W' w (l.take i)∧O6 Br.to W' r (l.take i)∧∀ j,j<i→Jb c l j=false) l.length
   ⟨rfl,I5,rfl,rfl,rfl,rfl,rfl,rfl,rfl,⟨[],ng,fun s=>rfl⟩,⟨[],nh,fun s=>rfl⟩,by omega⟩ ?_
  rintro i e ds W' hi ⟨rfl,I',h1,h29,h30,h31,h2,h4,h6,hw,hr,Bg⟩; rw [w5,h1,h29,h30,h31,h2]; simp only [Ax,AA]
  refine It (fun A0=>?_) (fun Mx=>?_)
  ·obtain ⟨s,hs⟩:∃ s,l[i]?=some s:=⟨_,List.getElem?_eq_getElem A0⟩
   have Hl:=List.mem_of_getElem? hs; have hlW:A3 3 (Vv W') (.slice a l.length cap) l:=hl.imp fun _ _ _ hr=>hr.kp ht I'.kp; obtain ⟨a',cap',ha,BP⟩:=id hlW
   cases ha
   obtain ⟨p,rfl,WU⟩:=BP i _ hs; obtain ⟨am,cm,xg,xp,Ai⟩:=WU.ld; rw [BM u23 jT A0]; simp only [AA,xg]; refine D' rj jT rfl rfl rfl I'.top fun Il ZH t12 z12 SJ=>?_; have zy:=I'.cT ZH t12; have qt:∀ W7,Kp Il W7→ld prog 9 (.pointer (some ⟨W'.sz,0,none⟩)) W7=some (.string s.type):=fun W7 k7=>AF a9 (a:=⟨W'.sz,0,none⟩) (k7.cell t12 (SJ.cell rfl)); have qa:∀ W7,Kp Il W7→ld prog 9 (.pointer (some ⟨W'.sz,0+1,none⟩)) W7=some (.string s.to):=fun W7 k7=>AF a9 (a:=⟨W'.sz,1,none⟩) (k7.cell t12 (SJ.cell rfl)); have qv:∀ W7,Kp Il W7→ld prog 40 (.pointer (some ⟨W'.sz,0+2,none⟩)) W7=some (.slice am s.map.length cm):=fun W7 k7=>AF Nr (a:=⟨W'.sz,2,none⟩) (k7.cell t12 (SJ.cell rfl)); have qm1:∀ W7,QY W W7 W.sz b4 b6 r1 r2 w r c→ld prog 75 (.pointer (some ⟨W.sz,0,none⟩)) W7=some (.map (some r1)):=fun W7 I=>AF xX (a:=⟨W.sz,0,none⟩) (I.b2.cell rfl); have qm2:∀ W7,QY W W7 W.sz b4 b6 r1 r2 w r c→ld prog 76 (.pointer (some ⟨W.sz,0+1,none⟩)) W7=some (.map (some r2)):=fun W7 I=>AF a76 (a:=⟨W.sz,1,none⟩) (I.b2.cell rfl); obtain ⟨ws1,L1,ADw,ABf,ADx⟩:=fL zy.cat.sh s.type; simp only [K1,S8,Mb,AA,qm1 Il zy,qt Il (.refl _),L1,Bd,Be]; refine D' nN gu rfl ABf ADw t12 fun M4 fP t14 z14 hB9=>?_; have xq:=zy.cT fP t14; obtain ⟨ws2,L2,ADy,ABg,ADz⟩:=fL xq.cat.sh s.to; simp only [AA,qm1 M4 xq,qa M4 fP,L2,Bd,Be]; refine D' nN gu rfl ABg ADy t14 fun CQ z_ t16 z16 QZ=>?_; have tW:=xq.cT z_ t16; have LD:=fP.trans z_; have xu:=ZH.trans LD
   have leaf:∀ (b:Bool) (e1:Env),DR [1,2,4,6,29,30,31] e e1→e1 8=.pointer (some ⟨W'.sz,0,none⟩)→e1 94=.bool b→(b=true→En c l i s=true)→(b=false→En c l i s=false) →
     (H' none (Ot (fun i e ds W'=>ds=[]∧QY W W' W.sz b4 b6 r1 r2 w r c∧e 1=.slice (some p) l.length cap∧e 29=.slice (some p) l.length cap∧e 30=.int .i64 l.length∧e 31=.int .i64 i∧e 2=.pointer (some ⟨W.sz,0,none⟩)∧e 4=.pointer (some ⟨b4,0,none⟩)∧e 6=.pointer (some ⟨b6,0,none⟩)∧O6 Br.type W' w (l.take i)∧O6 Br.to W' r (l.take i)∧∀ j,j<i→Jb c l j=false) i l.length (Av 0 (QT none K)))) .normal e1 [] CQ:=by
    intro b e1 hA g8 g94 xv r6; have g1:=(hA 1 (by decide)).trans h1; have g2:=(hA 2 (by decide)).trans h2; have g4:=(hA 4 (by decide)).trans h4; have g6:=(hA 6 (by decide)).trans h6; have g29:=(hA 29 (by decide)).trans h29; have g30:=(hA 30 (by decide)).trans h30; have g31:=(hA 31 (by decide)).trans h31; have Ye:Jb c l i=(En c l i s || (Mk l i s || U2 c s)):=by unfold Jb; rw [hs]
    have Gf:∀ W7,QY W W7 W.sz b4 b6 r1 r2 w r c→Jb c l i=true→∀ {K':CW→Prop},(∀ W2,(∀ e,e 4=.pointer (some ⟨b4,0,none⟩)→e 5=.bool false→K .ret e [] W2)→K' W2) →
      wV (B5 prog 83 (.pointer (some ⟨b4,0,none⟩)) (.agg [.map (some w),.map (some r)].toArray) W7) K':=fun W7 I hb =>
     have GX:=rz i s hs hb
     Gz W7 false I GX.symm (fun h=>by rw [GX] at h; cases h)
    simp only [H',Bi,g94]
    refine AN (fun R0=>?_) (fun R0=>?_)
    ·rw [g4,g6,fK tW.b6]; simp only [AA]; refine Gf CQ tW (by rw [Ye,xv R0]; rfl) fun W8 r7=>?_; simp only [Ox,JF,LC,PV,Kv,Wm,QT]; exact r7 _ g4 rfl
    ·have Js:=r6 R0; have AD0:=hr.kp I'.top xu; have AFb:=hw.kp I'.top xu; obtain ⟨ws3,L3,AD1,ABh⟩:=fN AD0 s.to; simp only [Ox,Bi,g6,g8,Yg,Mb,AA]; rw [AF zx (a:=⟨b6,0+1,none⟩) (tW.b6.cell rfl)]; simp only [AA,qa CQ LD,L3,Bd,Be]; refine D' rj jT rfl ABh AD1 t16 fun LI k18 t18 z18 AD2=>?_; have cU:=tW.cT k18 t18; have XA:=LD.trans k18; have np:=ZH.trans XA
     have htw:Mk l i s=((l.take i).find? fun x=>decide (x.to=s.to)).isSome:=by
      unfold Mk Dt; rw [Bool.eq_iff_iff,List.any_eq_true,List.find?_isSome]
      constructor
      ·rintro ⟨k,hk,hb⟩; have hk:=List.mem_range.1 hk; rw [List.getElem?_eq_getElem (show k<l.length by omega)] at hb; exact ⟨l[k],List.mem_take_iff_getElem.2 ⟨k,by omega,rfl⟩,by simpa using hb⟩
      ·rintro ⟨x,hx,hb⟩; obtain ⟨k,hk,rfl⟩:=List.mem_take_iff_getElem.1 hx; refine ⟨k,List.mem_range.2 (by omega),?_⟩; rw [List.getElem?_eq_getElem (show k<l.length by omega)]
       simpa using hb
     refine AN (fun Yi=>?_) (fun Yi=>?_)
     ·rw [g4,fK cU.b6]; simp only [AA]; refine Gf LI cU (by rw [Ye,htw,Yi]; simp) fun W8 r7=>?_; simp only [JF,LC,PV,Kv,Wm,QT]; exact r7 _ g4 rfl
     ·simp only [S9,AA,qv LI XA,At Hq]; unfold En at Js
      cases TA:BL c s.type with
      | none=>rw [TA] at Js; cases Js
      | some t =>
       cases cS:BL c s.to with
       | none=>rw [TA,cS] at Js; cases Js
       | some aa =>
        rw [TA,cS] at Js; simp only [Bool.or_eq_false_iff,decide_eq_false_iff_not,Decidable.not_not] at Js
        have df:(BH c t).length<100000:=by
         have h1:=Rt hC.len hC.fields t; unfold BH; rw [List.length_map]; omega
        have xw:∀ j,j<i+1→∀ y,l[j]?=some y→En c l j y=false:=fun j hj y hy=>by
         rcases Nat.lt_succ_iff_lt_or_eq.1 hj with h | rfl
         ·have:=Bg j h; unfold Jb at this; rw [hy] at this; simp only [Bool.or_eq_false_iff] at this; exact this.1
         ·rw [hs] at hy; cases hy; unfold En; rw [TA,cS]; simp only [Bool.or_eq_false_iff,decide_eq_false_iff_not,Decidable.not_not]; exact Js
        refine rq (e:=Env.of e1 [(8,.pointer (some ⟨W'.sz,0,none⟩)),(107,.slice am s.map.length cm),(108,.int .i64 s.map.length)]) cU.cat (cU.b2.cell rfl) ((SJ.ext t12 XA)) (xp.imp fun _ _ _ hr=>hr.kp I'.top np) (Ai.kp I'.top np) TA cS Js.2 (VU s Hl) df g2 rfl rfl rfl (fun t ht=>by
         simp only [List.mem_cons,List.not_mem_nil,or_false] at ht
         rcases ht with rfl | rfl | rfl | rfl | rfl | rfl | rfl | rfl | rfl | rfl <;> first | rfl | exact g8) rfl (fun hm e2 Wv=>?_) (fun hm e2 Wv=>?_)
        ·have q4:e2 4=.pointer (some ⟨b4,0,none⟩):=(Wv 4 (by decide)).trans g4; have q6:e2 6=.pointer (some ⟨b6,0,none⟩):=(Wv 6 (by decide)).trans g6; rw [q4,q6,fK cU.b6]; simp only [AA]; refine Gf LI cU (by rw [Ye,hm]; simp) fun W8 r7=>?_; intro e3 r4 r5; simp only [Yb,JF,Bi,LC,PV,Kv,Wm,QT]; exact r7 _ r4 r5
        ·have q1:e2 1=.slice (some p) l.length cap:=(Wv 1 (by decide)).trans g1; have q2:e2 2=.pointer (some ⟨W.sz,0,none⟩):=(Wv 2 (by decide)).trans g2; have q4:e2 4=.pointer (some ⟨b4,0,none⟩):=(Wv 4 (by decide)).trans g4; have q6:e2 6=.pointer (some ⟨b6,0,none⟩):=(Wv 6 (by decide)).trans g6; have q8:e2 8=.pointer (some ⟨W'.sz,0,none⟩):=(Wv 8 (by decide)).trans rfl; have q29:e2 29=.slice (some p) l.length cap:=(Wv 29 (by decide)).trans g29; have q30:e2 30=.int .i64 l.length:=(Wv 30 (by decide)).trans g30; have q31:e2 31=.int .i64 i:=(Wv 31 (by decide)).trans g31; have nq:=SJ.ext t12 XA; have l58:∀ W7,BF W7 W'.sz 58 [.string s.type,.string s.to,.slice am s.map.length cm]→ld prog 58 (.pointer (some ⟨W'.sz,0,none⟩)) W7=some (.agg [.string s.type,.string s.to,.slice am s.map.length cm].toArray):=fun W7 hB=>Ba (vs:=[.string s.type,.string s.to,.slice am s.map.length cm]) a58 jT rfl (by omega) hB.cells; have lr:∀ W7,BF W7 b6 83 [.map (some w),.map (some r)]→ld prog 81 (.pointer (some ⟨b6,0+1,none⟩)) W7=some (.map (some r)):=fun W7 hB=>AF zx (a:=⟨b6,0+1,none⟩) (hB.cell rfl); have lto:∀ W7,BF W7 W'.sz 58 [.string s.type,.string s.to,.slice am s.map.length cm]→ld prog 9 (.pointer (some ⟨W'.sz,0+1,none⟩)) W7=some (.string s.to):=fun W7 hB=>AF a9 (a:=⟨W'.sz,0+1,none⟩) (hB.cell rfl); simp only [Bi,Rr,JB,if_true,Yb,q6,q8,Yf,Yg,S8,Mb,AA,lr LI cU.b6,qt LI XA,qa LI XA,l58 LI nq]; rw [AF zx (a:=⟨b6,0,none⟩) (cU.b6.cell rfl)]; simp only [AA]; have ABi:=hw.kp I'.top np; have ABj:=hr.kp I'.top np; have hAS:fJ LI (.agg [.string s.type,.string s.to,.slice am s.map.length cm].toArray) s:=⟨am,cm,rfl,xp.imp fun _ _ _ hr=>hr.kp I'.top np⟩
         refine ABi.put (key:=Br.type) hs (fun j y hj hy e=>?_) hAS fun Nk bF xx AD3=>?_
         ·have:=rn xw j i y s hj (by omega) hy hs; rw [e,O3] at this; cases this
         ·obtain ⟨m18,gw,_⟩:=id ABi; obtain ⟨AFc,gr,_⟩:=id ABj; have ZG:=gw.lt t18; have t20:=t18.Az ZG bF; have r8:QY W Nk W.sz b4 b6 r1 r2 w r c:=⟨cU.kp.Az wW bF,t20,cU.b2.congr (bF.obj _ (Bo cU.b2 gw)),cU.b4.congr (bF.obj _ (Bo cU.b4 gw)),cU.b6.congr (bF.obj _ (Bo cU.b6 gw)),cU.cat.Az bF (by omega) (by omega) xx⟩
          have ABk:=ABj.cell (bF.obj _ (Ne.symm MN)) fun _ _ _ _ hc=>xx _ _ _ hc; have tX:BF Nk W'.sz 58 [.string s.type,.string s.to,.slice am s.map.length cm]:=nq.congr (bF.obj _ (Bo nq gw))
          refine ABk.put (key:=Br.to) hs (fun j y hj hy e=>?_) (hAS.cell fun _ _ _ _ hc=>xx _ _ _ hc) fun tJ fQ ABl AD4=>?_
          ·have:((l.take i).find? fun x=>decide (x.to=s.to)).isSome=true:=by
            rw [List.find?_isSome]; have Vy:=(List.getElem?_eq_some_iff.1 hy).1; exact ⟨y,List.mem_take_iff_getElem.2 ⟨j,by omega,(List.getElem?_eq_some_iff.1 hy).2⟩,by simpa using e⟩
           rw [Yi] at this; cases this
          ·obtain ⟨m20,r9,_⟩:=id ABk; have ABm:=r9.lt t20; have I21:QY W tJ W.sz b4 b6 r1 r2 w r c:=⟨r8.kp.Az rW fQ,t20.Az ABm fQ,r8.b2.congr (fQ.obj _ (Bo r8.b2 r9)),r8.b4.congr (fQ.obj _ (Bo r8.b4 r9)),r8.b6.congr (fQ.obj _ (Bo r8.b6 r9)),r8.cat.Az fQ (by omega) (by omega) ABl⟩
           have AD5:=AD3.cell (fQ.obj _ MN) fun _ _ _ _ hc=>ABl _ _ _ hc; refine ⟨by simp only [l58 Nk tX,lto Nk tX,lr Nk r8.b6,and_self],trivial,?_⟩; simp only [JF,Bi,Kv]; simp only [AW,Aa,Nat.reduceEqDiff,↓reduceIte,q31,Ae,AA]; refine ⟨A0,trivial,I21,q1,q29,q30,by rw [FU (by omega)],q2,q4,q6,AD5,AD4,J0 Bg ?_⟩; rw [Ye,htw,Yi,hm]; unfold En; rw [TA,cS]; simp only [Bool.or_self,Bool.or_false]; rw [Bool.or_eq_false_iff]; simp only [Bool.or_eq_false_iff,decide_eq_false_iff_not,Decidable.not_not]; exact Js
   simp only [Ar,AA]
   cases TA:BL c s.type with
   | none =>
    have hh:En c l i s=true:=by unfold En; rw [TA]
    simp only [Option.isSome_none,Bool.not_false,Bx]; exact ⟨trivial,trivial,leaf true _ (.put rfl) rfl rfl (fun _=>hh) (fun h=>by cases h)⟩
   | some t =>
    simp only [Option.isSome_some,Bool.not_true,Ay]
    cases cS:BL c s.to with
    | none =>
     have hh:En c l i s=true:=by unfold En; rw [TA,cS]
     simp only [Option.isSome_none,Bool.not_false,Bx]; exact ⟨trivial,trivial,leaf true _ (.put rfl) rfl rfl (fun _=>hh) (fun h=>by cases h)⟩
    | some aa =>
     have hh:En c l i s=((decide (elemAt c t≠0) || decide (elemAt c aa≠0) || G' l s i) || decide (s.map.length≠(BH c aa).length)):=by unfold En; rw [TA,cS]
     simp only [Option.isSome_some,Bool.not_true,Ay]; have e9:ld prog 5 (.pointer (some ⟨Il.sz,0+3,none⟩)) CQ=some (.int .u8 (elemAt c t)):=AF a5 (a:=⟨Il.sz,0+3,none⟩) (z_.cell t14 (hB9.cell (ADx t TA))); have ZJ:ld prog 5 (.pointer (some ⟨M4.sz,0+3,none⟩)) CQ=some (.int .u8 (elemAt c aa)):=AF a5 (a:=⟨M4.sz,0+3,none⟩) (QZ.cell (ADz aa cS)); obtain ⟨ara,cra,la,hra⟩:=tW.cat.rw.some cS; simp only [YS,AA,e9,ZJ,DK,CO,S9,O4,qv CQ LD,qm2 CQ tW,qa CQ LD,qt CQ LD,la,At Hq,At eR]
     refine AN (fun he=>?_) (fun he=>?_)
     ·have he:elemAt c t≠0:=by simpa using he
      exact ⟨by simp only [and_self],trivial,leaf true _ (.put rfl) rfl rfl (fun _=>by rw [hh,decide_eq_true he]; rfl) (fun h=>by cases h)⟩
     ·have he:¬elemAt c t≠0:=by simpa using he
      refine AN (fun To=>?_) (fun To=>?_)
      ·have To:elemAt c aa≠0:=by simpa using To
       exact ⟨by simp only [and_self],trivial,leaf true _ (.put rfl) rfl rfl (fun _=>by rw [hh,decide_eq_true To]; simp) (fun h=>by cases h)⟩
      ·have To:¬elemAt c aa≠0:=by simpa using To
       rw [decide_eq_false he,decide_eq_false To,Bool.or_self,Bool.false_or] at hh
       have RQ:G' l s i=false→((s.map.length:Int) != ((BH c aa).length:Nat))=En c l i s:=fun hp=>by
        rw [hh,hp,Bool.false_or]
        by_cases e:s.map.length=(BH c aa).length
        ·rw [decide_eq_false (by simpa using e),e]; simp
        ·rw [decide_eq_true e]; simp; omega
       cases i with
       | zero =>
        refine AN (fun h=>by simp at h) (fun _=>?_); have hp:=RQ rfl; exact ⟨by simp only [qv CQ LD,qm2 CQ tW,qa CQ LD,At Hq,At eR,and_self],trivial,leaf _ _ (.put rfl) rfl rfl (fun h=>by rw [←hp]; exact h) (fun h=>by rw [←hp]; exact h)⟩
       | succ i =>
        refine AN (fun _=>?_) (fun h=>by have:=of_decide_eq_false h; omega); have ABn:i<l.length:=by omega
        have hxp:=List.getElem?_eq_getElem ABn; obtain ⟨p',hp',lT⟩:=BP i _ hxp
        cases hp'
        have r3:ld prog 9 (.pointer (some ⟨p.block,p.off+i*3,none⟩)) CQ=some (.string l[i].type):=AF a9 (a:=⟨p.block,p.off+i*3,none⟩) (xu.cell I'.top lT.type); have es:((i+1:Nat):Int)-1=(i:Nat):=by omega
        simp only [Ak,AA,es]; rw [wrap64 (by omega) (by omega),BM u23 jT ABn]; simp only [AA,S8,r3,Wk]; have hpb:G' l s (i+1)=!SP (sb l[i].type) (sb s.type):=by unfold G'; simp only [hxp]
        refine AN (fun hq=>?_) (fun hq=>?_)
        ·exact ⟨by simp only [qt CQ LD,and_self],trivial,leaf true _ (.put rfl) rfl rfl (fun _=>by rw [hh,hpb,hq]; rfl) (fun h=>by cases h)⟩
        ·have hp:=RQ (hpb.trans hq); exact ⟨by simp only [qt CQ LD,qv CQ LD,qm2 CQ tW,qa CQ LD,At Hq,At eR,and_self],trivial,leaf _ _ (.put rfl) rfl rfl (fun h=>by rw [←hp]; exact h) (fun h=>by rw [←hp]; exact h)⟩
  ·have ZI:l.take i=l:=List.take_of_length_le (by omega); rw [ZI] at hw hr; have CA:∀ j,j<l.length→Jb c l j=false:=fun j hj=>Bg j (by omega); simp only [Bi,Rr,JB,Uj,if_true,QT]; simp only [AW,Aa,Nat.reduceEqDiff,↓reduceIte,h1]; simp only [At u23,AA]
   refine FT (fun i e ds W'=>ds=[]∧QY W W' W.sz b4 b6 r1 r2 w r c∧e 161=.slice a l.length cap∧e 162=.int .i64 l.length∧e 163=.int .i64 i∧e 4=.pointer (some ⟨b4,0,none⟩)∧e 6=.pointer (some ⟨b6,0,none⟩)∧O6 Br.type W' w l∧O6 Br.to W' r l∧∀ j s,j<i→l[j]?=some s→QW l s=false) l.length
    ⟨rfl,I',rfl,rfl,rfl,h4,h6,hw,hr,by omega⟩ ?_
   rintro i2 e2 ds2 W2 hi2 ⟨rfl,I2,ABo,ABp,ABq,g4,g6,FW,lS,R3⟩; rw [w7,ABo,ABp,ABq,g6]; simp only [Ax,AA]
   refine It (fun A0=>?_) (fun ABa=>?_)
   ·obtain ⟨s,hs⟩:∃ s,l[i2]?=some s:=⟨_,List.getElem?_eq_getElem A0⟩
    have hlW:A3 3 (Vv W2) (.slice a l.length cap) l:=hl.imp fun _ _ _ hr=>hr.kp ht I2.kp; obtain ⟨a',cap',ha,BP⟩:=id hlW
    cases ha
    obtain ⟨p,rfl,WU⟩:=BP i2 _ hs; obtain ⟨am,cm,xg,xp,Ai⟩:=WU.ld; rw [BM u23 jT A0]; simp only [AA,xg]; refine D' rj jT rfl rfl rfl I2.top fun Il ZH t12 z12 SJ=>?_; have zy:=I2.cT ZH t12; obtain ⟨ws,L,Zw,PZ⟩:=fN (FW.kp I2.top ZH) s.to; simp only [Yf,Mb,AA]; rw [AF zx (a:=⟨b6,0,none⟩) (zy.b6.cell rfl),AF a9 (a:=⟨W2.sz,0+1,none⟩) (SJ.cell rfl)]; simp only [AA,L,Bd,Be]; refine D' rj jT rfl PZ Zw t12 fun M4 fP t14 z14 AFd=>?_; have xq:=zy.cT fP t14; have tY:QW l s=(l.find? fun x=>decide (x.type=s.to)).isSome:=rfl
    refine AN (fun hb=>?_) (fun hb=>?_)
    ·rw [g4,fK xq.b6]; simp only [AA]
     have GX:BI c l=false:=by
      rw [Jg,Dz A0 (by rw [QX hs,tY,hb]; simp)]; rfl
     refine Gz M4 false xq GX.symm (fun h=>by rw [GX] at h; cases h) fun W8 r7=>?_; simp only [TC,LC,PV,Kv,Wm,ep]; exact r7 _ g4 rfl
    ·simp only [TC,Bi,Kv]; simp only [AW,Aa,Nat.reduceEqDiff,↓reduceIte,ABq,Ae,AA]; refine ⟨A0,trivial,xq,ABo,ABp,by rw [FU (by omega)],g4,g6,FW.kp I2.top (ZH.trans fP),lS.kp I2.top (ZH.trans fP),fun j s' hj KB=>?_⟩
     rcases Nat.lt_succ_iff_lt_or_eq.1 hj with h | rfl
     ·exact R3 j s' h KB
     ·rw [hs] at KB; cases KB; rw [tY]; exact hb
   ·have Rz:BI c l=true:=by
     rw [Jg,FB fun j hj=>?_]
     ·rfl
     ·have Ww:=List.getElem?_eq_getElem hj; rw [QX Ww,CA j hj,R3 j _ (by omega) Ww]; rfl
    simp only [Bi,Rr,JB,Uj,if_true,ep]; simp only [AW,Aa,Nat.reduceEqDiff,↓reduceIte,g4,g6]; rw [fK I2.b6]; simp only [AA]; exact Gz W2 true I2 Rz.symm (fun _=>⟨FW,lS⟩) fun W8 r7=>r7 _ g4 rfl
end Go.Ce
