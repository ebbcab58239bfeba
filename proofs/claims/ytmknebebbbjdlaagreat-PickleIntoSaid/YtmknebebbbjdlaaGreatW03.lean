/- A part of the proof: Hh, Pl, Pm, Pn, Po, Pp, Pq, Pr, ShB, Ps, Pt, Pu, Pv, Pw, Px, Py, Pz, ShC, Qa, Qb, Qc, Qd, Qe, Qf, Qg, Qh. -/
import Derived.Test.YtmknebebbbjdlaaGreatW02
import Derived.Test.YtmknebebbbjdlaaGreatProg
set_option linter.unusedSectionVars false
set_option linter.unusedVariables false
set_option linter.unusedSimpArgs false
set_option maxRecDepth 200000
namespace Go.Ce
section
variable {α:Type} {W:CW} {el n:Nat} {v:Value}
theorem S6 {enc:α→List Value} (hn:∀ x,(enc x).length=n) (l:List α):(l.flatMap enc).length=l.length*n:=by
 induction l with
 | nil=>simp
 | cons x l ih=>rw [List.flatMap_cons,List.length_append,ih,hn,List.length_cons,Nat.succ_mul,Nat.add_comm]
theorem zR {enc:α→List Value} (hn:∀ x,(enc x).length=n) (h0:0<n) {l:List α} (h:DN W el n v (l.flatMap enc)):Ay n (fun b o x=>Cells W b o (enc x)) v l:=by
 generalize hc:l.flatMap enc=cs at h; have hl:=S6 hn l; rw [hc] at hl
 cases h with
 | nil =>
  have:l.length=0:=by
   rcases Nat.eq_zero_or_pos l.length with h | h
   ·exact h
   ·have:=Nat.mul_pos h h0; rw [←hl] at this; simp at this
  exact ⟨none,0,by rw [this],fun i x hx=>by have:=(List.getElem?_eq_some_iff.1 hx).1; omega⟩
 | @some b len _ hB uB =>
  have:len=l.length:=Nat.eq_of_mul_eq_mul_right h0 (by rw [←uB,hl]); refine ⟨some ⟨b,0,none⟩,len,by rw [this],fun i x hx=>⟨_,rfl,?_⟩⟩; have h1:=hB.cells; rw [←hc] at h1; exact S4 hn l 0 h1 i x hx
theorem lP (f:α→Value) (l:List α):l.map f=l.flatMap fun x=>[f x]:=by
 induction l with
 | nil=>rfl
 | cons x l ih=>rw [List.map_cons,List.flatMap_cons,ih]; rfl
theorem M3 {f:α→Value} {l:List α} (h:DN W el 1 v (l.map f)):Ay 1 (fun b o x=>W.cell b o=some (f x)) v l:=by
 rw [lP] at h; obtain ⟨a,cap,h1,h2⟩:=zR (n:=1) (fun _=>rfl) (by omega) h; refine ⟨a,cap,h1,fun i x hx=>?_⟩; obtain ⟨p,hp,hr⟩:=h2 i x hx; exact ⟨p,hp,by have:=hr 0 (f x) rfl; rwa [Nat.add_zero] at this⟩
end
theorem LI {P:Program} {t o3:TypeId} (u:P.underlying t=some (.slice o3)) {W W':CW} {el n:Nat} {v:Value} {cs:List Value} (h:DN W el n v cs) (hn:0<n) {m:Nat} (hm:cs.length=m*n):AY P t v W'=some (.int .i64 m):=by
 cases h with
 | nil =>
  have:m=0:=by
   rcases Nat.eq_zero_or_pos m with h | h
   ·exact h
   ·have:=Nat.mul_pos h hn; rw [←hm] at this; simp at this
  rw [Ac u,this]
 | @some b len _ hB hl =>
  have:len=m:=Nat.eq_of_mul_eq_mul_right hn (by rw [←hl,hm]); rw [Ac u,this]
def ER (ts:List Nat) (e e':Env):Prop:=∀ t,t ∈ ts→e' t=e t
theorem ER.trans {ts:List Nat} {a b c:Env} (h:ER ts a b) (k:ER ts b c):ER ts a c:=fun t ht=>(k t ht).trans (h t ht)
theorem ER.put {ts:List Nat} {e:Env} {l:List (Nat × Value)} (h:(ts.all fun t=>l.all fun p=>!Nat.beq t p.1)=true):ER ts e (Env.of e l):=by
 intro t ht; have h1:=List.all_eq_true.1 h t ht; clear h ht
 induction l with
 | nil=>rfl
 | cons p l ih =>
  simp only [List.all_cons,Bool.and_eq_true,Bool.not_eq_true'] at h1; simp only [Env.of,h1.1,cond_false]; exact ih h1.2
def J5 (J:Nat→Env→List Deferred→CW→Prop) (i n:Nat) (K:AG):AG:=fun x e ds W=>match x with
 | .normal=>i<n∧J (i+1) e ds W
 | x=>K x e ds W
section
variable (J:Nat→Env→List Deferred→CW→Prop) (i n:Nat) (K:AG) (e:Env) (ds:List Deferred) (W:CW)
theorem HC:J5 J i n K .normal e ds W=(i<n∧J (i+1) e ds W):=rfl
theorem Ud:J5 J i n K .ret e ds W=K .ret e ds W:=rfl
theorem ON (j:Nat):J5 J i n K (.exit j) e ds W=K (.exit j) e ds W:=rfl
theorem nh (ch:List PanicEntry):J5 J i n K (.panic ch) e ds W=K (.panic ch) e ds W:=rfl
end
theorem Du {P:Program} {L:List FuncId} {ro:Option Nat} {fn:FuncId} {nt:Nat} {b:Code} {K:AG} (J:Nat→Env→List Deferred→CW→Prop) (n:Nat) {e:Env} {ds:List Deferred} {W:CW} (h0:J 0 e ds W)
  (KF:∀ i e ds W,i≤n→J i e ds W→AP P L ro fn nt b e ds W (J5 J i n K)):C1 P L ro fn nt (.loop b) e ds W K:=by
 suffices key:∀ k i e ds W,n-i=k→i≤n→J i e ds W→C1 P L ro fn nt (.loop b) e ds W K from key n 0 e ds W rfl (Nat.zero_le _) h0
 intro k
 induction k using Nat.strongRecOn with
 | ind k ih =>
  intro i e ds W hk QP hi a ha hn; obtain ⟨m,⟨x1,a1,W1⟩,h1,e1,h2,h3,h4⟩:=Ek (KF i e ds W QP hi) a ha hn
  cases x1 with
  | normal =>
   obtain ⟨h5,h6⟩:=h4; obtain ⟨m',o,h7,h8⟩:=ih (n-(i+1)) (by omega) (i+1) e1 a1.defers W1 rfl h5 h6 a1 h2 h3; refine ⟨max m m'+1,o,?_,h8⟩; show Gn ((CM P L (max m m')).code ro fn b a W) ((CM P L (max m m')).code ro fn (.loop b))=some [o]; rw [FU (Nat.le_max_left m m') h1]; exact D1 (FU (Nat.le_max_right m m') h7)
  | _ =>
   refine ⟨m+1,_,?_,e1,h2,h3,h4⟩; show Gn ((CM P L m).code ro fn b a W) ((CM P L m).code ro fn (.loop b))=_; rw [h1]; exact D1 rfl
theorem JK {bad:Nat→Bool} {i:Nat} (h:∀ m,m<i→bad m=false) (hi:bad i=false):∀ m,m<i+1→bad m=false:=fun m hm=>by
 rcases Nat.lt_succ_iff_lt_or_eq.1 hm with h2 | rfl
 ·exact h m h2
 ·exact hi
theorem Dv {i:Nat} (h:i<1000000000000):IntKind.i64.wrap ((i:Int)+1)=((i+1:Nat):Int):=by rw [wrap64 (by omega) (by omega)]; rfl
theorem Gx {i n:Nat} {X Y:Prop} (h1:i<n→X) (h2:n≤i→Y):wI (.bool (decide ((i:Int)<(n:Int)))) X Y :=
 AL (fun h=>h1 (by have:=of_decide_eq_true h; omega)) (fun h=>h2 (by have:=of_decide_eq_false h; omega))
theorem Ov {vs ws:List Value} (h:ws.length=vs.length):putAt vs 0 ws=ws:=by
 unfold putAt; rw [List.take_zero,List.nil_append,List.drop_eq_nil_of_le (by omega),List.append_nil]
section
variable {P:Program}
theorem DG {t:TypeId} {m:Nat} {z:Value} (hz:GP P t=some z) (hs:DC P t=some m) (nV:z.cells.size=m) {ws:List Value} (h1:ws.all BB=true) (hm:ws.length=m) {W:CW} {K:Value→CW→Prop} (ht:At W)
  (hk:∀ W2,Kp W W2→At W2→W2.sz=W.sz+1→Aw W2 W.sz t ws→K (.pointer (some ⟨W.sz,0,none⟩)) W2):CD (GX P t W) fun v W1=>wV (CP P t v (.agg ws.toArray) W1) fun W2=>K v W2:=by
 refine Hu hz hs ht fun W1 k1 t1 z1 hB=>?_; refine Dk hs (a:=⟨W.sz,0,none⟩) h1 hm hB (by simp [nV]) fun W2 hu HD=>?_; rw [Ov (by simp [nV,hm])] at HD; exact hk W2 (k1.A4 (Nat.le_refl _) hu) (t1.A4 (by rw [z1]; exact Nat.lt_succ_self _) hu) (by rw [hu.sz,z1]) HD
end
section
variable {P:Program}
theorem Nv {t el:TypeId} {ts:List TypeId} {n bytes:Nat} {z x:Value} {xs:List Value} (ut:P.underlying t=some (.slice el)) (hs:DC P el=some n) (hz:GP P el=some z) (jJ:z.cells.size=n) (hn:0<n) (ng:(P.info? el).map (·.bytes)=some bytes) (hb:bytes≤1024)
  (uA:∀ W,WX P t 1 [(0,x)] W=some (.slice (some ⟨W.sz,0,none⟩) 1 1,W.new (.cells (Tr.nil.AZ 0 xs) xs.length #[] el))) (fx:xs.length=n) (Xg:xs.all BB=true)
  {W:CW} (ht:At W) {v:Value} {cs:List Value} (hv:DN W el n v cs) (Ua:cs.length<900000) {K:Value→CW→Value→CW→Prop}
  (hk:∀ u Wa v1 W1,Kp W Wa→At Wa→Jz v W W1→At W1→DN W1 el n v1 (cs++xs)→(∀ A,A≤W.sz→Bw A v1)→K u Wa v1 W1):CD (WX P t 1 [(0,x)] W) fun u W1=>CD (app P (t::t::ts) v u W1) fun v1 W2=>K u W1 v1 W2:=by
 refine GC (uA W) ?_; have hkp:Kp W (W.new (.cells (Tr.nil.AZ 0 xs) xs.length #[] el)):=.new _
 have hB:Aw (W.new (.cells (Tr.nil.AZ 0 xs) xs.length #[] el)) W.sz el xs:=⟨_,_,_,by rw [BF,if_pos rfl],rfl,fun k w hw=>by
  rw [CV _ _ _ (List.getElem?_eq_some_iff.1 hw).1,List.getD_eq_getElem?_getD,hw]; rfl⟩
 have F7:DN (W.new (.cells (Tr.nil.AZ 0 xs) xs.length #[] el)) el n v cs:=by
  cases hv with
  | nil=>exact .nil
  | some h hl=>exact .some (h.ext ht hkp) hl
 have aF:∀ b l c,v=.slice (some b) l c→b.block<W.sz:=by
  intro b l c e
  cases hv with
  | nil=>cases e
  | some h hl=>cases e; exact h.lt ht
 have hu:G' P t=true:=by unfold G'; rw [ut]
 refine lK (x:=.slice (some ⟨W.sz,0,none⟩) 1 1) (m:=1) (news:=xs) ut hu hs hz jJ hn ng hb (ht.new _) F7 rfl (by omega) ?_ Xg (by omega) (by omega) fun W1 len hg hl lN=>?_
 ·show FA (some ⟨W.sz,0,none⟩) (1*n) _=some xs; rw [Nat.one_mul,←fx]; exact Lp hB.cells
 ·refine hk _ _ _ W1 hkp (ht.new _) ⟨by rw [hg.sz,Fj]; omega,fun i hi Dp=>?_⟩ (hg.top (ht.new _)) (.some lN hl) (fun A hA b l c e=>by cases e; rw [Fj]; show A≤W.sz+1; omega); rw [hg.obj i (by rw [Fj]; omega) Dp,BF,if_neg (by omega)]
end
theorem Ow {W W':CW} {el n i:Nat} {v:Value} {cs:List Value} (h:DN W el n v cs) (hu:DM i W W') (hi:∀ b l c,v=.slice (some b) l c→b.block≠i):DN W' el n v cs:=by
 cases h with
 | nil=>exact DN.nil
 | some hB hl=>exact DN.some (hB.congr (hu.obj _ (hi _ _ _ rfl))) hl
theorem b_ {W:CW} {el n:Nat} {v:Value} {cs:List Value} (h:DN W el n v cs):BB v=true:=by cases h <;> rfl
theorem qz {W:CW} {el o3 n i:Nat} {v:Value} {cs ws:List Value} (h:DN W el n v cs) (hB:Aw W i o3 ws) (he:el≠o3):∀ b l c,v=.slice (some b) l c→b.block≠i:=by
 intro b l c hv hb
 cases h with
 | nil=>cases hv
 | some h1 hl =>
  cases hv
  simp only at hb; subst hb; obtain ⟨c1,n1,z1,h2,_⟩:=h1; obtain ⟨c2,n2,z2,h3,_⟩:=hB; rw [h2] at h3
  cases h3
  exact he rfl
theorem Jz.G1 {v:Value} {W W':CW} (h:Jz v W W') (ht:At W) {i:Nat} {el:TypeId} {ws:List Value} (hB:Aw W i el ws) (hi:∀ b l c,v=.slice (some b) l c→b.block≠i):Aw W' i el ws :=
 hB.congr (h.obj i (hB.lt ht) fun b l c e=>(hi b l c e).symm)
theorem S7 {P:Program} {fn:Func} {Q:Ending→CW→Prop} {e:Env} {W:CW} {s:Tmp} {ty:TypeId} {p:Addr} {v:Value} (hr:fn.results.toList=[.cell s ty]) (he:e s=.pointer (some p)) (hv:ld P ty (.pointer (some p)) W=some v) (hq:Q (.returned v) W):AK P fn Q .ret e [] W:=by
 have hv:IC P ty p W=some v:=hv; simp only [AK,Bu,hr,Hp,gD,he,hv]; exact hq
structure Bl (S:Nat→Prop) (W W':CW):Prop where
 sz:W.sz≤W'.sz
 obj:∀ i,i<W.sz→¬S i→W'.obj i=W.obj i
theorem Bl.refl (S:Nat→Prop) (W:CW):Bl S W W:=⟨Nat.le_refl _,fun _ _ _=>rfl⟩
theorem Bl.FN {S:Nat→Prop} {W W':CW} (h:Kp W W'):Bl S W W':=⟨h.sz,fun i hi _=>h.obj i hi⟩
theorem Bl.then {S T:Nat→Prop} {A B C:CW} (h:Bl S A B) (k:Bl T B C) (hT:∀ i,i<A.sz→T i→S i):Bl S A C :=
 ⟨Nat.le_trans h.sz k.sz,fun i hi hs=>(k.obj i (Nat.lt_of_lt_of_le hi h.sz) fun ht=>hs (hT i hi ht)).trans (h.obj i hi hs)⟩
theorem Bl.kp {S:Nat→Prop} {A B C:CW} (h:Kp A B) (k:Bl S B C) (hS:∀ i,S i→A.sz≤i):Kp A C :=
 ⟨Nat.le_trans h.sz k.sz,fun i hi=>(k.obj i (Nat.lt_of_lt_of_le hi h.sz) fun hs=>by have:=hS i hs; omega).trans (h.obj i hi)⟩
theorem Bl.cell {S:Nat→Prop} {W W':CW} (h:Bl S W W') (ht:At W) {b k:Nat} (hb:¬S b) {v:Value} (hc:W.cell b k=some v):W'.cell b k=some v:=by
 rw [Jw (h.obj b (eR ht hc) hb)]; exact hc
theorem Bl.G1 {S:Nat→Prop} {W W':CW} (h:Bl S W W') (ht:At W) {b:Nat} (hb:¬S b) {el:TypeId} {ws:List Value} (hB:Aw W b el ws):Aw W' b el ws :=
 hB.congr (h.obj b (hB.lt ht) hb)
def C2 (v:Value) (i:Nat):Prop:=∃ b l c,v=.slice (some b) l c∧b.block=i
theorem Jz.Dd {v:Value} {W W':CW} (h:Jz v W W'):Bl (C2 v) W W':=⟨h.sz,fun i hi hs=>h.obj i hi fun b l c e hb=>hs ⟨b,l,c,e,hb.symm⟩⟩
theorem DM.Dd {i:Nat} {W W':CW} (h:DM i W W'):Bl (·=i) W W':=⟨by rw [h.sz]; exact Nat.le_refl _,fun j _ hj=>h.obj j hj⟩
theorem Bl.own {S:Nat→Prop} {W W':CW} (h:Bl S W W') (ht:At W) {el n:Nat} {v:Value} {cs:List Value} (ho:DN W el n v cs) (hv:∀ i,C2 v i→¬S i):DN W' el n v cs:=by
 cases ho with
 | nil=>exact DN.nil
 | some hB hl=>exact DN.some (h.G1 ht (hv _ ⟨_,_,_,rfl,rfl⟩) hB) hl
theorem Bw.in {A:Nat} {v:Value} (h:Bw A v) {i:Nat} (hi:C2 v i):A≤i:=by
 obtain ⟨b,l,c,e,rfl⟩:=hi; exact h b l c e
theorem VL {W:CW} (ht:At W) {el n:Nat} {v:Value} {cs:List Value} (h:DN W el n v cs) {i:Nat} (hi:C2 v i):i<W.sz:=by
 obtain ⟨b,l,c,e,rfl⟩:=hi
 cases h with
 | nil=>cases e
 | some hB hl=>cases e; exact hB.lt ht
section
variable {P:Program}
theorem q5 {t el:TypeId} {z:Value} {bytes:Nat} (ut:P.underlying t=some (.slice el)) (hs:DC P el=some 1) (hz:GP P el=some z) (hzc:z.cells=#[z]) (ng:(P.info? el).map (·.bytes)=some bytes) (hb:bytes≤1024) {n:Nat} (hn:n≤2000000) {k1 k2:IntKind} {W:CW} (ht:At W) {K:Value→CW→Prop}
  (hk:∀ W1,Kp W W1→At W1→W1.sz=W.sz+1→Aw W1 W.sz el (List.replicate n z)→K (.slice (some ⟨W.sz,0,none⟩) n n) W1):CD (xJ P t (.int k1 n) (.int k2 n) W) K:=by
 have hc:xJ P t (.int k1 n) (.int k2 n) W=some (.slice (some ⟨W.sz,0,none⟩) n n,W.new (.cells .nil (n*1) z.cells el)):=by
  unfold xJ; simp only [ut,hs,hz,CH,ng,Option.getD_some,hzc]; rw [show Nat.ble bytes 1024=true from Nat.ble_eq_true_of_le hb]; simp only [cond_eq_ite]; rw [if_pos (by simp; omega)]; simp
 refine GC hc (hk _ (.new _) (ht.new _) rfl ⟨.nil,_,_,by rw [BF,if_pos rfl],by simp,fun k v hv=>?_⟩); have h1:v=z:=List.eq_of_mem_replicate (List.mem_of_getElem? hv); subst h1; unfold cellAt; simp only [Tr.get_nil,hzc]; simp [Nat.mod_one]
end
section
variable {P:Program}
theorem o5 {t u el:TypeId} {ts:List TypeId} {n bytes:Nat} {z:Value} (ut:P.underlying t=some (.slice el)) (hu:G' P u=true) (hs:DC P el=some n) (hz:GP P el=some z) (jJ:z.cells.size=n) (hn:0<n) (ng:(P.info? el).map (·.bytes)=some bytes) (hb:bytes≤1024)
  {W:CW} (ht:At W) {v:Value} {cs news:List Value} {a:Option Addr} {m cap:Nat} (hv:DN W el n v cs) (gT:0<m→∃ p,a=some p∧Cells W p.block p.off news) (h1:news.all BB=true) (KN:news.length=m*n) (Ua:cs.length+m≤1000000) {K:Value→CW→Prop}
  (hk:∀ v1 W1,Jz v W W1→At W1→DN W1 el n v1 (cs++news)→(∀ j,C2 v1 j→C2 v j∨W.sz≤j)→K v1 W1):CD (app P (t::u::ts) v (.slice a m cap) W) K:=by
 rcases Nat.eq_zero_or_pos m with rfl | hm
 ·have Gq:news=[]:=List.length_eq_zero_iff.1 (by rw [KN,Nat.zero_mul]); subst Gq; have lL:Nat.ble ((P.info? el).map (·.bytes) |>.getD 2000) 1024=true:=by rw [ng]; exact Nat.ble_eq_true_of_le hb
  have sP:Gl (.slice a 0 cap) 0 n W=some []:=by
   show FA a (0*n) W=some []; rw [Nat.zero_mul]; unfold FA
   cases a <;> rfl
  have hc:app P (t::u::ts) v (.slice a 0 cap) W=some (v,W):=by
   unfold app; simp only [hu,cond_true]
   cases hv with
   | nil =>
    unfold F4; simp only [ut,aJ,CH,hs,hz,sP,List.all_nil,List.length_nil,Nat.zero_mul,Nat.beq_refl,jJ,lL,Bool.true_and,Bool.and_true]; rw [show Nat.blt 0 n=true from Nat.ble_eq_true_of_le hn]; rfl
   | @some b len cs hB hl =>
    have hlen:len≤cs.length:=by rw [hl]; exact Nat.le_mul_of_pos_right _ hn
    unfold F4; simp only [ut,aJ,CH,hs,hz,sP,List.all_nil,List.length_nil,Nat.zero_mul,Nat.beq_refl,jJ,lL,Bool.true_and,Bool.and_true,Nat.add_zero]; rw [show Nat.blt 0 n=true from Nat.ble_eq_true_of_le hn,show Nat.ble len 1000000=true from Nat.ble_eq_true_of_le (by omega),show Nat.ble len len=true from Nat.ble_eq_true_of_le (Nat.le_refl _)]; rfl
  refine GC hc (hk v W ⟨Nat.le_refl _,fun _ _ _=>rfl⟩ ht (by rw [List.append_nil]; exact hv) (fun j h=>.inl h))
 ·obtain ⟨p,rfl,Hm⟩:=gT hm
  refine lK (m:=m) ut hu hs hz jJ hn ng hb ht hv rfl hm ?_ h1 KN Ua fun W1 len hg hl hB=>?_
  ·show FA (some p) (m*n) W=some news; rw [←KN]; exact Lp Hm
  ·exact hk _ W1 ⟨by rw [hg.sz]; omega,hg.obj⟩ (hg.top ht) (.some hB hl) (fun j h=>.inr (by obtain ⟨b,l,c,e,rfl⟩:=h; cases e; exact Nat.le_refl _))
end
end Go.Ce
namespace Go.Ce
open Go Go.Proofs Go.Proofs.Tryz
def DT (n:Nat) (p:Nat→Bool):Bool:=(List.range n).any p
theorem DZ {n j:Nat} {p:Nat→Bool} (hj:j<n) (h:p j=true):DT n p=true:=List.any_eq_true.2 ⟨j,List.mem_range.2 hj,h⟩
theorem Em {n:Nat} {p:Nat→Bool} (h:∀ j,j<n→p j=false):DT n p=false:=by
 unfold DT; rw [List.any_eq_false]; intro j hj; rw [h j (List.mem_range.1 hj)]; simp
theorem D' {n:Nat} {p:Nat→Bool} (h:DT n p=false) {j:Nat} (hj:j<n):p j=false:=by
 cases hp:p j with
 | false=>rfl
 | true=>rw [DZ hj hp] at h; cases h
def HE (k:Int):Bool:=k == 1 || k == 2
def Ev (kind n:Int) (size:Nat):Bool:=!((kind == 1 && (decide (n < -1000000000) || decide (n>1000000000))) || (kind == 2 && (decide (n<0) || decide (n>size))))
def BC (c:List Af) (s:ByteArray):Option Nat:=c.findIdx? fun x=>decide (x.name=s)
def Fm (c:List Af) (i:Nat) (x:Af) (many:Nat):Bool:=if x.elem≠0 then decide (many≤200) else decide (many=(Ai c i).length)
def Ar (c:List Af) (x:BR) (size:Nat):Bool:=match BC c x.type with
 | none=>false
 | some i=>match c[i]? with
  | none=>false
  | some s=>Fm c i s x.AJ.length && !DT x.AJ.length fun k=>match x.AJ[k]? with
   | some n=>!Ev (A9 c i k) n size
   | none=>false
def CG (c:List Af) (h:List BR):Int:=if 1000<h.length then 1000 else Ip h fun x=>!Ar c x h.length
theorem EW.kp {W W':CW} {b o:Nat} {x:Int} (h:EW W b o x) (ht:At W) (k:Kp W W'):EW W' b o x:=⟨k.cell ht h.1,h.2⟩
theorem Fk.kp {W W':CW} {b o:Nat} {x:BR} (h:Fk W b o x) (ht:At W) (k:Kp W W'):Fk W' b o x :=
 ⟨k.cell ht h.type,by obtain ⟨v,h1,h2⟩:=h.AJ; exact ⟨v,k.cell ht h1,h2.imp fun _ _ _ hr=>hr.kp ht k⟩⟩
theorem Ou.kp {W W':CW} {b o:Nat} {x:CE} (h:Ou W b o x) (ht:At W) (k:Kp W W'):Ou W' b o x :=
 ⟨k.cell ht h.type,k.cell ht h.to,by obtain ⟨v,h1,h2,h3⟩:=h.map; exact ⟨v,k.cell ht h1,h2.imp fun _ _ _ hr=>hr.kp ht k,h3.kp ht k⟩⟩
def ABx (W:CW) (u:Value) (x:BR):Prop:=∃ v,u=.agg #[.string x.type,v]∧Ay 1 (EW W) v x.AJ
theorem Fk.ld {W:CW} {b o:Nat} {x:BR} (h:Fk W b o x):∃ u,ld prog 56 (.pointer (some ⟨b,o,none⟩)) W=some u∧ABx W u x:=by
 obtain ⟨v,h1,h2⟩:=h.AJ; refine ⟨_,Bd (vs:=[.string x.type,v]) Yr Io rfl (by omega) ?_,v,rfl,h2⟩; intro j w hj
 match j,hj with
 | 0,hj=>cases hj; exact h.type
 | 1,hj=>cases hj; exact h1
theorem GG {c:List Af} {s:ByteArray} {i:Nat} (h:BC c s=some i):i<c.length:=(List.findIdx?_eq_some_iff_getElem.1 h).1
end Go.Ce
namespace Go.Ce
open Go Go.Proofs Go.Proofs.Tryz
end Go.Ce
namespace Go.Ce
open Go Go.Proofs Go.Proofs.Tryz
def Ox (mp:List Int) (k:Nat) (n:Int):Bool:=DT k fun m=>decide (mp[m]?=some n)
def J6 (fr to:List Int) (mp:List Int) (k:Nat):Bool:=match mp[k]? with
 | none=>true
 | some n=>decide (n<0) || decide (n≥fr.length) || decide (fr[n.toNat]?≠to[k]?) || Ox mp k n
def J7 (l:List CE) (s:CE) (i k:Nat):Bool:=match l[k]? with
 | none=>false
 | some x=>decide (x.type=s.to) || (decide (k<i) && decide (x.to=s.to))
def elemAt (c:List Af) (t:Nat):Int:=match c[t]? with
 | some x=>x.elem
 | none=>0
def Gj (l:List CE) (s:CE):Nat→Bool
 | 0=>false
 | i+1=>match l[i]? with
  | some x=>!Q5 (sb x.type) (sb s.type)
  | none=>false
def Oy (c:List Af) (l:List CE) (i:Nat):Bool:=match l[i]? with
 | none=>true
 | some s=>match BC c s.type,BC c s.to with
  | some t,some a=>(decide (elemAt c t≠0) || decide (elemAt c a≠0) || Gj l s i) || (DT l.length (J7 l s i) || (decide (s.map.length≠(Ai c a).length) || DT (Ai c a).length (J6 (Ai c t) (Ai c a) s.map)))
  | _,_=>true
def BZ (c:List Af) (l:List CE):Bool:=decide (l.length≤20) && !DT l.length (Oy c l)
def RKd (W:CW) (b o:Nat) (x:Int):Prop:=W.cell b o=some (.int .u8 x)
end Go.Ce
namespace Go.Ce
open Go Go.Proofs Go.Proofs.Tryz
end Go.Ce
namespace Go.Ce
open Go Go.Proofs Go.Proofs.Tryz
def Hx (c:List Af) (x:Af):Nat→Bool
 | 0=>false
 | i+1=>match c[i]? with
  | some y=>!Q5 (sb y.name) (sb x.name)
  | none=>false
def BW (c:List Af) (i:Nat):Bool:=match c[i]? with
 | none=>true
 | some x=>(!Hw x.name || Hx c x i) || ((decide (x.elem≠0) && (!HE x.elem || decide (x.Bk≠D2) || decide (0<x.fields.length))) || decide (20<x.fields.length))
def S8 (fs:List Sx) (k:Nat) (s:ByteArray):Bool:=DT k fun n=>decide ((fs[n]?).map (·.name)=some s)
def Hy (fs:List Sx) (k:Nat):Bool:=match fs[k]? with
 | none=>true
 | some f=>(!Hw f.name || !HE f.kind) || S8 fs k f.name
def LJ (c:List Af) (i:Nat):Bool:=match Bh c c.length i with
 | none=>true
 | some _=>decide (60<(Eu c i).length) || DT (Eu c i).length (Hy (Eu c i))
def BN (c:List Af):Bool:=decide (c.length≤100) && (!DT c.length (BW c) && !DT c.length (LJ c))
theorem lQ:GP prog 48=some (.agg #[.string ⟨#[]⟩,.string ⟨#[]⟩,.slice none 0 0,.int .u8 0,.slice none 0 0]):=by kernel_rfl
structure Qz (c:List Af):Prop where
 len:c.length<200
 fields:∀ x,x ∈ c→x.fields.length≤100
 name:∀ x,x ∈ c→x.name.size<1000
 sup:∀ x,x ∈ c→x.Bk.size<1000
 zS:∀ x,x ∈ c→∀ f,f ∈ x.fields→f.name.size<1000
end Go.Ce
namespace Go.Ce
open Go Go.Proofs Go.Proofs.Tryz
theorem MF.ld {W:CW} {b o:Nat} {x:Af} (h:MF W b o x):∃ vf ab lb cb,ld prog 48 (.pointer (some ⟨b,o,none⟩)) W=some (.agg [.string x.name,.string x.Bk,vf,.int .u8 x.elem,.slice ab lb cb].toArray)∧Ay 2 (Ot W) vf x.fields:=by
 obtain ⟨vf,h1,h2⟩:=h.fields; obtain ⟨ab,lb,cb,h3⟩:=h.binds; refine ⟨vf,ab,lb,cb,Bd (vs:=[.string x.name,.string x.Bk,vf,.int .u8 x.elem,.slice ab lb cb]) a48 eS rfl (by omega) ?_,h2⟩; intro j w hj
 match j,hj with
 | 0,hj=>cases hj; exact h.name
 | 1,hj=>cases hj; exact h.Bk
 | 2,hj=>cases hj; exact h1
 | 3,hj=>cases hj; exact h.elem
 | 4,hj=>cases hj; exact h3
end Go.Ce
namespace Go.Ce
open Go Go.Proofs Go.Proofs.Tryz
def VM (c:List Af) (l:List CE):Int:=if BN c then (if BZ c l then 0 else 212) else 210
def o8 (c:List Af) (l:List CE) (h:List BR) (root:Int):Int:=if VM c l≠0 then VM c l else if CG c h≥0 then 211 else if root<0∨root>h.length then 1 else 0
end Go.Ce
namespace Go.Ce
open Go Go.Proofs Go.Proofs.Tryz
end Go.Ce
namespace Go.Ce
open Go Go.Proofs Go.Proofs.Tryz
def Nw (l:List CE) (s:ByteArray):Option CE:=l.find? fun x=>decide (x.type=s)
def eY (x:BR) (m:Int):Int:=(x.AJ[m.toNat]?).getD 0
def DU (l:List CE) (x:BR):BR:=match Nw l x.type with
 | some s=>⟨s.to,s.map.map (eY x)⟩
 | none=>x
def Bz (l:List Int):List Value:=l.map fun k=>Value.int .i64 k
theorem s40:DC prog 40=some 1:=by kernel_rfl
theorem q7:GP prog 56=some (.agg #[.string ⟨#[]⟩,.slice none 0 0]):=by kernel_rfl
theorem EW.of {W:CW} {v:Value} {l:List Int} (h:Ay 1 (fun b o x=>W.cell b o=some (Value.int .i64 x)) v l) (hb:∀ x,x ∈ l→-9223372036854775808≤x∧x≤9223372036854775807):Ay 1 (EW W) v l:=by
 obtain ⟨a,cap,h1,h2⟩:=h; exact ⟨a,cap,h1,fun i x hx=>by obtain ⟨p,hp,hr⟩:=h2 i x hx; exact ⟨p,hp,hr,hb x (List.mem_of_getElem? hx)⟩⟩
theorem lR {l:List CE} {s:ByteArray} {i:Nat} (hi:i<l.length) (h:decide (l[i].type=s)=true) (CY:∀ j,j<i→decide ((l[j]?).map (·.type)=some s)=false):Nw l s=some l[i]:=by
 unfold Nw; rw [List.find?_eq_some_iff_getElem]; refine ⟨h,i,hi,rfl,fun j hj=>?_⟩; have:=CY j hj; rw [List.getElem?_eq_getElem (by omega)] at this
 simpa using this
end Go.Ce
namespace Go.Ce
open Go Go.Proofs Go.Proofs.Tryz
theorem cA {l:List CE} {s:ByteArray} {x:CE} (h:Nw l s=some x):∃ i:Nat,l[i]?=some x∧x.type=s:=by
 unfold Nw at h; obtain ⟨h1,i,hi,h2,_⟩:=List.find?_eq_some_iff_getElem.1 h; exact ⟨i,by rw [List.getElem?_eq_getElem hi,h2],by simpa using h1⟩
structure q_ (c:List Af) (s:CE) (t a:Nat):Prop where
 ti:BC c s.type=some t
 ai:BC c s.to=some a
 et:elemAt c t=0
 ea:elemAt c a=0
 len:s.map.length=(Ai c a).length
 map:∀ k,k<(Ai c a).length→∃ n:Int,s.map[k]?=some n∧0≤n∧n<(Ai c t).length∧(Ai c t)[n.toNat]?=(Ai c a)[k]?∧Ox s.map k n=false
theorem cB {c:List Af} {l:List CE} (h:BZ c l=true) {i:Nat} {s:CE} (hs:l[i]?=some s):∃ t a,q_ c s t a:=by
 unfold BZ at h; simp only [Bool.and_eq_true,Bool.not_eq_true'] at h; have hb:=D' h.2 (List.getElem?_eq_some_iff.1 hs).1; unfold Oy at hb; rw [hs] at hb; simp only at hb
 cases UB:BC c s.type with
 | none=>rw [UB] at hb; cases hb
 | some t =>
  rw [UB] at hb
  cases aG:BC c s.to with
  | none=>rw [aG] at hb; cases hb
  | some a =>
   rw [aG] at hb; simp only [Bool.or_eq_false_iff,decide_eq_false_iff_not,Decidable.not_not] at hb; obtain ⟨⟨⟨h1,h2⟩,h3⟩,h4,h5,h6⟩:=hb; refine ⟨t,a,UB,aG,h1,h2,h5,fun k hk=>?_⟩; have hm:=D' h6 hk; unfold J6 at hm
   cases hx:s.map[k]? with
   | none=>rw [hx] at hm; cases hm
   | some n =>
    rw [hx] at hm; simp only [Bool.or_eq_false_iff,decide_eq_false_iff_not,Decidable.not_not] at hm; obtain ⟨⟨⟨m1,m2⟩,m3⟩,m4⟩:=hm; exact ⟨n,rfl,by omega,by omega,m3,m4⟩
structure Y3 (c:List Af) (x:BR) (size i:Nat) (s:Af):Prop where
 ti:BC c x.type=some i
 si:c[i]?=some s
 many:Fm c i s x.AJ.length=true
 val:∀ (k:Nat) n,x.AJ[k]?=some n→Ev (A9 c i k) n size=true
theorem Dl {c:List Af} {x:BR} {size:Nat} (h:Ar c x size=true):∃ i s,Y3 c x size i s:=by
 unfold Ar at h
 cases UB:BC c x.type with
 | none=>rw [UB] at h; cases h
 | some i =>
  rw [UB] at h; have hs:=List.getElem?_eq_getElem (GG UB); simp only [hs,Bool.and_eq_true,Bool.not_eq_true'] at h; refine ⟨i,_,UB,hs,h.1,fun k n hk=>?_⟩; have:=D' h.2 (List.getElem?_eq_some_iff.1 hk).1; rw [hk] at this
  simpa using this
theorem LK {c:List Af} {x:BR} {size i:Nat} {s:Af} (h:Y3 c x size i s):Ar c x size=true:=by
 unfold Ar; rw [h.ti]; simp only [h.si,h.many,Bool.true_and]
 rw [Em fun j hj=>?_]
 ·rfl
 ·have:=List.getElem?_eq_getElem hj; rw [this]; simp only [h.val j _ this,Bool.not_true]
theorem Hz {c:List Af} {h:List BR} (ht:¬CG c h≥0):h.length≤1000∧∀ x,x ∈ h→Ar c x h.length=true:=by
 unfold CG at ht
 by_cases hl:1000<h.length
 ·rw [if_pos hl] at ht; omega
 ·rw [if_neg hl] at ht; refine ⟨by omega,fun x hx=>?_⟩; unfold Ip at ht
  cases hf:h.findIdx? fun x=>!Ar c x h.length with
  | some i=>rw [hf] at ht; simp only at ht; omega
  | none =>
   rw [List.findIdx?_eq_none_iff] at hf
   simpa using hf x hx
theorem JL {c:List Af} {i many:Nat} {s:Af} (hs:c[i]?=some s) (he:elemAt c i=0) (hm:Fm c i s many=true):many=(Ai c i).length:=by
 unfold Fm at hm; unfold elemAt at he; rw [hs] at he; rw [if_neg (by simpa using he)] at hm; exact of_decide_eq_true hm
theorem H0 {c:List Af} {i:Nat} (he:elemAt c i=0) (hi:i<c.length) (k:Nat):A9 c i k=((Ai c i)[k]?).getD 0:=by
 unfold A9; unfold elemAt at he; rw [List.getElem?_eq_getElem hi] at he ⊢; simp only at he ⊢; rw [if_neg (by simpa using he)]
theorem Mg {c:List Af} {l:List CE} {x:BR} {size:Nat} (hs:BZ c l=true) (hx:Ar c x size=true):Ar c (DU l x) size=true:=by
 unfold DU
 cases KM:Nw l x.type with
 | none=>exact hx
 | some s =>
  obtain ⟨i,hi,Q0⟩:=cA KM; obtain ⟨t,a,S⟩:=cB hs hi; obtain ⟨ti,si,T⟩:=Dl hx; have UB:ti=t:=by have h1:=T.ti; rw [←Q0,S.ti] at h1; exact (Option.some.inj h1).symm
  subst UB; have Xm:=JL T.si S.et T.many; have om:=GG S.ai; have o9:=GG S.ti
  refine LK (i:=a) (s:=c[a]) ⟨S.ai,List.getElem?_eq_getElem om,?_,fun k n hk=>?_⟩
  ·have hea:=S.ea; unfold elemAt at hea; rw [List.getElem?_eq_getElem om] at hea; unfold Fm; rw [if_neg (by simpa using hea)]; exact decide_eq_true (by rw [List.length_map]; exact S.len)
  ·have hk':k<s.map.length:=by
    have:=(List.getElem?_eq_some_iff.1 hk).1
    simpa using this
   obtain ⟨m,h1,h2,h3,h4,_⟩:=S.map k (by rw [←S.len]; exact hk'); simp only [List.getElem?_map,h1,Option.map_some,Option.some.injEq] at hk; have i_:m.toNat<x.AJ.length:=by omega
   have zU:=List.getElem?_eq_getElem i_; have:=T.val _ _ zU; rw [H0 S.et o9,h4] at this; rw [H0 S.ea om,←hk]; unfold eY; rw [zU]; exact this
def En (c:List Af) (i:Nat) (vs:List Int):Nat→List Int
 | 0=>[]
 | k+1=>En c i vs k++(if A9 c i k=2 then (vs[k]?).toList else [])
def refsOf (c:List Af) (y:BR):List Int:=match BC c y.type with
 | some i=>En c i y.AJ y.AJ.length
 | none=>[]
def visit (o:List Int) (v:Int):List Int:=if 0<v∧v ∉ o then o++[v] else o
def BG (refs:Int→List Int):Nat→List Int→Nat→List Int
 | 0,o,_=>o
 | f+1,o,n=>match o[n]? with
  | none=>o
  | some v=>BG refs f ((refs v).foldl visit o) (n+1)
def placeOf (o:List Int) (v:Int):Int:=match o.findIdx? (fun x=>decide (x=v)) with
 | some i=>(i:Int)+1
 | none=>0
theorem J8 {o:List Int} {v:Int} (h:v ∉ o):placeOf o v=0:=by
 unfold placeOf
 have:o.findIdx? (fun x=>decide (x=v))=none:=by
  rw [List.findIdx?_eq_none_iff]; intro x hx; exact decide_eq_false (fun e=>h (e ▸ hx))
 rw [this]
theorem Y4 {o:List Int} {v:Int} (h:v ∈ o):0<placeOf o v:=by
 unfold placeOf
 cases hf:o.findIdx? (fun x=>decide (x=v)) with
 | none =>
  rw [List.findIdx?_eq_none_iff] at hf; have:=hf v h; simp at this
 | some i=>simp only; omega
theorem Y5 {o:List Int} {u v:Int} (h:v ∉ o):placeOf (o++[v]) u=if u=v then (o.length:Int)+1 else placeOf o u:=by
 unfold placeOf; rw [List.findIdx?_append]
 by_cases e:u=v
 ·subst e
  have:o.findIdx? (fun x=>decide (x=u))=none:=by
   rw [List.findIdx?_eq_none_iff]; intro x hx; exact decide_eq_false (fun e=>h (e ▸ hx))
  rw [this,if_pos rfl]; simp
 ·rw [if_neg e]
  cases hf:o.findIdx? (fun x=>decide (x=u)) with
  | some i=>simp
  | none =>
   have:([v].findIdx? fun x=>decide (x=u))=none:=by
    simp [Ne.symm e,List.findIdx?_cons]
   rw [this]; simp
structure Found (o:List Int) (n:Nat):Prop where
 nodup:o.Nodup
 low:∀ v,v ∈ o→0<v
 high:∀ v,v ∈ o→v≤n
theorem XD:∀ (n:Nat) (o:List Int),o.Nodup→(∀ v,v ∈ o→0<v∧v≤n)→o.length≤n
 | 0,o,_,h=>by
  cases o with
  | nil=>exact Nat.le_refl _
  | cons a o=>have:=h a (List.mem_cons_self ..); omega
 | n+1,o,hd,h=>by
  by_cases hm:((n+1:Nat):Int) ∈ o
  ·have h1:=XD n (o.erase ((n+1:Nat):Int)) (hd.erase _) fun v hv=>by
    obtain ⟨h2,h3⟩:=(List.Nodup.mem_erase_iff hd).1 hv; have:=h v h3; omega
   rw [List.length_erase_of_mem hm] at h1; omega
  ·have:=XD n o hd fun v hv=>by
    have h1:=h v hv; have:v≠((n+1:Nat):Int):=fun e=>hm (e ▸ hv); omega
   omega
theorem Found.len {o:List Int} {n:Nat} (h:Found o n):o.length≤n:=XD n o h.nodup fun v hv=>⟨h.low v hv,h.high v hv⟩
theorem Found.visit {o:List Int} {n:Nat} (h:Found o n) {v:Int} (hv:v≤n):Found (visit o v) n:=by
 unfold Go.Ce.visit
 split
 ·rename_i hc
  refine ⟨?_,?_,?_⟩
  ·rw [List.nodup_append]; exact ⟨h.nodup,by simp,fun a ha b hb=>by rw [List.mem_singleton.1 hb]; exact fun e=>hc.2 (e ▸ ha)⟩
  ·intro u hu
   rcases List.mem_append.1 hu with hu | hu
   ·exact h.low u hu
   ·rw [List.mem_singleton.1 hu]; exact hc.1
  ·intro u hu
   rcases List.mem_append.1 hu with hu | hu
   ·exact h.high u hu
   ·rw [List.mem_singleton.1 hu]; exact hv
 ·exact h
theorem cC {refs:Int→List Int} {o:List Int} {n:Nat} (h:o.length≤n):∀ f,BG refs f o n=o
 | 0=>rfl
 | f+1=>by unfold BG; rw [List.getElem?_eq_none h]
theorem Y6 {refs:Int→List Int} {o:List Int} {n f:Nat} {v:Int} (h:o[n]?=some v):BG refs (f+1) o n=BG refs f ((refs v).foldl visit o) (n+1):=by
 rw [BG,h]
end Go.Ce
namespace Go.Ce
open Go Go.Proofs Go.Proofs.Tryz
theorem Y7 (o:List Int) (v:Int):Bz (o++[v])=Bz o++[.int .i64 v]:=by simp [Bz]
theorem D7 (o:List Int):(Bz o).length=o.length:=by simp [Bz]
theorem Y8 {c:List Af} {i k:Nat} {vs:List Int} {n:Int} (h:vs[k]?=some n):En c i vs (k+1)=En c i vs k++(if A9 c i k=2 then [n] else []):=by
 rw [En,h]; rfl
def E7 (c:List Af) (l:List CE) (h:List BR) (v:Int):List Int:=match h[(v-1).toNat]? with
 | some x=>refsOf c (DU l x)
 | none=>[]
def start (root:Int):List Int:=if root>0 then [root] else []
def Da (c:List Af) (l:List CE) (h:List BR) (root:Int):List Int:=BG (E7 c l h) h.length (start root) 0
theorem Found.start {root:Int} {n:Nat} (h:root≤n):Found (start root) n:=by
 unfold Go.Ce.start
 split
 ·exact ⟨List.pairwise_singleton _ _,fun v hv=>by rw [List.mem_singleton.1 hv]; assumption,fun v hv=>by rw [List.mem_singleton.1 hv]; exact h⟩
 ·exact ⟨List.nodup_nil,fun v hv=>(by cases hv),fun v hv=>(by cases hv)⟩
theorem Ls {c:List Af} {i m:Nat} {s:Af} (hC:Qz c) (h:Fm c i s m=true):m≤20100:=by
 unfold Fm at h
 split at h
 ·have:=of_decide_eq_true h; omega
 ·have:=of_decide_eq_true h; have h2:=LH hC.len hC.fields i; unfold Ai at this; rw [List.length_map] at this; omega
end Go.Ce
namespace Go.Ce
open Go Go.Proofs Go.Proofs.Tryz
def eZ (n:Int):Int:=if n<0 then -2*n-1 else 2*n
def Lt (t:List ByteArray) (s:ByteArray):List ByteArray:=if t.any (fun x=>decide (x=s)) then t else t++[s]
def Oz (l:List CE) (xs:List BR):List ByteArray:=xs.foldl (fun t x=>Lt t (DU l x).type) []
def gV (o:List Int) (kind n:Int):List Int:=if kind=2 then Gw (placeOf o n).toNat else Gw (eZ n).toNat
def S9 (c:List Af) (o:List Int) (i:Nat) (vs:List Int):Nat→List Int
 | 0=>[]
 | k+1=>S9 c o i vs k++(match vs[k]? with
  | some n=>gV o (A9 c i k) n
  | none=>[])
def XE (c:List Af) (t:List ByteArray) (o:List Int) (y:BR):List Int:=match BC c y.type with
 | some i=>Gw (Ip t fun x=>decide (x=y.type)).toNat++(if elemAt c i≠0 then Gw y.AJ.length else [])++S9 c o i y.AJ y.AJ.length
 | none=>[]
def DV (h:List BR) (o:List Int):List BR:=o.flatMap fun v=>(h[(v-1).toNat]?).toList
def lS (c:List Af) (l:List CE) (h:List BR) (o:List Int):List Int :=
 [1]++Gw (Oz l (DV h o)).length++(Oz l (DV h o)).flatMap Y2++Gw o.length++(DV h o).flatMap fun x=>XE c (Oz l (DV h o)) o (DU l x)
def rA (l:List CE) (h:List BR) (o:List Int):Bool:=(DV h o).any fun x=>l.any fun s=>decide (s.to=x.type)
theorem ec {c:List Af} (h:BN c=true) {i:Nat} (hi:i<c.length):(Ai c i).length≤60∧∀ (k:Nat) n,(Ai c i)[k]?=some n→n=1∨n=2:=by
 unfold BN at h; simp only [Bool.and_eq_true,Bool.not_eq_true'] at h; have hb:=D' h.2.2 hi; unfold LJ at hb
 cases hl:Bh c c.length i with
 | none=>rw [hl] at hb; cases hb
 | some l =>
  rw [hl] at hb; simp only [Bool.or_eq_false_iff,decide_eq_false_iff_not] at hb; refine ⟨by unfold Ai; rw [List.length_map]; omega,fun k n hk=>?_⟩; unfold Ai at hk; rw [List.getElem?_map] at hk
  cases hf:(Eu c i)[k]? with
  | none=>rw [hf] at hk; cases hk
  | some f =>
   rw [hf] at hk
   cases hk
   have:=D' hb.2 (List.getElem?_eq_some_iff.1 hf).1; unfold Hy at this; rw [hf] at this; simp only [Bool.or_eq_false_iff,Bool.not_eq_false'] at this; have hk:=this.1.2; unfold HE at hk
   simpa using hk
theorem lT {c:List Af} (h:BN c=true) {i:Nat} (hi:i<c.length):elemAt c i=0∨elemAt c i=1∨elemAt c i=2:=by
 unfold BN at h; simp only [Bool.and_eq_true,Bool.not_eq_true'] at h; have hb:=D' h.2.1 hi; unfold BW at hb; unfold elemAt; rw [List.getElem?_eq_getElem hi] at hb ⊢; simp only [Bool.or_eq_false_iff] at hb ⊢; have h1:=hb.2.1
 by_cases he:c[i].elem=0
 ·exact .inl he
 ·rw [decide_eq_true he,Bool.true_and] at h1; simp only [Bool.or_eq_false_iff,Bool.not_eq_false'] at h1; have:=h1.1.1; unfold HE at this; right
  simpa using this
theorem o_ {c:List Af} (h:BN c=true) {i k:Nat} (hi:i<c.length) (hk:elemAt c i=0→k<(Ai c i).length):A9 c i k=1∨A9 c i k=2:=by
 by_cases he:elemAt c i=0
 ·rw [H0 he hi,List.getElem?_eq_getElem (hk he)]; exact (ec h hi).2 k _ (List.getElem?_eq_getElem (hk he))
 ·have:=lT h hi; unfold A9; unfold elemAt at he this; rw [List.getElem?_eq_getElem hi] at he this ⊢; simp only at he this ⊢; rw [if_pos he]; omega
theorem cD (a:List Int):(Fl a).length=a.length:=by simp [Fl]
end Go.Ce
namespace Go.Ce
open Go Go.Proofs Go.Proofs.Tryz
def strs (l:List ByteArray):List Value:=l.map fun s=>Value.string s
theorem zV (s:ByteArray) (W:CW):WX prog 51 1 [(0,.string s)] W=some (.slice (some ⟨W.sz,0,none⟩) 1 1,W.new (.cells (Tr.nil.AZ 0 [.string s]) [Value.string s].length #[] 9)):=by kernel_rfl
theorem z9:GP prog 9=some (.string ⟨#[]⟩):=by kernel_rfl
theorem by9:(prog.info? 9).map (·.bytes)=some 16:=by kernel_rfl
theorem lU (t:List ByteArray) (s:ByteArray):strs (t++[s])=strs t++[.string s]:=by simp [strs]
theorem S_ (t:List ByteArray):(strs t).length=t.length:=by simp [strs]
theorem Y9 {t:List ByteArray} {s:ByteArray}:Ip t (fun x=>decide (x=s))<0↔t.any (fun x=>decide (x=s))=false:=by
 unfold Ip
 cases h:t.findIdx? fun x=>decide (x=s) with
 | none =>
  rw [List.findIdx?_eq_none_iff] at h; simp only [List.any_eq_false]; exact ⟨fun _ x hx=>by rw [h x hx]; simp,fun _=>by omega⟩
 | some i =>
  obtain ⟨h1,h2,_⟩:=List.findIdx?_eq_some_iff_getElem.1 h
  constructor
  ·intro h3; simp only at h3; omega
  ·intro h3; rw [List.any_eq_true.2 ⟨_,List.getElem_mem h1,h2⟩] at h3
   cases h3
end Go.Ce
namespace Go.Ce
open Go Go.Proofs Go.Proofs.Tryz
theorem LL {c:List Af} {y:BR} {n i:Nat} {s:Af} (h:BN c=true) (Y:Y3 c y n i s) {k:Nat} {v:Int} (hx:y.AJ[k]?=some v):(A9 c i k=2∧0≤v∧v≤n)∨(A9 c i k=1∧-1000000000≤v∧v≤1000000000):=by
 have hv:=Y.val k v hx
 have hk:A9 c i k=1∨A9 c i k=2:=o_ h (GG Y.ti) fun he=>by
  have:=JL Y.si he Y.many; have:=(List.getElem?_eq_some_iff.1 hx).1; omega
 unfold Ev at hv
 rcases hk with hk | hk
 ·right; rw [hk] at hv; simp at hv; exact ⟨hk,by omega,by omega⟩
 ·left; rw [hk] at hv; simp at hv; exact ⟨hk,by omega,by omega⟩
end Go.Ce
namespace Go.Ce
open Go Go.Proofs Go.Proofs.Tryz
end Go.Ce
namespace Go.Ce
open Go Go.Proofs Go.Proofs.Tryz
theorem CA (a b:Value):ext (.tuple #[a,b]) 0=some a:=rfl
theorem CB (a b:Value):ext (.tuple #[a,b]) 1=some b:=rfl
theorem gW {c:List Af} {l:List CE} {h:List BR} {root:Int} (hz:o8 c l h root=0):BN c=true∧BZ c l=true∧(¬CG c h≥0)∧0≤root∧root≤h.length:=by
 unfold o8 at hz
 by_cases h1:VM c l≠0
 ·rw [if_pos h1] at hz; exact (h1 hz).elim
 ·rw [if_neg h1] at hz
  by_cases h2:CG c h≥0
  ·rw [if_pos h2] at hz; cases hz
  ·rw [if_neg h2] at hz
   by_cases h3:root<0∨root>h.length
   ·rw [if_pos h3] at hz; cases hz
   ·have h1:VM c l=0:=by omega
    unfold VM at h1
    cases hc:BN c with
    | false=>rw [hc] at h1; simp at h1
    | true =>
     cases hs:BZ c l with
     | false=>rw [hc,hs] at h1; simp at h1
     | true=>exact ⟨rfl,rfl,h2,by omega,by omega⟩
end Go.Ce
namespace Go.Ce
open Go Go.Proofs Go.Proofs.Tryz
def cE (ro:Option Nat) (K:AG):AG:=Aq (fun e ds W=>wV (ld prog 78 (e 4) W) fun FJ=>wV (CP prog 78 (e 2) FJ W) fun W6=>K .ret (Env.of e [(3,(.bool true)),(103,FJ)]) ds W6) K
def TA (ro:Option Nat) (K:AG):AG:=Aq (fun e ds W=>wV (AY prog 22 (e 0) W) fun Sq=>C1 prog AT ro 47 104 (.loop (Ag prog 47 1)) (Env.of e [(83,(.int .i64 0)),(82,Sq),(81,(e 0))]) ds W (BU 2 (cE ro K))) K
theorem zX (v0:Value) (K:AG) (W:CW):AP prog AT none 47 104 (AS prog 47) (Env.args [v0]) [] W K=(CD (GX prog 78 W) fun v2 W0=>CD (qq W0) fun Br W1=>CD (qq W1) fun Dn W2=>wV (RE prog 78 [(0,Br),(1,Dn)]) fun B9=>CD (GX prog 78 W2) fun v4 W3=>wV (CP prog 78 v4 B9 W3) fun W4=>wV (AY prog 22 v0 W4) fun FL=>wV (AQ prog .gtr 3 true FL (.int .i64 100)) fun DI=>wI DI (wV (ld prog 78 v4 W4) fun C3=>wV (CP prog 78 v2 C3 W4) fun W5=>K .ret (Env.of (Env.args [v0]) [(3,(.bool false)),(18,C3),(17,DI),(16,FL),(15,v0),(4,v4),(14,B9),(13,Dn),(12,Br),(3,(.bool false)),(2,v2)]) [] W5) (wV (AY prog 22 v0 W4) fun v20=>C1 prog AT none 47 104 (.loop (Ag prog 47 0)) (Env.of (Env.args [v0]) [(21,(.int .i64 0)),(20,v20),(19,v0),(17,DI),(16,FL),(15,v0),(4,v4),(14,B9),(13,Dn),(12,Br),(3,(.bool false)),(2,v2)]) [] W4 (BU 0 (TA none K)))):=by kernel_rfl
def TB (ro:Option Nat) (K:AG):AG:=Aq (fun e ds W=>wV (AQ prog .add 3 true (e 21) (.int .i64 1)) fun Mc=>K .normal (Env.of e [(21,Mc),(80,Mc)]) ds W) K
def Nx (ro:Option Nat) (K:AG):AG:=Aq (fun e ds W=>wV (A_ prog 78 (e 4) 0) fun LA=>wV (ld prog 75 LA W) fun L_=>wV (A_ prog 48 (e 6) 0) fun M'=>wV (ld prog 9 M' W) fun Yh=>wV (ld prog 48 (e 6) W) fun QH=>wV (aC prog 75 L_ Yh QH W) fun NB=>(TB ro K) .normal (Env.of e [(79,QH),(78,Yh),(77,M'),(76,L_),(75,LA)]) ds NB) (BU 1 (TB ro K))
def IT (ro:Option Nat) (K:AG):AG:=Aq (fun e ds W=>wI (e 73) (wV (ld prog 78 (e 4) W) fun gJ=>wV (CP prog 78 (e 2) gJ W) fun Lf=>(Nx ro K) .ret (Env.of e [(3,(.bool false)),(74,gJ)]) ds Lf) ((Nx ro K) .normal e ds W)) (Nx ro K)
def J9 (ro:Option Nat) (K:AG):AG:=Aq (fun e ds W=>wV (A_ prog 48 (e 6) 0) fun FC=>wV (ld prog 9 FC W) fun GJ=>AH prog AT 101 [GJ] W (AV (fun Iv C0=>wV (KO Iv) fun F2=>wI F2 ((((True)∧ld prog 9 FC W=some GJ)∧True)∧True∧(IT ro K) .normal (Env.of e [(73,(.bool true)),(72,undef),(68,(.bool true)),(71,undef),(68,(.bool true)),(70,undef),(68,(.bool true)),(69,undef),(68,(.bool true)),(68,(.bool true)),(67,(.bool true)),(66,undef),(64,(.bool true)),(65,undef),(64,(.bool true)),(64,(.bool true)),(63,(.bool true)),(62,undef),(49,(.bool true)),(61,undef),(60,undef),(59,undef),(58,undef),(57,undef),(56,undef),(55,undef),(54,undef),(53,undef),(52,undef),(49,(.bool true)),(51,undef),(49,(.bool true)),(50,undef),(49,(.bool true)),(49,F2),(48,F2),(47,Iv),(46,GJ),(45,FC)]) ds C0) (wV (AQ prog .gtr 3 true (e 5) (.int .i64 0)) fun EZ=>wI EZ (wV (AQ prog .sub 3 true (e 5) (.int .i64 1)) fun MC=>wV (Dz prog 22 (e 0) MC) fun EU=>wV (A_ prog 48 EU 0) fun Mb=>wV (ld prog 9 Mb C0) fun JZ=>wV (A_ prog 48 (e 6) 0) fun Jp=>wV (ld prog 9 Jp C0) fun GO=>wV (AQ prog .geq 9 false JZ GO) fun GR=>wI GR ((((ld prog 9 Jp C0=some GO)∧True)∧(((ld prog 9 Mb C0=some JZ)∧True)∧(((True)∧ld prog 9 FC W=some GJ)∧True)))∧True∧(IT ro K) .normal (Env.of e [(73,(.bool true)),(72,undef),(68,(.bool true)),(71,undef),(68,(.bool true)),(70,undef),(68,(.bool true)),(69,undef),(68,(.bool true)),(68,(.bool true)),(67,(.bool true)),(66,undef),(64,(.bool true)),(65,undef),(64,(.bool true)),(64,GR),(63,GR),(62,GR),(49,(.bool false)),(61,GR),(52,(.bool true)),(60,GO),(52,(.bool true)),(59,Jp),(52,(.bool true)),(58,JZ),(52,(.bool true)),(57,Mb),(52,(.bool true)),(56,EU),(52,(.bool true)),(55,MC),(52,(.bool true)),(54,(e 5)),(52,(.bool true)),(53,(e 0)),(52,(.bool true)),(52,EZ),(49,(.bool false)),(51,EZ),(49,(.bool false)),(50,(e 5)),(49,(.bool false)),(49,F2),(48,F2),(47,Iv),(46,GJ),(45,FC)]) ds C0) (wV (KO (e 7)) fun Fw=>wI Fw ((((ld prog 9 Jp C0=some GO)∧True)∧(((ld prog 9 Mb C0=some JZ)∧True)∧(((True)∧ld prog 9 FC W=some GJ)∧True)))∧True∧(IT ro K) .normal (Env.of e [(73,(.bool true)),(72,undef),(68,(.bool true)),(71,undef),(68,(.bool true)),(70,undef),(68,(.bool true)),(69,undef),(68,(.bool true)),(68,Fw),(67,Fw),(66,Fw),(64,(.bool false)),(65,(e 7)),(64,(.bool false)),(64,GR),(63,GR),(62,GR),(49,(.bool false)),(61,GR),(52,(.bool true)),(60,GO),(52,(.bool true)),(59,Jp),(52,(.bool true)),(58,JZ),(52,(.bool true)),(57,Mb),(52,(.bool true)),(56,EU),(52,(.bool true)),(55,MC),(52,(.bool true)),(54,(e 5)),(52,(.bool true)),(53,(e 0)),(52,(.bool true)),(52,EZ),(49,(.bool false)),(51,EZ),(49,(.bool false)),(50,(e 5)),(49,(.bool false)),(49,F2),(48,F2),(47,Iv),(46,GJ),(45,FC)]) ds C0) (wV (A_ prog 48 (e 6) 2) fun Jq=>wV (ld prog 45 Jq C0) fun My=>wV (AY prog 45 My C0) fun QG=>wV (AQ prog .gtr 3 true QG (.int .i64 20)) fun RI=>(((AY prog 45 My C0=some QG)∧True)∧(((ld prog 45 Jq C0=some My)∧True)∧(((ld prog 9 Jp C0=some GO)∧True)∧(((ld prog 9 Mb C0=some JZ)∧True)∧(((True)∧ld prog 9 FC W=some GJ)∧True)))))∧True∧(IT ro K) .normal (Env.of e [(73,RI),(72,RI),(68,(.bool false)),(71,QG),(68,(.bool false)),(70,My),(68,(.bool false)),(69,Jq),(68,(.bool false)),(68,Fw),(67,Fw),(66,Fw),(64,(.bool false)),(65,(e 7)),(64,(.bool false)),(64,GR),(63,GR),(62,GR),(49,(.bool false)),(61,GR),(52,(.bool true)),(60,GO),(52,(.bool true)),(59,Jp),(52,(.bool true)),(58,JZ),(52,(.bool true)),(57,Mb),(52,(.bool true)),(56,EU),(52,(.bool true)),(55,MC),(52,(.bool true)),(54,(e 5)),(52,(.bool true)),(53,(e 0)),(52,(.bool true)),(52,EZ),(49,(.bool false)),(51,EZ),(49,(.bool false)),(50,(e 5)),(49,(.bool false)),(49,F2),(48,F2),(47,Iv),(46,GJ),(45,FC)]) ds C0))) (wV (KO (e 7)) fun Fw=>wI Fw ((((True)∧ld prog 9 FC W=some GJ)∧True)∧True∧(IT ro K) .normal (Env.of e [(73,(.bool true)),(72,undef),(68,(.bool true)),(71,undef),(68,(.bool true)),(70,undef),(68,(.bool true)),(69,undef),(68,(.bool true)),(68,Fw),(67,Fw),(66,Fw),(64,(.bool false)),(65,(e 7)),(64,(.bool false)),(64,(.bool false)),(63,(.bool false)),(62,(.bool false)),(49,(.bool false)),(61,undef),(52,(.bool false)),(60,undef),(52,(.bool false)),(59,undef),(52,(.bool false)),(58,undef),(52,(.bool false)),(57,undef),(52,(.bool false)),(56,undef),(52,(.bool false)),(55,undef),(52,(.bool false)),(54,undef),(52,(.bool false)),(53,undef),(52,(.bool false)),(52,EZ),(49,(.bool false)),(51,EZ),(49,(.bool false)),(50,(e 5)),(49,(.bool false)),(49,F2),(48,F2),(47,Iv),(46,GJ),(45,FC)]) ds C0) (wV (A_ prog 48 (e 6) 2) fun Jq=>wV (ld prog 45 Jq C0) fun My=>wV (AY prog 45 My C0) fun QG=>wV (AQ prog .gtr 3 true QG (.int .i64 20)) fun RI=>(((AY prog 45 My C0=some QG)∧True)∧(((ld prog 45 Jq C0=some My)∧True)∧(((True)∧ld prog 9 FC W=some GJ)∧True)))∧True∧(IT ro K) .normal (Env.of e [(73,RI),(72,RI),(68,(.bool false)),(71,QG),(68,(.bool false)),(70,My),(68,(.bool false)),(69,Jq),(68,(.bool false)),(68,Fw),(67,Fw),(66,Fw),(64,(.bool false)),(65,(e 7)),(64,(.bool false)),(64,(.bool false)),(63,(.bool false)),(62,(.bool false)),(49,(.bool false)),(61,undef),(52,(.bool false)),(60,undef),(52,(.bool false)),(59,undef),(52,(.bool false)),(58,undef),(52,(.bool false)),(57,undef),(52,(.bool false)),(56,undef),(52,(.bool false)),(55,undef),(52,(.bool false)),(54,undef),(52,(.bool false)),(53,undef),(52,(.bool false)),(52,EZ),(49,(.bool false)),(51,EZ),(49,(.bool false)),(50,(e 5)),(49,(.bool false)),(49,F2),(48,F2),(47,Iv),(46,GJ),(45,FC)]) ds C0)))) (fun yx VA=>False))) (BU 1 (TB ro K))
theorem uC (ro:Option Nat) (e:Env) (ds:List Deferred) (K:AG) (W:CW):AP prog AT ro 47 104 (Ag prog 47 0) e ds W K=(wV (AQ prog .lss 3 false (e 21) (e 20)) fun Fy=>wI Fy (wV (Dz prog 22 (e 19) (e 21)) fun E0=>wV (ld prog 48 E0 W) fun EB=>CD (GX prog 48 W) fun v6 QF=>wV (CP prog 48 v6 EB QF) fun C'=>wV (A_ prog 48 v6 3) fun Fz=>wV (ld prog 5 Fz C') fun D4=>wV (AQ prog .eql 5 true D4 (.int .u8 0)) fun CQ=>wI CQ ((J9 ro K) .normal (Env.of e [(7,(.bool true)),(44,(.bool true)),(43,undef),(29,(.bool true)),(42,undef),(41,undef),(40,undef),(39,undef),(38,undef),(29,(.bool true)),(37,undef),(29,(.bool true)),(36,undef),(35,undef),(34,undef),(33,undef),(29,(.bool true)),(32,undef),(29,(.bool true)),(31,undef),(29,(.bool true)),(30,undef),(29,(.bool true)),(29,CQ),(28,CQ),(27,D4),(26,Fz),(5,(e 21)),(6,v6),(25,EB),(24,E0),(23,(e 21)),(22,Fy)]) ds C') (wV (A_ prog 48 v6 3) fun v30=>wV (ld prog 5 v30 C') fun EM=>AH prog AT 100 [EM] C' (AV (fun E4 Im=>wI E4 (wV (A_ prog 48 v6 1) fun GK=>wV (ld prog 9 GK Im) fun EL=>wV (AQ prog .eql 9 true EL (.string ⟨#[]⟩)) fun H8=>wI H8 (wV (A_ prog 48 v6 2) fun G0=>wV (ld prog 45 G0 Im) fun E3=>wV (AY prog 45 E3 Im) fun EO=>wV (AQ prog .eql 3 true EO (.int .i64 0)) fun G9=>(J9 ro K) .normal (Env.of e [(7,G9),(44,G9),(43,G9),(29,(.bool false)),(42,G9),(38,(.bool true)),(41,EO),(38,(.bool true)),(40,E3),(38,(.bool true)),(39,G0),(38,(.bool true)),(38,H8),(29,(.bool false)),(37,H8),(29,(.bool false)),(36,H8),(33,(.bool true)),(35,EL),(33,(.bool true)),(34,GK),(33,(.bool true)),(33,E4),(29,(.bool false)),(32,E4),(29,(.bool false)),(31,EM),(29,(.bool false)),(30,v30),(29,(.bool false)),(29,CQ),(28,CQ),(27,D4),(26,Fz),(5,(e 21)),(6,v6),(25,EB),(24,E0),(23,(e 21)),(22,Fy)]) ds Im) ((J9 ro K) .normal (Env.of e [(7,(.bool false)),(44,(.bool false)),(43,(.bool false)),(29,(.bool false)),(42,undef),(38,(.bool false)),(41,undef),(38,(.bool false)),(40,undef),(38,(.bool false)),(39,undef),(38,(.bool false)),(38,H8),(29,(.bool false)),(37,H8),(29,(.bool false)),(36,H8),(33,(.bool true)),(35,EL),(33,(.bool true)),(34,GK),(33,(.bool true)),(33,E4),(29,(.bool false)),(32,E4),(29,(.bool false)),(31,EM),(29,(.bool false)),(30,v30),(29,(.bool false)),(29,CQ),(28,CQ),(27,D4),(26,Fz),(5,(e 21)),(6,v6),(25,EB),(24,E0),(23,(e 21)),(22,Fy)]) ds Im)) ((J9 ro K) .normal (Env.of e [(7,(.bool false)),(44,(.bool false)),(43,(.bool false)),(29,(.bool false)),(42,undef),(38,(.bool false)),(41,undef),(38,(.bool false)),(40,undef),(38,(.bool false)),(39,undef),(38,(.bool false)),(38,(.bool false)),(29,(.bool false)),(37,(.bool false)),(29,(.bool false)),(36,undef),(33,(.bool false)),(35,undef),(33,(.bool false)),(34,undef),(33,(.bool false)),(33,E4),(29,(.bool false)),(32,E4),(29,(.bool false)),(31,EM),(29,(.bool false)),(30,v30),(29,(.bool false)),(29,CQ),(28,CQ),(27,D4),(26,Fz),(5,(e 21)),(6,v6),(25,EB),(24,E0),(23,(e 21)),(22,Fy)]) ds Im)) (fun UX QW=>(J9 ro K) (.panic UX) (Env.of e [(29,(.bool false)),(31,EM),(29,(.bool false)),(30,v30),(29,(.bool false)),(29,CQ),(28,CQ),(27,D4),(26,Fz),(5,(e 21)),(6,v6),(25,EB),(24,E0),(23,(e 21)),(22,Fy)]) ds QW)))) (K (.exit 0) (Env.of e [(22,Fy)]) ds W)):=by kernel_rfl
def Ny (ro:Option Nat) (K:AG):AG:=Aq (fun e ds W=>wV (AQ prog .add 3 true (e 83) (.int .i64 1)) fun Fi=>K .normal (Env.of e [(83,Fi),(102,Fi)]) ds W) K
theorem uD (ro:Option Nat) (e:Env) (ds:List Deferred) (K:AG) (W:CW):AP prog AT ro 47 104 (Ag prog 47 1) e ds W K=(wV (AQ prog .lss 3 false (e 83) (e 82)) fun NC=>wI NC (wV (Dz prog 22 (e 81) (e 83)) fun M_=>wV (ld prog 48 M_ W) fun Wg=>CD (GX prog 48 W) fun v9 nb=>wV (CP prog 48 v9 Wg nb) fun jH=>wV (ld prog 78 (e 4) jH) fun RN=>wV (A_ prog 48 v9 0) fun T_=>wV (ld prog 9 T_ jH) fun RO=>AH prog AT 102 [RN,RO] jH (AV (fun No bZ=>wV (ext No 0) fun RK=>wV (ext No 1) fun UA=>wV (KO UA) fun L9=>wI L9 (wV (ld prog 78 (e 4) bZ) fun Ma=>wV (CP prog 78 (e 2) Ma bZ) fun gH=>(Ny ro K) .ret (Env.of e [(3,(.bool false)),(96,Ma),(95,L9),(94,UA),(11,UA),(10,RK),(93,UA),(92,RK),(87,No),(91,No),(90,RO),(89,T_),(88,RN),(9,v9),(86,Wg),(85,M_),(84,NC)]) ds gH) (wV (A_ prog 78 (e 4) 1) fun xP=>wV (ld prog 76 xP bZ) fun gK=>wV (A_ prog 48 v9 0) fun Xk=>wV (ld prog 9 Xk bZ) fun Gt=>wV (aC prog 76 gK Gt RK bZ) fun QX=>(Ny ro K) .normal (Env.of e [(101,RK),(100,Gt),(99,Xk),(98,gK),(97,xP),(95,L9),(94,UA),(11,UA),(10,RK),(93,UA),(92,RK),(87,No),(91,No),(90,RO),(89,T_),(88,RN),(9,v9),(86,Wg),(85,M_),(84,NC)]) ds QX)) (fun ABy Wh=>(Ny ro K) (.panic ABy) (Env.of e [(90,RO),(89,T_),(88,RN),(9,v9),(86,Wg),(85,M_),(84,NC)]) ds Wh))) (K (.exit 2) (Env.of e [(84,NC)]) ds W)):=by kernel_rfl
theorem zY {Q:Ending→CW→Prop} {v0:Value} {W:CW} (h:AP prog AT none 47 104 (AS prog 47) (Env.args [v0]) [] W (AK prog Tryz.f47 Q)):AH prog AT 47 [v0] W Q:=Ab Tryz.func47 (by kernel_rfl) (by kernel_rfl) (by kernel_rfl) (by kernel_rfl) (by kernel_rfl) h
def cF (ro:Option Nat) (K:AG):AG:=Aq (fun e ds W=>wV (ld prog 83 (e 6) W) fun zZ=>wV (CP prog 83 (e 4) zZ W) fun W7=>K .ret (Env.of e [(5,(.bool true)),(178,zZ)]) ds W7) K
def O0 (ro:Option Nat) (K:AG):AG:=Aq (fun e ds W=>wV (AY prog 23 (e 1) W) fun ABz=>C1 prog AT ro 48 179 (.loop (Ag prog 48 2)) (Env.of e [(163,(.int .i64 0)),(162,ABz),(161,(e 1))]) ds W (BU 4 (cF ro K))) K
theorem za (v0 v1:Value) (K:AG) (W:CW):AP prog AT none 48 179 (AS prog 48) (Env.args [v0,v1]) [] W K=(CD (QU prog 78 v0 W) fun v2 W0=>CD (GX prog 83 W0) fun v4 W1=>CD (qq W1) fun Fy W2=>CD (qq W2) fun EV W3=>wV (RE prog 83 [(0,Fy),(1,EV)]) fun E0=>CD (GX prog 83 W3) fun v6 W4=>wV (CP prog 83 v6 E0 W4) fun W5=>wV (AY prog 23 v1 W5) fun Fz=>wV (AQ prog .gtr 3 true Fz (.int .i64 20)) fun D4=>wI D4 (wV (ld prog 83 v6 W5) fun CQ=>wV (CP prog 83 v4 CQ W5) fun W6=>K .ret (Env.of (Env.args [v0,v1]) [(5,(.bool false)),(28,CQ),(27,D4),(26,Fz),(25,v1),(6,v6),(24,E0),(23,EV),(22,Fy),(5,(.bool false)),(4,v4),(2,v2)]) [] W6) (wV (AY prog 23 v1 W5) fun v30=>C1 prog AT none 48 179 (.loop (Ag prog 48 0)) (Env.of (Env.args [v0,v1]) [(31,(.int .i64 0)),(30,v30),(29,v1),(27,D4),(26,Fz),(25,v1),(6,v6),(24,E0),(23,EV),(22,Fy),(5,(.bool false)),(4,v4),(2,v2)]) [] W5 (BU 0 (O0 none K)))):=by kernel_rfl
def IU (ro:Option Nat) (K:AG):AG:=Aq (fun e ds W=>wV (AQ prog .add 3 true (e 31) (.int .i64 1)) fun zb=>K .normal (Env.of e [(31,zb),(160,zb)]) ds W) K
def XF (ro:Option Nat) (K:AG):AG:=Aq (fun e ds W=>wV (A_ prog 83 (e 6) 0) fun uE=>wV (ld prog 81 uE W) fun uF=>wV (A_ prog 58 (e 8) 0) fun uG=>wV (ld prog 9 uG W) fun uH=>wV (A_ prog 83 (e 6) 1) fun pA=>wV (ld prog 81 pA W) fun pB=>wV (A_ prog 58 (e 8) 1) fun pC=>wV (ld prog 9 pC W) fun pD=>wV (ld prog 58 (e 8) W) fun uI=>wV (ld prog 58 (e 8) W) fun pE=>wV (aC prog 81 uF uH uI W) fun QW=>wV (aC prog 81 pB pD pE QW) fun gG=>(((True)∧((ld prog 58 (e 8) QW=some pE)∧ld prog 58 (e 8) W=some pE))∧(((True)∧((True)∧ld prog 58 (e 8) W=some uI))∧(((True)∧((ld prog 9 pC QW=some pD)∧ld prog 9 pC W=some pD))∧(((True)∧((ld prog 81 pA QW=some pB)∧ld prog 81 pA W=some pB))∧(((True)∧((True)∧ld prog 9 uG W=some uH))∧(((True)∧((True)∧ld prog 81 uE W=some uF))∧True))))))∧True∧(IU ro K) .normal (Env.of e [(159,pE),(158,uI),(157,pD),(156,pC),(155,pB),(154,pA),(153,uH),(152,uG),(151,uF),(150,uE)]) ds gG) (BU 1 (IU ro K))
def Nz (ro:Option Nat) (K:AG):AG:=Aq (fun e ds W=>wV (A_ prog 83 (e 6) 1) fun xP=>wV (ld prog 81 xP W) fun gK=>wV (A_ prog 58 (e 8) 1) fun Xk=>wV (ld prog 9 Xk W) fun Gt=>wV (HB prog 81 gK Gt true W) fun HM=>wV (ext HM 0) fun Fi=>wV (ext HM 1) fun FJ=>CD (GX prog 58 W) fun Dn VA=>wV (CP prog 58 Dn Fi VA) fun KX=>wI FJ (wV (ld prog 83 (e 6) KX) fun Yi=>wV (CP prog 83 (e 4) Yi KX) fun Im=>(IU ro K) .ret (Env.of e [(5,(.bool false)),(105,Yi),(104,FJ),(14,FJ),(13,Dn),(103,FJ),(102,Fi),(96,HM),(101,HM),(100,Gt),(99,Xk),(98,gK),(97,xP)]) ds Im) (wV (A_ prog 58 (e 8) 2) fun JC=>wV (ld prog 40 JC KX) fun gX=>wV (AY prog 40 gX KX) fun Wm=>C1 prog AT ro 48 179 (.loop (Ag prog 48 1)) (Env.of e [(109,(.int .i64 0)),(108,Wm),(107,gX),(106,JC),(104,FJ),(14,FJ),(13,Dn),(103,FJ),(102,Fi),(96,HM),(101,HM),(100,Gt),(99,Xk),(98,gK),(97,xP)]) ds KX (BU 2 (XF ro K)))) (BU 1 (IU ro K))
def HR (ro:Option Nat) (K:AG):AG:=Aq (fun e ds W=>wI (e 94) (wV (ld prog 83 (e 6) W) fun L9=>wV (CP prog 83 (e 4) L9 W) fun bZ=>(Nz ro K) .ret (Env.of e [(5,(.bool false)),(95,L9)]) ds bZ) ((Nz ro K) .normal e ds W)) (Nz ro K)
theorem uJ (ro:Option Nat) (e:Env) (ds:List Deferred) (K:AG) (W:CW):AP prog AT ro 48 179 (Ag prog 48 0) e ds W K=(wV (AQ prog .lss 3 false (e 31) (e 30)) fun E4=>wI E4 (wV (Dz prog 23 (e 29) (e 31)) fun GK=>wV (ld prog 58 GK W) fun EL=>CD (GX prog 58 W) fun v8 C'=>wV (CP prog 58 v8 EL C') fun NB=>wV (A_ prog 78 (e 2) 0) fun EK=>wV (ld prog 75 EK NB) fun IQ=>wV (A_ prog 58 v8 0) fun G0=>wV (ld prog 9 G0 NB) fun E3=>wV (HB prog 75 IQ E3 true NB) fun EO=>wV (ext EO 0) fun G9=>wV (ext EO 1) fun D9=>CD (GX prog 48 NB) fun v9 bX=>wV (CP prog 48 v9 G9 bX) fun Lf=>wV (A_ prog 78 (e 2) 0) fun FC=>wV (ld prog 75 FC Lf) fun GJ=>wV (A_ prog 58 v8 1) fun Iv=>wV (ld prog 9 Iv Lf) fun F2=>wV (HB prog 75 GJ F2 true Lf) fun Fx=>wV (ext Fx 0) fun GZ=>wV (ext Fx 1) fun EZ=>CD (GX prog 48 Lf) fun v11 UY=>wV (CP prog 48 v11 GZ UY) fun C0=>wV (KO D9) fun FD=>wI FD (True∧True∧(HR ro K) .normal (Env.of e [(94,(.bool true)),(93,undef),(83,(.bool true)),(92,undef),(83,(.bool true)),(91,undef),(83,(.bool true)),(90,undef),(83,(.bool true)),(89,undef),(83,(.bool true)),(88,undef),(83,(.bool true)),(87,undef),(83,(.bool true)),(86,undef),(83,(.bool true)),(85,undef),(83,(.bool true)),(84,undef),(83,(.bool true)),(83,(.bool true)),(82,(.bool true)),(81,undef),(68,(.bool true)),(80,undef),(79,undef),(78,undef),(77,undef),(76,undef),(75,undef),(74,undef),(73,undef),(72,undef),(71,undef),(68,(.bool true)),(70,undef),(68,(.bool true)),(69,undef),(68,(.bool true)),(68,(.bool true)),(67,(.bool true)),(66,undef),(63,(.bool true)),(65,undef),(63,(.bool true)),(64,undef),(63,(.bool true)),(63,(.bool true)),(62,(.bool true)),(61,undef),(58,(.bool true)),(60,undef),(58,(.bool true)),(59,undef),(58,(.bool true)),(58,(.bool true)),(57,(.bool true)),(56,undef),(54,(.bool true)),(55,undef),(54,(.bool true)),(54,FD),(53,FD),(52,D9),(12,EZ),(11,v11),(51,EZ),(50,GZ),(44,Fx),(49,Fx),(48,F2),(47,Iv),(46,GJ),(45,FC),(10,D9),(9,v9),(43,D9),(42,G9),(36,EO),(41,EO),(40,E3),(39,G0),(38,IQ),(37,EK),(7,(e 31)),(8,v8),(35,EL),(34,GK),(33,(e 31)),(32,E4)]) ds C0) (wV (KO EZ) fun EU=>wI EU (True∧True∧(HR ro K) .normal (Env.of e [(94,(.bool true)),(93,undef),(83,(.bool true)),(92,undef),(83,(.bool true)),(91,undef),(83,(.bool true)),(90,undef),(83,(.bool true)),(89,undef),(83,(.bool true)),(88,undef),(83,(.bool true)),(87,undef),(83,(.bool true)),(86,undef),(83,(.bool true)),(85,undef),(83,(.bool true)),(84,undef),(83,(.bool true)),(83,(.bool true)),(82,(.bool true)),(81,undef),(68,(.bool true)),(80,undef),(79,undef),(78,undef),(77,undef),(76,undef),(75,undef),(74,undef),(73,undef),(72,undef),(71,undef),(68,(.bool true)),(70,undef),(68,(.bool true)),(69,undef),(68,(.bool true)),(68,(.bool true)),(67,(.bool true)),(66,undef),(63,(.bool true)),(65,undef),(63,(.bool true)),(64,undef),(63,(.bool true)),(63,(.bool true)),(62,(.bool true)),(61,undef),(58,(.bool true)),(60,undef),(58,(.bool true)),(59,undef),(58,(.bool true)),(58,EU),(57,EU),(56,EU),(54,(.bool false)),(55,EZ),(54,(.bool false)),(54,FD),(53,FD),(52,D9),(12,EZ),(11,v11),(51,EZ),(50,GZ),(44,Fx),(49,Fx),(48,F2),(47,Iv),(46,GJ),(45,FC),(10,D9),(9,v9),(43,D9),(42,G9),(36,EO),(41,EO),(40,E3),(39,G0),(38,IQ),(37,EK),(7,(e 31)),(8,v8),(35,EL),(34,GK),(33,(e 31)),(32,E4)]) ds C0) (wV (A_ prog 48 v9 3) fun Jp=>wV (ld prog 5 Jp C0) fun GO=>wV (AQ prog .neq 5 true GO (.int .u8 0)) fun GR=>wI GR ((ld prog 5 Jp C0=some GO∧True)∧True∧(HR ro K) .normal (Env.of e [(94,(.bool true)),(93,undef),(83,(.bool true)),(92,undef),(83,(.bool true)),(91,undef),(83,(.bool true)),(90,undef),(83,(.bool true)),(89,undef),(83,(.bool true)),(88,undef),(83,(.bool true)),(87,undef),(83,(.bool true)),(86,undef),(83,(.bool true)),(85,undef),(83,(.bool true)),(84,undef),(83,(.bool true)),(83,(.bool true)),(82,(.bool true)),(81,undef),(68,(.bool true)),(80,undef),(79,undef),(78,undef),(77,undef),(76,undef),(75,undef),(74,undef),(73,undef),(72,undef),(71,undef),(68,(.bool true)),(70,undef),(68,(.bool true)),(69,undef),(68,(.bool true)),(68,(.bool true)),(67,(.bool true)),(66,undef),(63,(.bool true)),(65,undef),(63,(.bool true)),(64,undef),(63,(.bool true)),(63,GR),(62,GR),(61,GR),(58,(.bool false)),(60,GO),(58,(.bool false)),(59,Jp),(58,(.bool false)),(58,EU),(57,EU),(56,EU),(54,(.bool false)),(55,EZ),(54,(.bool false)),(54,FD),(53,FD),(52,D9),(12,EZ),(11,v11),(51,EZ),(50,GZ),(44,Fx),(49,Fx),(48,F2),(47,Iv),(46,GJ),(45,FC),(10,D9),(9,v9),(43,D9),(42,G9),(36,EO),(41,EO),(40,E3),(39,G0),(38,IQ),(37,EK),(7,(e 31)),(8,v8),(35,EL),(34,GK),(33,(e 31)),(32,E4)]) ds C0) (wV (A_ prog 48 v11 3) fun GY=>wV (ld prog 5 GY C0) fun KQ=>wV (AQ prog .neq 5 true KQ (.int .u8 0)) fun Fw=>wI Fw ((ld prog 5 GY C0=some KQ∧(ld prog 5 Jp C0=some GO∧True))∧True∧(HR ro K) .normal (Env.of e [(94,(.bool true)),(93,undef),(83,(.bool true)),(92,undef),(83,(.bool true)),(91,undef),(83,(.bool true)),(90,undef),(83,(.bool true)),(89,undef),(83,(.bool true)),(88,undef),(83,(.bool true)),(87,undef),(83,(.bool true)),(86,undef),(83,(.bool true)),(85,undef),(83,(.bool true)),(84,undef),(83,(.bool true)),(83,(.bool true)),(82,(.bool true)),(81,undef),(68,(.bool true)),(80,undef),(79,undef),(78,undef),(77,undef),(76,undef),(75,undef),(74,undef),(73,undef),(72,undef),(71,undef),(68,(.bool true)),(70,undef),(68,(.bool true)),(69,undef),(68,(.bool true)),(68,Fw),(67,Fw),(66,Fw),(63,(.bool false)),(65,KQ),(63,(.bool false)),(64,GY),(63,(.bool false)),(63,GR),(62,GR),(61,GR),(58,(.bool false)),(60,GO),(58,(.bool false)),(59,Jp),(58,(.bool false)),(58,EU),(57,EU),(56,EU),(54,(.bool false)),(55,EZ),(54,(.bool false)),(54,FD),(53,FD),(52,D9),(12,EZ),(11,v11),(51,EZ),(50,GZ),(44,Fx),(49,Fx),(48,F2),(47,Iv),(46,GJ),(45,FC),(10,D9),(9,v9),(43,D9),(42,G9),(36,EO),(41,EO),(40,E3),(39,G0),(38,IQ),(37,EK),(7,(e 31)),(8,v8),(35,EL),(34,GK),(33,(e 31)),(32,E4)]) ds C0) (wV (AQ prog .gtr 3 true (e 31) (.int .i64 0)) fun My=>wI My (wV (AQ prog .sub 3 true (e 31) (.int .i64 1)) fun gJ=>wV (Dz prog 23 (e 1) gJ) fun LA=>wV (A_ prog 58 LA 0) fun L_=>wV (ld prog 9 L_ C0) fun M'=>wV (A_ prog 58 v8 0) fun Yh=>wV (ld prog 9 Yh C0) fun QH=>wV (AQ prog .geq 9 false M' QH) fun Mc=>wI Mc ((ld prog 9 Yh C0=some QH∧(ld prog 9 L_ C0=some M'∧(ld prog 5 GY C0=some KQ∧(ld prog 5 Jp C0=some GO∧True))))∧True∧(HR ro K) .normal (Env.of e [(94,(.bool true)),(93,undef),(83,(.bool true)),(92,undef),(83,(.bool true)),(91,undef),(83,(.bool true)),(90,undef),(83,(.bool true)),(89,undef),(83,(.bool true)),(88,undef),(83,(.bool true)),(87,undef),(83,(.bool true)),(86,undef),(83,(.bool true)),(85,undef),(83,(.bool true)),(84,undef),(83,(.bool true)),(83,Mc),(82,Mc),(81,Mc),(68,(.bool false)),(80,Mc),(71,(.bool true)),(79,QH),(71,(.bool true)),(78,Yh),(71,(.bool true)),(77,M'),(71,(.bool true)),(76,L_),(71,(.bool true)),(75,LA),(71,(.bool true)),(74,gJ),(71,(.bool true)),(73,(e 31)),(71,(.bool true)),(72,(e 1)),(71,(.bool true)),(71,My),(68,(.bool false)),(70,My),(68,(.bool false)),(69,(e 31)),(68,(.bool false)),(68,Fw),(67,Fw),(66,Fw),(63,(.bool false)),(65,KQ),(63,(.bool false)),(64,GY),(63,(.bool false)),(63,GR),(62,GR),(61,GR),(58,(.bool false)),(60,GO),(58,(.bool false)),(59,Jp),(58,(.bool false)),(58,EU),(57,EU),(56,EU),(54,(.bool false)),(55,EZ),(54,(.bool false)),(54,FD),(53,FD),(52,D9),(12,EZ),(11,v11),(51,EZ),(50,GZ),(44,Fx),(49,Fx),(48,F2),(47,Iv),(46,GJ),(45,FC),(10,D9),(9,v9),(43,D9),(42,G9),(36,EO),(41,EO),(40,E3),(39,G0),(38,IQ),(37,EK),(7,(e 31)),(8,v8),(35,EL),(34,GK),(33,(e 31)),(32,E4)]) ds C0) (wV (A_ prog 58 v8 2) fun NC=>wV (ld prog 40 NC C0) fun M_=>wV (AY prog 40 M_ C0) fun Wg=>wV (A_ prog 78 (e 2) 1) fun Yn=>wV (ld prog 76 Yn C0) fun RN=>wV (A_ prog 58 v8 1) fun T_=>wV (ld prog 9 T_ C0) fun RO=>wV (HB prog 76 RN RO false C0) fun No=>wV (AY prog 29 No C0) fun RK=>wV (AQ prog .neq 3 false Wg RK) fun UA=>(AY prog 29 No C0=some RK∧(HB prog 76 RN RO false C0=some No∧(ld prog 9 T_ C0=some RO∧(ld prog 76 Yn C0=some RN∧(AY prog 40 M_ C0=some Wg∧(ld prog 40 NC C0=some M_∧(ld prog 9 Yh C0=some QH∧(ld prog 9 L_ C0=some M'∧(ld prog 5 GY C0=some KQ∧(ld prog 5 Jp C0=some GO∧True))))))))))∧True∧(HR ro K) .normal (Env.of e [(94,UA),(93,UA),(83,(.bool false)),(92,RK),(83,(.bool false)),(91,No),(83,(.bool false)),(90,RO),(83,(.bool false)),(89,T_),(83,(.bool false)),(88,RN),(83,(.bool false)),(87,Yn),(83,(.bool false)),(86,Wg),(83,(.bool false)),(85,M_),(83,(.bool false)),(84,NC),(83,(.bool false)),(83,Mc),(82,Mc),(81,Mc),(68,(.bool false)),(80,Mc),(71,(.bool true)),(79,QH),(71,(.bool true)),(78,Yh),(71,(.bool true)),(77,M'),(71,(.bool true)),(76,L_),(71,(.bool true)),(75,LA),(71,(.bool true)),(74,gJ),(71,(.bool true)),(73,(e 31)),(71,(.bool true)),(72,(e 1)),(71,(.bool true)),(71,My),(68,(.bool false)),(70,My),(68,(.bool false)),(69,(e 31)),(68,(.bool false)),(68,Fw),(67,Fw),(66,Fw),(63,(.bool false)),(65,KQ),(63,(.bool false)),(64,GY),(63,(.bool false)),(63,GR),(62,GR),(61,GR),(58,(.bool false)),(60,GO),(58,(.bool false)),(59,Jp),(58,(.bool false)),(58,EU),(57,EU),(56,EU),(54,(.bool false)),(55,EZ),(54,(.bool false)),(54,FD),(53,FD),(52,D9),(12,EZ),(11,v11),(51,EZ),(50,GZ),(44,Fx),(49,Fx),(48,F2),(47,Iv),(46,GJ),(45,FC),(10,D9),(9,v9),(43,D9),(42,G9),(36,EO),(41,EO),(40,E3),(39,G0),(38,IQ),(37,EK),(7,(e 31)),(8,v8),(35,EL),(34,GK),(33,(e 31)),(32,E4)]) ds C0)) (wV (A_ prog 58 v8 2) fun NC=>wV (ld prog 40 NC C0) fun M_=>wV (AY prog 40 M_ C0) fun Wg=>wV (A_ prog 78 (e 2) 1) fun Yn=>wV (ld prog 76 Yn C0) fun RN=>wV (A_ prog 58 v8 1) fun T_=>wV (ld prog 9 T_ C0) fun RO=>wV (HB prog 76 RN RO false C0) fun No=>wV (AY prog 29 No C0) fun RK=>wV (AQ prog .neq 3 false Wg RK) fun UA=>(AY prog 29 No C0=some RK∧(HB prog 76 RN RO false C0=some No∧(ld prog 9 T_ C0=some RO∧(ld prog 76 Yn C0=some RN∧(AY prog 40 M_ C0=some Wg∧(ld prog 40 NC C0=some M_∧(ld prog 5 GY C0=some KQ∧(ld prog 5 Jp C0=some GO∧True))))))))∧True∧(HR ro K) .normal (Env.of e [(94,UA),(93,UA),(83,(.bool false)),(92,RK),(83,(.bool false)),(91,No),(83,(.bool false)),(90,RO),(83,(.bool false)),(89,T_),(83,(.bool false)),(88,RN),(83,(.bool false)),(87,Yn),(83,(.bool false)),(86,Wg),(83,(.bool false)),(85,M_),(83,(.bool false)),(84,NC),(83,(.bool false)),(83,(.bool false)),(82,(.bool false)),(81,(.bool false)),(68,(.bool false)),(80,undef),(71,(.bool false)),(79,undef),(71,(.bool false)),(78,undef),(71,(.bool false)),(77,undef),(71,(.bool false)),(76,undef),(71,(.bool false)),(75,undef),(71,(.bool false)),(74,undef),(71,(.bool false)),(73,undef),(71,(.bool false)),(72,undef),(71,(.bool false)),(71,My),(68,(.bool false)),(70,My),(68,(.bool false)),(69,(e 31)),(68,(.bool false)),(68,Fw),(67,Fw),(66,Fw),(63,(.bool false)),(65,KQ),(63,(.bool false)),(64,GY),(63,(.bool false)),(63,GR),(62,GR),(61,GR),(58,(.bool false)),(60,GO),(58,(.bool false)),(59,Jp),(58,(.bool false)),(58,EU),(57,EU),(56,EU),(54,(.bool false)),(55,EZ),(54,(.bool false)),(54,FD),(53,FD),(52,D9),(12,EZ),(11,v11),(51,EZ),(50,GZ),(44,Fx),(49,Fx),(48,F2),(47,Iv),(46,GJ),(45,FC),(10,D9),(9,v9),(43,D9),(42,G9),(36,EO),(41,EO),(40,E3),(39,G0),(38,IQ),(37,EK),(7,(e 31)),(8,v8),(35,EL),(34,GK),(33,(e 31)),(32,E4)]) ds C0)))))) (K (.exit 0) (Env.of e [(32,E4)]) ds W)):=by kernel_rfl
def N0 (ro:Option Nat) (K:AG):AG:=Aq (fun e ds W=>wV (AQ prog .add 3 true (e 109) (.int .i64 1)) fun zc=>K .normal (Env.of e [(109,zc),(149,zc)]) ds W) K
def N1 (ro:Option Nat) (K:AG):AG:=Aq (fun e ds W=>wI (e 147) (wV (ld prog 83 (e 6) W) fun pF=>wV (CP prog 83 (e 4) pF W) fun QX=>(N0 ro K) .ret (Env.of e [(5,(.bool false)),(148,pF)]) ds QX) ((N0 ro K) .normal e ds W)) (BU 3 (N0 ro K))
theorem uK (ro:Option Nat) (e:Env) (ds:List Deferred) (K:AG) (W:CW):AP prog AT ro 48 179 (Ag prog 48 1) e ds W K=(wV (AQ prog .lss 3 false (e 109) (e 108)) fun Jn=>wI Jn (wV (Dz prog 40 (e 107) (e 109)) fun Ue=>wV (ld prog 3 Ue W) fun H_=>wV (A_ prog 78 (e 2) 1) fun Oo=>wV (ld prog 76 Oo W) fun MA=>wV (A_ prog 58 (e 8) 0) fun MB=>wV (ld prog 9 MB W) fun HN=>wV (HB prog 76 MA HN false W) fun Gu=>wV (AY prog 29 Gu W) fun TC=>wV (AQ prog .sub 3 true TC (.int .i64 1)) fun pG=>AH prog AT 103 [H_,(.int .i64 0),pG] W (AV (fun MD aE=>wV (KO MD) fun Jr=>wI Jr ((((True)∧AY prog 29 Gu W=some TC)∧True)∧True∧(N1 ro K) .normal (Env.of e [(147,(.bool true)),(146,undef),(133,(.bool true)),(145,undef),(133,(.bool true)),(144,undef),(133,(.bool true)),(143,undef),(133,(.bool true)),(142,undef),(133,(.bool true)),(141,undef),(133,(.bool true)),(140,undef),(133,(.bool true)),(139,undef),(133,(.bool true)),(138,undef),(133,(.bool true)),(137,undef),(133,(.bool true)),(136,undef),(133,(.bool true)),(135,undef),(133,(.bool true)),(134,undef),(133,(.bool true)),(133,(.bool true)),(132,(.bool true)),(131,undef),(125,(.bool true)),(130,undef),(125,(.bool true)),(129,undef),(125,(.bool true)),(128,undef),(125,(.bool true)),(127,undef),(125,(.bool true)),(126,undef),(125,(.bool true)),(125,Jr),(124,Jr),(123,MD),(122,pG),(121,TC),(120,Gu),(119,H_),(17,Gu),(118,Gu),(117,HN),(116,MB),(115,MA),(114,Oo),(16,H_),(15,(e 109)),(113,H_),(112,Ue),(111,(e 109)),(110,Jn)]) ds aE) (wV (A_ prog 58 (e 8) 2) fun XG=>wV (ld prog 40 XG aE) fun LC=>wV (eF prog 40 LC none (some (e 109)) none aE) fun Mz=>AH prog AT 104 [Mz,H_] aE (AV (fun ME Xl=>wI ME ((((True)∧((eF prog 40 LC none (some (e 109)) none aE=some Mz)∧True))∧(((True)∧((ld prog 40 XG aE=some LC)∧True))∧(((True)∧((True)∧AY prog 29 Gu W=some TC))∧True)))∧True∧(N1 ro K) .normal (Env.of e [(147,(.bool true)),(146,undef),(133,(.bool true)),(145,undef),(133,(.bool true)),(144,undef),(133,(.bool true)),(143,undef),(133,(.bool true)),(142,undef),(133,(.bool true)),(141,undef),(133,(.bool true)),(140,undef),(133,(.bool true)),(139,undef),(133,(.bool true)),(138,undef),(133,(.bool true)),(137,undef),(133,(.bool true)),(136,undef),(133,(.bool true)),(135,undef),(133,(.bool true)),(134,undef),(133,(.bool true)),(133,ME),(132,ME),(131,ME),(125,(.bool false)),(130,H_),(125,(.bool false)),(129,Mz),(125,(.bool false)),(128,(e 109)),(125,(.bool false)),(127,LC),(125,(.bool false)),(126,XG),(125,(.bool false)),(125,Jr),(124,Jr),(123,MD),(122,pG),(121,TC),(120,Gu),(119,H_),(17,Gu),(118,Gu),(117,HN),(116,MB),(115,MA),(114,Oo),(16,H_),(15,(e 109)),(113,H_),(112,Ue),(111,(e 109)),(110,Jn)]) ds Xl) (wV (Dz prog 29 Gu H_) fun QY=>wV (ld prog 5 QY Xl) fun cG=>wV (A_ prog 78 (e 2) 1) fun QZ=>wV (ld prog 76 QZ Xl) fun Y'=>wV (A_ prog 58 (e 8) 1) fun cH=>wV (ld prog 9 cH Xl) fun Y_=>wV (HB prog 76 Y' Y_ false Xl) fun cI=>wV (Dz prog 29 cI (e 109)) fun cJ=>wV (ld prog 5 cJ Xl) fun cK=>wV (AQ prog .neq 5 false cG cK) fun lV=>(((ld prog 5 cJ Xl=some cK)∧True)∧(((HB prog 76 Y' Y_ false Xl=some cI)∧True)∧(((ld prog 9 cH Xl=some Y_)∧True)∧(((ld prog 76 QZ Xl=some Y')∧True)∧(((ld prog 5 QY Xl=some cG)∧True)∧(((True)∧((eF prog 40 LC none (some (e 109)) none aE=some Mz)∧True))∧(((True)∧((ld prog 40 XG aE=some LC)∧True))∧(((True)∧((True)∧AY prog 29 Gu W=some TC))∧True))))))))∧True∧(N1 ro K) .normal (Env.of e [(147,lV),(146,lV),(133,(.bool false)),(145,cK),(133,(.bool false)),(144,cJ),(133,(.bool false)),(143,(e 109)),(133,(.bool false)),(142,cI),(133,(.bool false)),(141,Y_),(133,(.bool false)),(140,cH),(133,(.bool false)),(139,Y'),(133,(.bool false)),(138,QZ),(133,(.bool false)),(137,cG),(133,(.bool false)),(136,QY),(133,(.bool false)),(135,H_),(133,(.bool false)),(134,Gu),(133,(.bool false)),(133,ME),(132,ME),(131,ME),(125,(.bool false)),(130,H_),(125,(.bool false)),(129,Mz),(125,(.bool false)),(128,(e 109)),(125,(.bool false)),(127,LC),(125,(.bool false)),(126,XG),(125,(.bool false)),(125,Jr),(124,Jr),(123,MD),(122,pG),(121,TC),(120,Gu),(119,H_),(17,Gu),(118,Gu),(117,HN),(116,MB),(115,MA),(114,Oo),(16,H_),(15,(e 109)),(113,H_),(112,Ue),(111,(e 109)),(110,Jn)]) ds Xl)) (fun zB W32=>False)))) (fun yp W30=>False))) (K (.exit 2) (Env.of e [(110,Jn)]) ds W)):=by kernel_rfl
def RU (ro:Option Nat) (K:AG):AG:=Aq (fun e ds W=>wV (AQ prog .add 3 true (e 163) (.int .i64 1)) fun zd=>K .normal (Env.of e [(163,zd),(177,zd)]) ds W) K
theorem uL (ro:Option Nat) (e:Env) (ds:List Deferred) (K:AG) (W:CW):AP prog AT ro 48 179 (Ag prog 48 2) e ds W K=(wV (AQ prog .lss 3 false (e 163) (e 162)) fun pH=>wI pH (wV (Dz prog 23 (e 161) (e 163)) fun uM=>wV (ld prog 58 uM W) fun uN=>CD (GX prog 58 W) fun C5 oq=>wV (CP prog 58 C5 uN oq) fun Qy=>wV (A_ prog 83 (e 6) 0) fun uO=>wV (ld prog 81 uO Qy) fun uP=>wV (A_ prog 58 C5 1) fun uQ=>wV (ld prog 9 uQ Qy) fun uR=>wV (HB prog 81 uP uR true Qy) fun gY=>wV (ext gY 0) fun uS=>wV (ext gY 1) fun cL=>CD (GX prog 58 Qy) fun v20 W36=>wV (CP prog 58 v20 uS W36) fun lD=>wI cL (wV (ld prog 83 (e 6) lD) fun ze=>wV (CP prog 83 (e 4) ze lD) fun W38=>(RU ro K) .ret (Env.of e [(5,(.bool false)),(176,ze),(175,cL),(21,cL),(20,v20),(174,cL),(173,uS),(167,gY),(172,gY),(171,uR),(170,uQ),(169,uP),(168,uO),(19,C5),(166,uN),(165,uM),(164,pH)]) ds W38) ((RU ro K) .normal (Env.of e [(175,cL),(21,cL),(20,v20),(174,cL),(173,uS),(167,gY),(172,gY),(171,uR),(170,uQ),(169,uP),(168,uO),(19,C5),(166,uN),(165,uM),(164,pH)]) ds lD)) (K (.exit 4) (Env.of e [(164,pH)]) ds W)):=by kernel_rfl
theorem zf {Q:Ending→CW→Prop} {v0 v1:Value} {W:CW} (h:AP prog AT none 48 179 (AS prog 48) (Env.args [v0,v1]) [] W (AK prog Tryz.f48 Q)):AH prog AT 48 [v0,v1] W Q:=Ab Tryz.func48 (by kernel_rfl) (by kernel_rfl) (by kernel_rfl) (by kernel_rfl) (by kernel_rfl) h
def Iq (ro:Option Nat) (K:AG):AG:=Aq (fun e ds W=>wV (ld prog 78 (e 8) W) fun E4=>wV (CP prog 78 (e 6) E4 W) fun W5=>K .ret (Env.of e [(7,(.int .i64 0)),(32,E4)]) ds W5) K
theorem zg (v0 v1 v2:Value) (K:AG) (W:CW):AP prog AT none 49 33 (AS prog 49) (Env.args [v0,v1,v2]) [] W K=(CD (GX prog 78 W) fun v6 W0=>AH prog AT 47 [v0] W0 (AV (fun Br W1=>wV (ext Br 0) fun Dn=>wV (ext Br 1) fun B9=>CD (GX prog 78 W1) fun v8 W3=>wV (CP prog 78 v8 Dn W3) fun W4=>wV (KO B9) fun DI=>wI DI (wV (ld prog 78 v8 W4) fun C3=>wV (CP prog 78 v6 C3 W4) fun W7=>(Iq none K) .ret (Env.of (Env.args [v0,v1,v2]) [(7,(.int .i64 210)),(18,C3),(15,DI),(17,DI),(16,B9),(9,B9),(8,v8),(14,B9),(13,Dn),(10,Br),(12,Br),(11,v0),(7,(.int .i64 0)),(6,v6)]) [] W7) (wV (ld prog 78 v8 W4) fun v20=>AH prog AT 84 [v20,v1] W4 (AV (fun Fy W8=>wV (AQ prog .geq 3 true Fy (.int .i64 0)) fun EV=>wI EV (wV (ld prog 78 v8 W8) fun E0=>wV (CP prog 78 v6 E0 W8) fun QF=>(Iq none K) .ret (Env.of (Env.args [v0,v1,v2]) [(7,(.int .i64 211)),(24,E0),(19,EV),(23,EV),(22,Fy),(21,v1),(20,v20),(15,DI),(17,DI),(16,B9),(9,B9),(8,v8),(14,B9),(13,Dn),(10,Br),(12,Br),(11,v0),(7,(.int .i64 0)),(6,v6)]) [] QF) (wV (AY prog 24 v1 W8) fun CQ=>AH prog AT 103 [v2,(.int .i64 0),CQ] W8 (AV (fun DY C'=>wV (KO DY) fun v30=>wI v30 (wV (ld prog 78 v8 C') fun EM=>wV (CP prog 78 v6 EM C') fun bX=>(Iq none K) .ret (Env.of (Env.args [v0,v1,v2]) [(7,(.int .i64 1)),(31,EM),(25,v30),(30,v30),(29,DY),(28,CQ),(27,v1),(26,v2),(19,EV),(23,EV),(22,Fy),(21,v1),(20,v20),(15,DI),(17,DI),(16,B9),(9,B9),(8,v8),(14,B9),(13,Dn),(10,Br),(12,Br),(11,v0),(7,(.int .i64 0)),(6,v6)]) [] bX) ((Iq none K) .normal (Env.of (Env.args [v0,v1,v2]) [(25,v30),(30,v30),(29,DY),(28,CQ),(27,v1),(26,v2),(19,EV),(23,EV),(22,Fy),(21,v1),(20,v20),(15,DI),(17,DI),(16,B9),(9,B9),(8,v8),(14,B9),(13,Dn),(10,Br),(12,Br),(11,v0),(7,(.int .i64 0)),(6,v6)]) [] C')) (fun kb NB=>(Iq none K) (.panic kb) (Env.of (Env.args [v0,v1,v2]) [(28,CQ),(27,v1),(26,v2),(19,EV),(23,EV),(22,Fy),(21,v1),(20,v20),(15,DI),(17,DI),(16,B9),(9,B9),(8,v8),(14,B9),(13,Dn),(10,Br),(12,Br),(11,v0),(7,(.int .i64 0)),(6,v6)]) [] NB)))) (fun ot W9=>(Iq none K) (.panic ot) (Env.of (Env.args [v0,v1,v2]) [(21,v1),(20,v20),(15,DI),(17,DI),(16,B9),(9,B9),(8,v8),(14,B9),(13,Dn),(10,Br),(12,Br),(11,v0),(7,(.int .i64 0)),(6,v6)]) [] W9)))) (fun kf W2=>K (.panic kf) (Env.of (Env.args [v0,v1,v2]) [(11,v0),(7,(.int .i64 0)),(6,v6)]) [] W2))):=by kernel_rfl
theorem zh {Q:Ending→CW→Prop} {v0 v1 v2:Value} {W:CW} (h:AP prog AT none 49 33 (AS prog 49) (Env.args [v0,v1,v2]) [] W (AK prog Tryz.f49 Q)):AH prog AT 49 [v0,v1,v2] W Q:=Ab Tryz.func49 (by kernel_rfl) (by kernel_rfl) (by kernel_rfl) (by kernel_rfl) (by kernel_rfl) h
def lW (ro:Option Nat) (K:AG):AG:=Aq (fun e ds W=>K .ret (Env.of e [(4,(e 5)),(42,(e 5))]) ds W) K
theorem zi (v0 v1:Value) (K:AG) (W:CW):AP prog AT none 50 43 (AS prog 50) (Env.args [v0,v1]) [] W K=(CD (qq W) fun v9 W0=>wV (RE prog 100 [(1,v9)]) fun v10=>CD (QU prog 100 v10 W0) fun v11 W1=>AH prog AT 105 [v11,v0] W1 (AV (fun B9 W2=>C1 prog AT none 50 43 (.loop (Ag prog 50 0)) (Env.of (Env.args [v0,v1]) [(6,(.int .i64 0)),(14,B9),(13,v0),(12,v11),(5,v11),(11,v11),(10,v10),(9,v9),(4,(.pointer none))]) [] W2 (BU 0 (lW none K))) (fun Yg W3=>K (.panic Yg) (Env.of (Env.args [v0,v1]) [(13,v0),(12,v11),(5,v11),(11,v11),(10,v10),(9,v9),(4,(.pointer none))]) [] W3))):=by kernel_rfl
def cM (ro:Option Nat) (K:AG):AG:=Aq (fun e ds W=>wV (AQ prog .add 3 true (e 6) (.int .i64 1)) fun EV=>K .normal (Env.of e [(6,EV),(23,EV),(22,(e 6))]) ds W) K
theorem uT (ro:Option Nat) (e:Env) (ds:List Deferred) (K:AG) (W:CW):AP prog AT ro 50 43 (Ag prog 50 0) e ds W K=(wV (QV (e 5)) fun DI=>wV (A_ prog 100 DI 0) fun C3=>wV (ld prog 40 C3 W) fun C5=>wV (AY prog 40 C5 W) fun v20=>wV (AQ prog .lss 3 false (e 6) v20) fun DB=>wI DB (wV (QV (e 5)) fun Fz=>wV (A_ prog 100 Fz 0) fun D4=>wV (ld prog 40 D4 W) fun CQ=>wV (Dz prog 40 CQ (e 6)) fun v30=>wV (ld prog 3 v30 W) fun EM=>Dj prog AT (e 1) [EM] W (fun E4 W6=>wV (AY prog 40 E4 W6) fun ET=>C1 prog AT ro 50 43 (.loop (Ag prog 50 1)) (Env.of e [(34,(.int .i64 0)),(33,ET),(32,E4),(31,EM),(30,v30),(29,(e 6)),(28,CQ),(27,D4),(26,Fz),(25,(e 5)),(24,(e 1)),(21,DB),(20,v20),(19,C5),(18,C3),(17,DI),(16,(e 5)),(15,(e 6))]) ds W6 (BU 2 (BU 1 (cM ro K)))) (fun s_ W7=>(cM ro K) (.panic s_) (Env.of e [(31,EM),(30,v30),(29,(e 6)),(28,CQ),(27,D4),(26,Fz),(25,(e 5)),(24,(e 1)),(21,DB),(20,v20),(19,C5),(18,C3),(17,DI),(16,(e 5)),(15,(e 6))]) ds W7)) (K (.exit 0) (Env.of e [(21,DB),(20,v20),(19,C5),(18,C3),(17,DI),(16,(e 5)),(15,(e 6))]) ds W)):=by kernel_rfl
def cN (ro:Option Nat) (K:AG):AG:=Aq (fun e ds W=>wV (AQ prog .add 3 true (e 34) (.int .i64 1)) fun EO=>K .normal (Env.of e [(34,EO),(41,EO)]) ds W) K
theorem uU (ro:Option Nat) (e:Env) (ds:List Deferred) (K:AG) (W:CW):AP prog AT ro 50 43 (Ag prog 50 1) e ds W K=(wV (AQ prog .lss 3 false (e 34) (e 33)) fun EL=>wI EL (wV (Dz prog 40 (e 32) (e 34)) fun H8=>wV (ld prog 3 H8 W) fun EK=>AH prog AT 105 [(e 5),EK] W (AV (fun E3 W9=>(cN ro K) .normal (Env.of e [(40,E3),(39,EK),(38,(e 5)),(8,EK),(37,EK),(36,H8),(35,EL)]) ds W9) (fun Wf QF=>(cN ro K) (.panic Wf) (Env.of e [(39,EK),(38,(e 5)),(8,EK),(37,EK),(36,H8),(35,EL)]) ds QF))) (K (.exit 2) (Env.of e [(35,EL)]) ds W)):=by kernel_rfl
theorem gZ (Q:Ending→CW→Prop) (e:Env) (W:CW):AK prog Tryz.f50 Q .ret e [] W=Q (.returned (e 4)) W:=by kernel_rfl
theorem zj {Q:Ending→CW→Prop} {v0 v1:Value} {W:CW} (h:AP prog AT none 50 43 (AS prog 50) (Env.args [v0,v1]) [] W (AK prog Tryz.f50 Q)):AH prog AT 50 [v0,v1] W Q:=Ab Tryz.func50 (by kernel_rfl) (by kernel_rfl) (by kernel_rfl) (by kernel_rfl) (by kernel_rfl) h
def cO (ro:Option Nat) (K:AG):AG:=Aq (fun e ds W=>wV (ld prog 40 (e 5) W) fun EV=>K .ret (Env.of e [(4,EV),(23,EV)]) ds W) K
theorem zk (v0 v1:Value) (K:AG) (W:CW):AP prog AT none 52 24 (AS prog 52) (Env.args [v0,v1]) [] W K=(CD (QU prog 78 v0 W) fun v2 W0=>CD (QU prog 56 v1 W0) fun v3 W1=>CD (GX prog 40 W1) fun v5 W2=>wV (ld prog 78 v2 W2) fun v8=>wV (ld prog 56 v3 W2) fun v9=>AH prog AT 62 [v8,v9] W2 (AV (fun v10 W4=>C1 prog AT none 52 24 (.rangeFunc (.tmp 10) #[11,12] (AO prog 52 0) (AN prog 52 0)) (Env.of (Env.args [v0,v1]) [(10,v10),(9,v9),(8,v8),(5,v5),(4,(.slice none 0 0)),(3,v3),(2,v2)]) [] W4 (BU 0 (cO none K))) (fun kZ W5=>(cO none K) (.panic kZ) (Env.of (Env.args [v0,v1]) [(9,v9),(8,v8),(5,v5),(4,(.slice none 0 0)),(3,v3),(2,v2)]) [] W5))):=by kernel_rfl
theorem uV (ro:Option Nat) (e:Env) (ds:List Deferred) (K:AG) (W:CW):AP prog AT ro 52 24 (AO prog 52 0) e ds W K=(K .normal (Env.of e [(7,(e 12)),(6,(e 11))]) ds W):=by kernel_rfl
theorem uW (ro:Option Nat) (e:Env) (ds:List Deferred) (K:AG) (W:CW):AP prog AT ro 52 24 (AN prog 52 0) e ds W K=(wV (AQ prog .eql 5 true (e 7) (.int .u8 2)) fun B9=>wI B9 (wV (ld prog 40 (e 5) W) fun EC=>wV (A_ prog 56 (e 3) 1) fun FL=>wV (ld prog 40 FL W) fun DI=>wV (Dz prog 40 DI (e 6)) fun C5=>wV (ld prog 3 C5 W) fun v20=>CD (WX prog 40 1 [(0,v20)] W) fun DB W6=>CD (app prog [40,40] EC DB W6) fun Fy W7=>wV (CP prog 40 (e 5) Fy W7) fun W8=>(((True)∧((True)∧((True)∧ld prog 3 C5 W=some v20)))∧(((True)∧((True)∧((True)∧ld prog 40 FL W=some DI)))∧(((True)∧((True)∧((ld prog 40 (e 5) W6=some EC)∧ld prog 40 (e 5) W=some EC)))∧True)))∧True∧K .normal (Env.of e [(22,Fy),(21,DB),(20,v20),(19,C5),(18,(e 6)),(17,DI),(16,FL),(15,EC),(14,B9),(13,(e 7))]) ds W8) (K .normal (Env.of e [(14,B9),(13,(e 7))]) ds W)):=by kernel_rfl
theorem ga (Q:Ending→CW→Prop) (e:Env) (W:CW):AK prog Tryz.f52 Q .ret e [] W=Q (.returned (e 4)) W:=by kernel_rfl
theorem zl {Q:Ending→CW→Prop} {v0 v1:Value} {W:CW} (h:AP prog AT none 52 24 (AS prog 52) (Env.args [v0,v1]) [] W (AK prog Tryz.f52 Q)):AH prog AT 52 [v0,v1] W Q:=Ab Tryz.func52 (by kernel_rfl) (by kernel_rfl) (by kernel_rfl) (by kernel_rfl) (by kernel_rfl) h
theorem zm (v0 v1:Value) (K:AG) (W:CW):AP prog AT none 62 6 (AS prog 62) (Env.args [v0,v1]) [] W K=(CD (QU prog 78 v0 W) fun v2 W0=>CD (QU prog 56 v1 W0) fun v3 W1=>wV (some (.func (.func 108) #[] #[v2,v3])) fun v5=>K .ret (Env.of (Env.args [v0,v1]) [(4,v5),(5,v5),(4,(.nilFunc)),(3,v3),(2,v2)]) [] W1):=by kernel_rfl
theorem gb (Q:Ending→CW→Prop) (e:Env) (W:CW):AK prog Tryz.f62 Q .ret e [] W=Q (.returned (e 4)) W:=by kernel_rfl
theorem zn {Q:Ending→CW→Prop} {v0 v1:Value} {W:CW} (h:AP prog AT none 62 6 (AS prog 62) (Env.args [v0,v1]) [] W (AK prog Tryz.f62 Q)):AH prog AT 62 [v0,v1] W Q:=Ab Tryz.func62 (by kernel_rfl) (by kernel_rfl) (by kernel_rfl) (by kernel_rfl) (by kernel_rfl) h
theorem zo (v0 v1:Value) (K:AG) (W:CW):AP prog AT none 84 11 (AS prog 84) (Env.args [v0,v1]) [] W K=(CD (QU prog 78 v0 W) fun v2 W0=>CD (QU prog 24 v1 W0) fun v3 W1=>wV (ld prog 24 v3 W1) fun v5=>wV (AY prog 24 v5 W1) fun v6=>wV (AQ prog .gtr 3 true v6 (.int .i64 1000)) fun v7=>wI v7 (K .ret (Env.of (Env.args [v0,v1]) [(4,(.int .i64 1000)),(7,v7),(6,v6),(5,v5),(4,(.int .i64 0)),(3,v3),(2,v2)]) [] W1) (wV (ld prog 24 v3 W1) fun v8=>wV (some (.func (.func 118) #[] #[v2,v3])) fun v9=>AH prog AT 117 [v8,v9] W1 (AV (fun v10 W2=>K .ret (Env.of (Env.args [v0,v1]) [(4,v10),(10,v10),(9,v9),(8,v8),(7,v7),(6,v6),(5,v5),(4,(.int .i64 0)),(3,v3),(2,v2)]) [] W2) (fun Yg W3=>K (.panic Yg) (Env.of (Env.args [v0,v1]) [(9,v9),(8,v8),(7,v7),(6,v6),(5,v5),(4,(.int .i64 0)),(3,v3),(2,v2)]) [] W3)))):=by kernel_rfl
theorem VN (Q:Ending→CW→Prop) (e:Env) (W:CW):AK prog Tryz.f84 Q .ret e [] W=Q (.returned (e 4)) W:=by kernel_rfl
theorem zp {Q:Ending→CW→Prop} {v0 v1:Value} {W:CW} (h:AP prog AT none 84 11 (AS prog 84) (Env.args [v0,v1]) [] W (AK prog Tryz.f84 Q)):AH prog AT 84 [v0,v1] W Q:=Ab Tryz.func84 (by kernel_rfl) (by kernel_rfl) (by kernel_rfl) (by kernel_rfl) (by kernel_rfl) h
def N2 (ro:Option Nat) (K:AG):AG:=Aq (fun e ds W=>wV (QV (e 0)) fun DI=>wV (A_ prog 100 DI 0) fun C3=>wV (ld prog 40 C3 W) fun C5=>CD (WX prog 40 1 [(0,(e 1))] W) fun DB W0=>CD (app prog [40,40] C5 DB W0) fun Fy W1=>wV (QV (e 0)) fun EV=>wV (A_ prog 100 EV 0) fun E0=>wV (CP prog 40 E0 Fy W1) fun W2=>wV (QV (e 0)) fun Fz=>wV (A_ prog 100 Fz 1) fun D4=>wV (ld prog 98 D4 W2) fun CQ=>wV (QV (e 0)) fun EM=>wV (A_ prog 100 EM 0) fun E4=>wV (ld prog 40 E4 W2) fun ET=>wV (AY prog 40 ET W2) fun GK=>wV (aC prog 98 CQ (e 1) GK W2) fun W3=>(((True)∧AY prog 40 ET W2=some GK)∧(((True)∧ld prog 40 E4 W2=some ET)∧(((True)∧ld prog 98 D4 W2=some CQ)∧True)))∧True∧K .normal (Env.of e [(34,GK),(33,ET),(32,E4),(31,EM),(30,(e 0)),(29,(e 1)),(28,CQ),(27,D4),(26,Fz),(25,(e 0)),(24,E0),(23,EV),(22,Fy),(21,DB),(20,(e 1)),(19,C5),(18,C3),(17,DI),(16,(e 0)),(15,(e 0))]) ds W3) K
def RV (ro:Option Nat) (K:AG):AG:=Aq (fun e ds W=>wI (e 14) ((N2 ro K) .ret e ds W) ((N2 ro K) .normal e ds W)) (N2 ro K)
theorem uX (v0 v1:Value) (K:AG) (W:CW):AP prog AT none 105 35 (AS prog 105) (Env.args [v0,v1]) [] W K=(wV (AQ prog .eql 3 true v1 (.int .i64 0)) fun v5=>wI v5 ((RV none K) .normal (Env.of (Env.args [v0,v1]) [(14,(.bool true)),(13,undef),(6,(.bool true)),(12,undef),(6,(.bool true)),(11,undef),(6,(.bool true)),(10,undef),(6,(.bool true)),(9,undef),(6,(.bool true)),(8,undef),(6,(.bool true)),(7,undef),(6,(.bool true)),(6,v5),(5,v5),(4,v1)]) [] W) (wV (QV v0) fun v8=>wV (A_ prog 100 v8 1) fun v9=>wV (ld prog 98 v9 W) fun v10=>wV (HB prog 98 v10 v1 false W) fun Br=>wV (AQ prog .gtr 3 true Br (.int .i64 0)) fun Dn=>(RV none K) .normal (Env.of (Env.args [v0,v1]) [(14,Dn),(13,Dn),(6,(.bool false)),(12,Br),(6,(.bool false)),(11,v1),(6,(.bool false)),(10,v10),(6,(.bool false)),(9,v9),(6,(.bool false)),(8,v8),(6,(.bool false)),(7,v0),(6,(.bool false)),(6,v5),(5,v5),(4,v1)]) [] W)):=by kernel_rfl
theorem cP (Q:Ending→CW→Prop) (e:Env) (W:CW):AK prog Tryz.f105 Q .ret e [] W=Q (.returned (.tuple #[])) W:=by kernel_rfl
theorem uY {Q:Ending→CW→Prop} {v0 v1:Value} {W:CW} (h:AP prog AT none 105 35 (AS prog 105) (Env.args [v0,v1]) [] W (AK prog Tryz.f105 Q)):AH prog AT 105 [v0,v1] W Q:=Ab Tryz.func105 (by kernel_rfl) (by kernel_rfl) (by kernel_rfl) (by kernel_rfl) (by kernel_rfl) h
theorem lX (v0 v1 v2:Value) (K:AG) (W:CW):AP prog AT none 108 36 (AS prog 108) (Env.args [v0,v1,v2]) [] W K=(wV (A_ prog 78 v1 0) fun v7=>wV (ld prog 75 v7 W) fun v8=>wV (A_ prog 56 v2 0) fun v9=>wV (ld prog 9 v9 W) fun v10=>wV (HB prog 75 v8 v10 false W) fun v11=>wV (yg prog 48 v11 3) fun Br=>wV (A_ prog 56 v2 1) fun Dn=>wV (ld prog 40 Dn W) fun B9=>wV (AY prog 40 B9 W) fun EC=>C1 prog AT none 108 36 (.loop (Ag prog 108 0)) (Env.of (Env.args [v0,v1,v2]) [(16,(.int .i64 0)),(15,EC),(14,B9),(13,Dn),(4,Br),(12,Br),(11,v11),(10,v10),(9,v9),(8,v8),(7,v7)]) [] W (BU 0 K)):=by kernel_rfl
def IV (ro:Option Nat) (K:AG):AG:=Aq (fun e ds W=>wV (AQ prog .add 3 true (e 16) (.int .i64 1)) fun EL=>K .normal (Env.of e [(16,EL),(35,EL)]) ds W) K
def Lu (ro:Option Nat) (K:AG):AG:=Aq (fun e ds W=>Dj prog AT (e 0) [(e 5),(e 6)] W (fun ET W1=>wV (KO ET) fun GK=>wI GK ((IV ro K) .ret (Env.of e [(34,GK),(33,ET),(32,(e 6)),(31,(e 5)),(30,(e 0))]) ds W1) ((IV ro K) .normal (Env.of e [(34,GK),(33,ET),(32,(e 6)),(31,(e 5)),(30,(e 0))]) ds W1)) (fun kf W2=>(IV ro K) (.panic kf) (Env.of e [(32,(e 6)),(31,(e 5)),(30,(e 0))]) ds W2)) (BU 1 (IV ro K))
theorem ed (ro:Option Nat) (e:Env) (ds:List Deferred) (K:AG) (W:CW):AP prog AT ro 108 36 (Ag prog 108 0) e ds W K=(wV (AQ prog .lss 3 false (e 16) (e 15)) fun DI=>wI DI (wV (AQ prog .eql 5 true (e 4) (.int .u8 0)) fun DB=>wI DB (wV (A_ prog 78 (e 1) 1) fun Fy=>wV (ld prog 76 Fy W) fun EV=>wV (A_ prog 56 (e 2) 0) fun E0=>wV (ld prog 9 E0 W) fun EB=>wV (HB prog 76 EV EB false W) fun Fz=>wV (Dz prog 29 Fz (e 16)) fun CQ=>wV (ld prog 5 CQ W) fun DY=>(Lu ro K) .normal (Env.of e [(6,DY),(29,DY),(28,CQ),(27,(e 16)),(26,Fz),(25,EB),(24,E0),(23,EV),(22,Fy),(21,DB),(20,(e 4)),(6,(e 4)),(19,(e 4)),(5,(e 16)),(18,(e 16)),(17,DI)]) ds W) ((Lu ro K) .normal (Env.of e [(21,DB),(20,(e 4)),(6,(e 4)),(19,(e 4)),(5,(e 16)),(18,(e 16)),(17,DI)]) ds W)) (K (.exit 0) (Env.of e [(17,DI)]) ds W)):=by kernel_rfl
theorem lY {Q:Ending→CW→Prop} {v0 v1 v2:Value} {W:CW} (h:AP prog AT none 108 36 (AS prog 108) (Env.args [v0,v1,v2]) [] W (AK prog Tryz.f108 Q)):AH prog AT 108 [v0,v1,v2] W Q:=Ab Tryz.func108 (by kernel_rfl) (by kernel_rfl) (by kernel_rfl) (by kernel_rfl) (by kernel_rfl) h
def XH (ro:Option Nat) (K:AG):AG:=Aq (fun e ds W=>K .ret (Env.of e [(4,(.int .i64 (-1)))]) ds W) K
theorem uZ (v0 v1:Value) (K:AG) (W:CW):AP prog AT none 117 19 (AS prog 117) (Env.args [v0,v1]) [] W K=(wV (AY prog 24 v0 W) fun v7=>C1 prog AT none 117 19 (.loop (Ag prog 117 0)) (Env.of (Env.args [v0,v1]) [(8,(.int .i64 0)),(7,v7),(6,v0),(4,(.int .i64 0))]) [] W (BU 0 (XH none K))):=by kernel_rfl
def N3 (ro:Option Nat) (K:AG):AG:=Aq (fun e ds W=>wV (AQ prog .add 3 true (e 8) (.int .i64 1)) fun C3=>K .normal (Env.of e [(8,C3),(18,C3)]) ds W) K
theorem pI (ro:Option Nat) (e:Env) (ds:List Deferred) (K:AG) (W:CW):AP prog AT ro 117 19 (Ag prog 117 0) e ds W K=(wV (AQ prog .lss 3 false (e 8) (e 7)) fun v9=>wI v9 (wV (Dz prog 24 (e 0) (e 8)) fun B9=>wV (ld prog 56 B9 W) fun EC=>Dj prog AT (e 1) [EC] W (fun FL W2=>wI FL ((N3 ro K) .ret (Env.of e [(4,(e 8)),(17,(e 8)),(16,FL),(15,EC),(14,B9),(13,(e 8)),(12,(e 0)),(11,(e 1)),(5,(e 8)),(10,(e 8)),(9,v9)]) ds W2) ((N3 ro K) .normal (Env.of e [(16,FL),(15,EC),(14,B9),(13,(e 8)),(12,(e 0)),(11,(e 1)),(5,(e 8)),(10,(e 8)),(9,v9)]) ds W2)) (fun Yg W3=>(N3 ro K) (.panic Yg) (Env.of e [(15,EC),(14,B9),(13,(e 8)),(12,(e 0)),(11,(e 1)),(5,(e 8)),(10,(e 8)),(9,v9)]) ds W3)) (K (.exit 0) (Env.of e [(9,v9)]) ds W)):=by kernel_rfl
theorem TD (Q:Ending→CW→Prop) (e:Env) (W:CW):AK prog Tryz.f117 Q .ret e [] W=Q (.returned (e 4)) W:=by kernel_rfl
theorem ua {Q:Ending→CW→Prop} {v0 v1:Value} {W:CW} (h:AP prog AT none 117 19 (AS prog 117) (Env.args [v0,v1]) [] W (AK prog Tryz.f117 Q)):AH prog AT 117 [v0,v1] W Q:=Ab Tryz.func117 (by kernel_rfl) (by kernel_rfl) (by kernel_rfl) (by kernel_rfl) (by kernel_rfl) h
theorem ub (v0 v1 v2:Value) (K:AG) (W:CW):AP prog AT none 118 11 (AS prog 118) (Env.args [v0,v1,v2]) [] W K=(CD (QU prog 56 v0 W) fun v3 W0=>wV (ld prog 78 v1 W0) fun v5=>wV (ld prog 56 v3 W0) fun v6=>wV (ld prog 24 v2 W0) fun v7=>wV (AY prog 24 v7 W0) fun v8=>AH prog AT 119 [v5,v6,v8] W0 (AV (fun v9 W1=>wV (KO v9) fun v10=>K .ret (Env.of (Env.args [v0,v1,v2]) [(4,v10),(10,v10),(9,v9),(8,v8),(7,v7),(6,v6),(5,v5),(4,(.bool false)),(3,v3)]) [] W1) (fun kf W2=>K (.panic kf) (Env.of (Env.args [v0,v1,v2]) [(8,v8),(7,v7),(6,v6),(5,v5),(4,(.bool false)),(3,v3)]) [] W2))):=by kernel_rfl
theorem cQ (Q:Ending→CW→Prop) (e:Env) (W:CW):AK prog Tryz.f118 Q .ret e [] W=Q (.returned (e 4)) W:=by kernel_rfl
theorem uc {Q:Ending→CW→Prop} {v0 v1 v2:Value} {W:CW} (h:AP prog AT none 118 11 (AS prog 118) (Env.args [v0,v1,v2]) [] W (AK prog Tryz.f118 Q)):AH prog AT 118 [v0,v1,v2] W Q:=Ab Tryz.func118 (by kernel_rfl) (by kernel_rfl) (by kernel_rfl) (by kernel_rfl) (by kernel_rfl) h
def N4 (ro:Option Nat) (K:AG):AG:=Aq (fun e ds W=>wV (CP prog 4 (e 6) (.bool true) W) fun W6=>K .ret e ds W6) K
def LM (ro:Option Nat) (K:AG):AG:=Aq (fun e ds W=>wV (ld prog 78 (e 3) W) fun FC=>wV (ld prog 56 (e 4) W) fun GJ=>AH prog AT 62 [FC,GJ] W (AV (fun Iv W8=>C1 prog AT ro 119 72 (.rangeFunc (.tmp 47) #[48,49] (AO prog 119 0) (AN prog 119 0)) (Env.of e [(47,Iv),(46,GJ),(45,FC)]) ds W8 (BU 0 (N4 ro K))) (fun ot W9=>(N4 ro K) (.panic ot) (Env.of e [(46,GJ),(45,FC)]) ds W9))) K
def JM (ro:Option Nat) (K:AG):AG:=Aq (fun e ds W=>wI (e 44) (wV (CP prog 4 (e 6) (.bool false) W) fun C'=>(LM ro K) .ret e ds C') ((LM ro K) .normal e ds W)) (LM ro K)
theorem ue (v0 v1 v2:Value) (K:AG) (W:CW):AP prog AT none 119 72 (AS prog 119) (Env.args [v0,v1,v2]) [] W K=(CD (QU prog 78 v0 W) fun v3 W0=>CD (QU prog 56 v1 W0) fun v4 W1=>CD (QU prog 3 v2 W1) fun v5 W2=>CD (GX prog 4 W2) fun v6 W3=>wV (A_ prog 78 v3 0) fun Dn=>wV (ld prog 75 Dn W3) fun B9=>wV (A_ prog 56 v4 0) fun EC=>wV (ld prog 9 EC W3) fun FL=>wV (HB prog 75 B9 FL true W3) fun DI=>wV (ext DI 0) fun C3=>wV (ext DI 1) fun C5=>CD (GX prog 48 W3) fun v7 W4=>wV (CP prog 48 v7 C3 W4) fun W5=>wV (KO C5) fun DB=>wI DB ((JM none K) .normal (Env.of (Env.args [v0,v1,v2]) [(44,(.bool true)),(43,undef),(39,(.bool true)),(42,undef),(39,(.bool true)),(41,undef),(39,(.bool true)),(40,undef),(39,(.bool true)),(39,(.bool true)),(38,(.bool true)),(37,undef),(22,(.bool true)),(36,undef),(35,undef),(34,undef),(33,undef),(32,undef),(31,undef),(30,undef),(29,undef),(28,undef),(27,undef),(26,undef),(22,(.bool true)),(25,undef),(22,(.bool true)),(24,undef),(22,(.bool true)),(23,undef),(22,(.bool true)),(22,DB),(21,DB),(20,C5),(8,C5),(7,v7),(19,C5),(18,C3),(12,DI),(17,DI),(16,FL),(15,EC),(14,B9),(13,Dn),(6,v6),(5,v5),(4,v4),(3,v3)]) [] W5) (wV (A_ prog 48 v7 3) fun EV=>wV (ld prog 5 EV W5) fun E0=>wV (AQ prog .eql 5 true E0 (.int .u8 0)) fun EB=>wI EB (wV (A_ prog 56 v4 1) fun D4=>wV (ld prog 40 D4 W5) fun CQ=>wV (AY prog 40 CQ W5) fun DY=>wV (A_ prog 78 v3 1) fun v30=>wV (ld prog 76 v30 W5) fun EM=>wV (A_ prog 56 v4 0) fun E4=>wV (ld prog 9 E4 W5) fun ET=>wV (HB prog 76 EM ET false W5) fun GK=>wV (AY prog 29 GK W5) fun EL=>wV (AQ prog .neq 3 false DY EL) fun H8=>wI H8 ((JM none K) .normal (Env.of (Env.args [v0,v1,v2]) [(44,(.bool true)),(43,undef),(39,(.bool true)),(42,undef),(39,(.bool true)),(41,undef),(39,(.bool true)),(40,undef),(39,(.bool true)),(39,H8),(38,H8),(37,H8),(22,(.bool false)),(36,H8),(26,(.bool true)),(35,EL),(26,(.bool true)),(34,GK),(26,(.bool true)),(33,ET),(26,(.bool true)),(32,E4),(26,(.bool true)),(31,EM),(26,(.bool true)),(30,v30),(26,(.bool true)),(29,DY),(26,(.bool true)),(28,CQ),(26,(.bool true)),(27,D4),(26,(.bool true)),(26,EB),(22,(.bool false)),(25,EB),(22,(.bool false)),(24,E0),(22,(.bool false)),(23,EV),(22,(.bool false)),(22,DB),(21,DB),(20,C5),(8,C5),(7,v7),(19,C5),(18,C3),(12,DI),(17,DI),(16,FL),(15,EC),(14,B9),(13,Dn),(6,v6),(5,v5),(4,v4),(3,v3)]) [] W5) (wV (A_ prog 56 v4 1) fun E3=>wV (ld prog 40 E3 W5) fun EO=>wV (AY prog 40 EO W5) fun G9=>wV (AQ prog .gtr 3 true G9 (.int .i64 200)) fun D9=>(JM none K) .normal (Env.of (Env.args [v0,v1,v2]) [(44,D9),(43,D9),(39,(.bool false)),(42,G9),(39,(.bool false)),(41,EO),(39,(.bool false)),(40,E3),(39,(.bool false)),(39,H8),(38,H8),(37,H8),(22,(.bool false)),(36,H8),(26,(.bool true)),(35,EL),(26,(.bool true)),(34,GK),(26,(.bool true)),(33,ET),(26,(.bool true)),(32,E4),(26,(.bool true)),(31,EM),(26,(.bool true)),(30,v30),(26,(.bool true)),(29,DY),(26,(.bool true)),(28,CQ),(26,(.bool true)),(27,D4),(26,(.bool true)),(26,EB),(22,(.bool false)),(25,EB),(22,(.bool false)),(24,E0),(22,(.bool false)),(23,EV),(22,(.bool false)),(22,DB),(21,DB),(20,C5),(8,C5),(7,v7),(19,C5),(18,C3),(12,DI),(17,DI),(16,FL),(15,EC),(14,B9),(13,Dn),(6,v6),(5,v5),(4,v4),(3,v3)]) [] W5)) (wV (A_ prog 56 v4 1) fun E3=>wV (ld prog 40 E3 W5) fun EO=>wV (AY prog 40 EO W5) fun G9=>wV (AQ prog .gtr 3 true G9 (.int .i64 200)) fun D9=>(JM none K) .normal (Env.of (Env.args [v0,v1,v2]) [(44,D9),(43,D9),(39,(.bool false)),(42,G9),(39,(.bool false)),(41,EO),(39,(.bool false)),(40,E3),(39,(.bool false)),(39,(.bool false)),(38,(.bool false)),(37,(.bool false)),(22,(.bool false)),(36,undef),(26,(.bool false)),(35,undef),(26,(.bool false)),(34,undef),(26,(.bool false)),(33,undef),(26,(.bool false)),(32,undef),(26,(.bool false)),(31,undef),(26,(.bool false)),(30,undef),(26,(.bool false)),(29,undef),(26,(.bool false)),(28,undef),(26,(.bool false)),(27,undef),(26,(.bool false)),(26,EB),(22,(.bool false)),(25,EB),(22,(.bool false)),(24,E0),(22,(.bool false)),(23,EV),(22,(.bool false)),(22,DB),(21,DB),(20,C5),(8,C5),(7,v7),(19,C5),(18,C3),(12,DI),(17,DI),(16,FL),(15,EC),(14,B9),(13,Dn),(6,v6),(5,v5),(4,v4),(3,v3)]) [] W5))):=by kernel_rfl
theorem pJ (ro:Option Nat) (e:Env) (ds:List Deferred) (K:AG) (W:CW):AP prog AT ro 119 72 (AO prog 119 0) e ds W K=(K .normal (Env.of e [(10,(e 49)),(9,(e 48))]) ds W):=by kernel_rfl
def FO (ro:Option Nat) (K:AG):AG:=Aq (fun e ds W=>wI (e 71) (wV (CP prog 4 (e 6) (.bool false) W) fun bX=>K .ret e ds bX) (K .normal e ds W)) (BU 1 K)
theorem pK (ro:Option Nat) (e:Env) (ds:List Deferred) (K:AG) (W:CW):AP prog AT ro 119 72 (AN prog 119 0) e ds W K=(wV (A_ prog 56 (e 4) 1) fun GZ=>wV (ld prog 40 GZ W) fun EZ=>wV (Dz prog 40 EZ (e 9)) fun FD=>wV (ld prog 3 FD W) fun GL=>wV (AQ prog .eql 5 true (e 10) (.int .u8 1)) fun EU=>wI EU (AH prog AT 103 [GL,(.int .i64 (-1000000000)),(.int .i64 1000000000)] W (AV (fun Jp UY=>wV (KO Jp) fun GO=>wI GO ((FO ro K) .normal (Env.of e [(71,(.bool true)),(70,undef),(62,(.bool true)),(69,undef),(68,undef),(67,undef),(66,undef),(65,undef),(62,(.bool true)),(64,undef),(62,(.bool true)),(63,undef),(62,(.bool true)),(62,GO),(61,GO),(60,GO),(57,(.bool true)),(59,Jp),(57,(.bool true)),(58,GL),(57,(.bool true)),(57,EU),(56,EU),(55,(e 10)),(11,GL),(54,GL),(53,FD),(52,(e 9)),(51,EZ),(50,GZ)]) ds UY) (wV (AQ prog .eql 5 true (e 10) (.int .u8 2)) fun GY=>wI GY (wV (ld prog 3 (e 5) UY) fun UZ=>AH prog AT 103 [GL,(.int .i64 0),UZ] UY (AV (fun Jo VA=>wV (KO Jo) fun Jq=>(FO ro K) .normal (Env.of e [(71,Jq),(70,Jq),(62,(.bool false)),(69,Jq),(65,(.bool true)),(68,Jo),(65,(.bool true)),(67,UZ),(65,(.bool true)),(66,GL),(65,(.bool true)),(65,GY),(62,(.bool false)),(64,GY),(62,(.bool false)),(63,(e 10)),(62,(.bool false)),(62,GO),(61,GO),(60,GO),(57,(.bool true)),(59,Jp),(57,(.bool true)),(58,GL),(57,(.bool true)),(57,EU),(56,EU),(55,(e 10)),(11,GL),(54,GL),(53,FD),(52,(e 9)),(51,EZ),(50,GZ)]) ds VA) (fun bY KX=>(FO ro K) (.panic bY) (Env.of e [(65,(.bool true)),(67,UZ),(65,(.bool true)),(66,GL),(65,(.bool true)),(65,GY),(62,(.bool false)),(64,GY),(62,(.bool false)),(63,(e 10)),(62,(.bool false)),(62,GO),(61,GO),(60,GO),(57,(.bool true)),(59,Jp),(57,(.bool true)),(58,GL),(57,(.bool true)),(57,EU),(56,EU),(55,(e 10)),(11,GL),(54,GL),(53,FD),(52,(e 9)),(51,EZ),(50,GZ)]) ds KX))) ((FO ro K) .normal (Env.of e [(71,(.bool false)),(70,(.bool false)),(62,(.bool false)),(69,undef),(65,(.bool false)),(68,undef),(65,(.bool false)),(67,undef),(65,(.bool false)),(66,undef),(65,(.bool false)),(65,GY),(62,(.bool false)),(64,GY),(62,(.bool false)),(63,(e 10)),(62,(.bool false)),(62,GO),(61,GO),(60,GO),(57,(.bool true)),(59,Jp),(57,(.bool true)),(58,GL),(57,(.bool true)),(57,EU),(56,EU),(55,(e 10)),(11,GL),(54,GL),(53,FD),(52,(e 9)),(51,EZ),(50,GZ)]) ds UY))) (fun tM C0=>(FO ro K) (.panic tM) (Env.of e [(57,(.bool true)),(58,GL),(57,(.bool true)),(57,EU),(56,EU),(55,(e 10)),(11,GL),(54,GL),(53,FD),(52,(e 9)),(51,EZ),(50,GZ)]) ds C0))) (wV (AQ prog .eql 5 true (e 10) (.int .u8 2)) fun GY=>wI GY (wV (ld prog 3 (e 5) W) fun UZ=>AH prog AT 103 [GL,(.int .i64 0),UZ] W (AV (fun Jo Im=>wV (KO Jo) fun Jq=>(FO ro K) .normal (Env.of e [(71,Jq),(70,Jq),(62,(.bool false)),(69,Jq),(65,(.bool true)),(68,Jo),(65,(.bool true)),(67,UZ),(65,(.bool true)),(66,GL),(65,(.bool true)),(65,GY),(62,(.bool false)),(64,GY),(62,(.bool false)),(63,(e 10)),(62,(.bool false)),(62,(.bool false)),(61,(.bool false)),(60,undef),(57,(.bool false)),(59,undef),(57,(.bool false)),(58,undef),(57,(.bool false)),(57,EU),(56,EU),(55,(e 10)),(11,GL),(54,GL),(53,FD),(52,(e 9)),(51,EZ),(50,GZ)]) ds Im) (fun UX QW=>(FO ro K) (.panic UX) (Env.of e [(65,(.bool true)),(67,UZ),(65,(.bool true)),(66,GL),(65,(.bool true)),(65,GY),(62,(.bool false)),(64,GY),(62,(.bool false)),(63,(e 10)),(62,(.bool false)),(62,(.bool false)),(61,(.bool false)),(60,undef),(57,(.bool false)),(59,undef),(57,(.bool false)),(58,undef),(57,(.bool false)),(57,EU),(56,EU),(55,(e 10)),(11,GL),(54,GL),(53,FD),(52,(e 9)),(51,EZ),(50,GZ)]) ds QW))) ((FO ro K) .normal (Env.of e [(71,(.bool false)),(70,(.bool false)),(62,(.bool false)),(69,undef),(65,(.bool false)),(68,undef),(65,(.bool false)),(67,undef),(65,(.bool false)),(66,undef),(65,(.bool false)),(65,GY),(62,(.bool false)),(64,GY),(62,(.bool false)),(63,(e 10)),(62,(.bool false)),(62,(.bool false)),(61,(.bool false)),(60,undef),(57,(.bool false)),(59,undef),(57,(.bool false)),(58,undef),(57,(.bool false)),(57,EU),(56,EU),(55,(e 10)),(11,GL),(54,GL),(53,FD),(52,(e 9)),(51,EZ),(50,GZ)]) ds W))):=by kernel_rfl
theorem uf {Q:Ending→CW→Prop} {v0 v1 v2:Value} {W:CW} (h:AP prog AT none 119 72 (AS prog 119) (Env.args [v0,v1,v2]) [] W (AK prog Tryz.f119 Q)):AH prog AT 119 [v0,v1,v2] W Q:=Ab Tryz.func119 (by kernel_rfl) (by kernel_rfl) (by kernel_rfl) (by kernel_rfl) (by kernel_rfl) h
theorem ug (v0 v1:Value) (K:AG) (W:CW):AP prog AT none 104 9 (AS prog 104) (Env.args [v0,v1]) [] W K=(AH prog AT 126 [v0,v1] W (AV (fun v7 W0=>wV (AQ prog .geq 3 true v7 (.int .i64 0)) fun v8=>K .ret (Env.of (Env.args [v0,v1]) [(4,v8),(8,v8),(7,v7),(6,v1),(5,v0),(4,(.bool false))]) [] W0) (fun SE W1=>K (.panic SE) (Env.of (Env.args [v0,v1]) [(6,v1),(5,v0),(4,(.bool false))]) [] W1))):=by kernel_rfl
theorem cR (Q:Ending→CW→Prop) (e:Env) (W:CW):AK prog Tryz.f104 Q .ret e [] W=Q (.returned (e 4)) W:=by kernel_rfl
theorem uh {Q:Ending→CW→Prop} {v0 v1:Value} {W:CW} (h:AP prog AT none 104 9 (AS prog 104) (Env.args [v0,v1]) [] W (AK prog Tryz.f104 Q)):AH prog AT 104 [v0,v1] W Q:=Ab Tryz.func104 (by kernel_rfl) (by kernel_rfl) (by kernel_rfl) (by kernel_rfl) (by kernel_rfl) h
def XI (ro:Option Nat) (K:AG):AG:=Aq (fun e ds W=>K .ret (Env.of e [(4,(.int .i64 (-1)))]) ds W) K
theorem ui (v0 v1:Value) (K:AG) (W:CW):AP prog AT none 126 19 (AS prog 126) (Env.args [v0,v1]) [] W K=(wV (AY prog 40 v0 W) fun v7=>C1 prog AT none 126 19 (.loop (Ag prog 126 0)) (Env.of (Env.args [v0,v1]) [(8,(.int .i64 0)),(7,v7),(6,v0),(4,(.int .i64 0))]) [] W (BU 0 (XI none K))):=by kernel_rfl
def RW (ro:Option Nat) (K:AG):AG:=Aq (fun e ds W=>wV (AQ prog .add 3 true (e 8) (.int .i64 1)) fun C3=>K .normal (Env.of e [(8,C3),(18,C3)]) ds W) K
theorem pL (ro:Option Nat) (e:Env) (ds:List Deferred) (K:AG) (W:CW):AP prog AT ro 126 19 (Ag prog 126 0) e ds W K=(wV (AQ prog .lss 3 false (e 8) (e 7)) fun v9=>wI v9 (wV (Dz prog 40 (e 0) (e 8)) fun B9=>wV (ld prog 3 B9 W) fun EC=>wV (AQ prog .eql 3 false (e 1) EC) fun FL=>wI FL ((RW ro K) .ret (Env.of e [(4,(e 8)),(17,(e 8)),(16,FL),(15,EC),(14,B9),(13,(e 8)),(12,(e 0)),(11,(e 1)),(5,(e 8)),(10,(e 8)),(9,v9)]) ds W) ((RW ro K) .normal (Env.of e [(16,FL),(15,EC),(14,B9),(13,(e 8)),(12,(e 0)),(11,(e 1)),(5,(e 8)),(10,(e 8)),(9,v9)]) ds W)) (K (.exit 0) (Env.of e [(9,v9)]) ds W)):=by kernel_rfl
theorem TF (Q:Ending→CW→Prop) (e:Env) (W:CW):AK prog Tryz.f126 Q .ret e [] W=Q (.returned (e 4)) W:=by kernel_rfl
theorem uj {Q:Ending→CW→Prop} {v0 v1:Value} {W:CW} (h:AP prog AT none 126 19 (AS prog 126) (Env.args [v0,v1]) [] W (AK prog Tryz.f126 Q)):AH prog AT 126 [v0,v1] W Q:=Ab Tryz.func126 (by kernel_rfl) (by kernel_rfl) (by kernel_rfl) (by kernel_rfl) (by kernel_rfl) h
end Go.Ce
namespace Go.Ce
open Go Go.Proofs Go.Proofs.Tryz
theorem N5:∀ a:List UInt8,Q5 a a=false
 | []=>rfl
 | a::x=>by
  simp only [Q5,Nat.beq_refl,Bool.true_and,N5 x,Bool.or_false]
  cases h:Nat.blt a.toNat a.toNat with
  | false=>rfl
  | true=>have:=Nat.le_of_ble_eq_true h; omega
theorem Lv:∀ a b c:List UInt8,Q5 a b=true→Q5 b c=true→Q5 a c=true
 | _,_,[],_,h=>by simp [Q5] at h
 | _,[],_::_,h,_=>by simp [Q5] at h
 | [],_::_,_::_,_,_=>rfl
 | a::x,b::y,c::z,h1,h2=>by
  simp only [Q5,Bool.or_eq_true,Bool.and_eq_true] at h1 h2 ⊢; have blt:∀ m n:Nat,Nat.blt m n=true↔m<n:=fun m n=>⟨fun h=>Nat.le_of_ble_eq_true h,fun h=>Nat.ble_eq_true_of_le h⟩
  rw [blt,Nat.beq_eq] at h1 h2 ⊢
  rcases h1 with h1 | ⟨h1,oo⟩
  ·rcases h2 with h2 | ⟨h2,sV⟩
   ·exact .inl (Nat.lt_trans h1 h2)
   ·exact .inl (by omega)
  ·rcases h2 with h2 | ⟨h2,sV⟩
   ·exact .inl (by omega)
   ·exact .inr ⟨by omega,Lv x y z oo sV⟩
theorem lZ {c:List Af}:∀ {i:Nat},(∀ j,j<i→BW c j=false)→∀ j k x y,j<k→k<i→c[j]?=some x→c[k]?=some y→Q5 (sb x.name) (sb y.name)=true:=by
 intro i h j k
 induction k with
 | zero=>intro x y hj; omega
 | succ k ih =>
  intro x y hj hk hx hy; have hb:=h (k+1) hk; unfold BW at hb; rw [hy] at hb; simp only [Bool.or_eq_false_iff] at hb; have hp:=hb.1.2; unfold Hx at hp; have cS:k<c.length:=by have:=(List.getElem?_eq_some_iff.1 hy).1; omega
  have hz:=List.getElem?_eq_getElem cS; simp only [hz,Bool.not_eq_false'] at hp
  rcases Nat.lt_succ_iff_lt_or_eq.1 hj with h1 | rfl
  ·exact Lv _ _ _ (ih x _ h1 (by omega) hx hz) hp
  ·rw [hx] at hz; cases hz; exact hp
theorem cT {c:List Af} {i:Nat} (h:∀ j,j<i→BW c j=false) {j k:Nat} {x y:Af} (hjk:j≠k) (hj:j<i) (hk:k<i) (hx:c[j]?=some x) (hy:c[k]?=some y):x.name≠y.name:=by
 intro e
 rcases Nat.lt_or_gt_of_ne hjk with h1 | h1
 ·have:=lZ h j k x y h1 hk hx hy; rw [e,N5] at this; cases this
 ·have:=lZ h k j y x h1 hj hy hx; rw [e,N5] at this; cases this
theorem pM {c:List Af} (h:∀ j,j<c.length→BW c j=false) {i:Nat} {x:Af} (hx:c[i]?=some x):BC c x.name=some i:=by
 unfold BC; have hi:=(List.getElem?_eq_some_iff.1 hx).1; have he:=(List.getElem?_eq_some_iff.1 hx).2; rw [List.findIdx?_eq_some_iff_getElem]; refine ⟨hi,by rw [he]; simp,fun j hj=>?_⟩; have TG:j<c.length:=by omega
 have:=cT h (by omega:j≠i) TG hi (List.getElem?_eq_getElem TG) hx
 simpa using this
theorem DA {c:List Af} {f i:Nat} {l:List Nat} {x:Af} (hx:c[i]?=some x) (h:Bh c f i=some l):(x.Bk=D2∧l=[i])∨(x.Bk≠D2∧∃ f' j m,f=f'+1∧Ub c i=some j∧Bh c f' j=some m∧l=i::m):=by
 by_cases hs:x.Bk=D2
 ·rw [Lr hx hs] at h; exact .inl ⟨hs,(Option.some.inj h).symm⟩
 ·right; refine ⟨hs,?_⟩
  cases f with
  | zero=>rw [b7 hx hs] at h; cases h
  | succ f =>
   rw [M1 hx hs] at h
   cases hj:Ub c i with
   | none=>rw [hj] at h; cases h
   | some j =>
    rw [hj] at h; simp only at h
    cases h1:Bh c f j with
    | none=>rw [h1] at h; cases h
    | some m =>
     rw [h1] at h; exact ⟨f,j,m,rfl,rfl,h1,(Option.some.inj h).symm⟩
theorem Ew {c:List Af} {f i:Nat} {l:List Nat} (h:Bh c f i=some l):∃ x,c[i]?=some x:=by
 unfold Bh at h
 cases hx:c[i]? with
 | none=>rw [hx] at h; cases h
 | some x=>exact ⟨x,rfl⟩
theorem VO {c:List Af}:∀ {f i:Nat} {l:List Nat},Bh c f i=some l→∀ {f':Nat} {l':List Nat},Bh c f' i=some l'→l=l':=by
 intro f
 induction f with
 | zero =>
  intro i l h f' l' h'; obtain ⟨x,hx⟩:=Ew h
  rcases DA hx h with ⟨hs,rfl⟩ | ⟨hs,f1,j,m,h1,_⟩
  ·rcases DA hx h' with ⟨_,rfl⟩ | ⟨L5,_⟩
   ·rfl
   ·exact (L5 hs).elim
  ·omega
 | succ f ih =>
  intro i l h f' l' h'; obtain ⟨x,hx⟩:=Ew h
  rcases DA hx h with ⟨hs,rfl⟩ | ⟨hs,f1,j,m,h1,h2,h3,rfl⟩
  ·rcases DA hx h' with ⟨_,rfl⟩ | ⟨L5,_⟩
   ·rfl
   ·exact (L5 hs).elim
  ·rcases DA hx h' with ⟨L5,_⟩ | ⟨_,f1',j',m',oo,sV,h3',rfl⟩
   ·exact (hs L5).elim
   ·have:f1=f:=by omega
    subst this; rw [h2] at sV
    cases sV
    rw [ih h3 h3']
theorem gd {c:List Af}:∀ {f i:Nat} {l:List Nat},Bh c f i=some l→∀ k,l.length≤k+1→Bh c k i=some l:=by
 intro f
 induction f with
 | zero =>
  intro i l h k hk; obtain ⟨x,hx⟩:=Ew h
  rcases DA hx h with ⟨hs,rfl⟩ | ⟨hs,f1,j,m,h1,_⟩
  ·exact Lr hx hs
  ·omega
 | succ f ih =>
  intro i l h k hk; obtain ⟨x,hx⟩:=Ew h
  rcases DA hx h with ⟨hs,rfl⟩ | ⟨hs,f1,j,m,h1,h2,h3,rfl⟩
  ·exact Lr hx hs
  ·have:f1=f:=by omega
   subst this; simp only [List.length_cons] at hk
   have hm:0<m.length:=by
    obtain ⟨y,hy⟩:=Ew h3; rcases DA hy h3 with ⟨_,rfl⟩ | ⟨_,_,_,_,_,_,_,rfl⟩ <;> simp
   cases k with
   | zero=>omega
   | succ k =>
    rw [M1 hx hs,h2]; simp only; rw [ih h3 k (by omega)]; rfl
theorem ZA {c:List Af}:∀ {f i:Nat} {l:List Nat},Bh c f i=some l→∀ j,j ∈ l→∃ f' m,Bh c f' j=some m∧m.length≤l.length:=by
 intro f
 induction f with
 | zero =>
  intro i l h j hj; obtain ⟨x,hx⟩:=Ew h
  rcases DA hx h with ⟨hs,rfl⟩ | ⟨hs,f1,j,m,h1,_⟩
  ·rw [List.mem_singleton.1 hj]; exact ⟨_,_,h,Nat.le_refl _⟩
  ·omega
 | succ f ih =>
  intro i l h j hj; obtain ⟨x,hx⟩:=Ew h
  rcases DA hx h with ⟨hs,rfl⟩ | ⟨hs,f1,k,m,h1,h2,h3,rfl⟩
  ·rw [List.mem_singleton.1 hj]; exact ⟨_,_,h,Nat.le_refl _⟩
  ·have:f1=f:=by omega
   subst this
   rcases List.mem_cons.1 hj with rfl | hj
   ·exact ⟨_,_,h,Nat.le_refl _⟩
   ·obtain ⟨f',m',h4,h5⟩:=ih h3 j hj; exact ⟨f',m',h4,by simp only [List.length_cons]; omega⟩
theorem cU {c:List Af}:∀ {f i:Nat} {l:List Nat},Bh c f i=some l→l.Nodup:=by
 intro f
 induction f with
 | zero =>
  intro i l h; obtain ⟨x,hx⟩:=Ew h
  rcases DA hx h with ⟨hs,rfl⟩ | ⟨hs,f1,j,m,h1,_⟩
  ·exact List.pairwise_singleton _ _
  ·omega
 | succ f ih =>
  intro i l h; obtain ⟨x,hx⟩:=Ew h
  rcases DA hx h with ⟨hs,rfl⟩ | ⟨hs,f1,k,m,h1,h2,h3,rfl⟩
  ·exact List.pairwise_singleton _ _
  ·have:f1=f:=by omega
   subst this; refine List.nodup_cons.2 ⟨fun hm=>?_,ih h3⟩; obtain ⟨f',m',h4,h5⟩:=ZA h3 i hm; have:=VO h h4; rw [←this] at h5; simp only [List.length_cons] at h5; omega
theorem eh {n:Nat} {o:List Nat} (h:o.Nodup) (hl:∀ v,v ∈ o→v<n):o.length≤n:=by
 have:=XD n (o.map fun v:Nat=>((v:Int)+1)) (by
  rw [List.Nodup,List.pairwise_map]
  exact h.imp fun Dp e=>Dp (by omega)) fun v hv=>by
   obtain ⟨u,hu,rfl⟩:=List.mem_map.1 hv; have:=hl u hu; omega
 rwa [List.length_map] at this
theorem VP {c:List Af} {f i:Nat} {l:List Nat} (h:Bh c f i=some l):Bh c c.length i=some l :=
 gd h _ (by have:=eh (cU h) (J4 c _ _ _ h).2; omega)
def Bt:List ByteArray→List Sx→Bool
 | _,[]=>true
 | F,f::fs=>(Hw f.name && (HE f.kind && !F.any fun s=>decide (s=f.name))) && Bt (F++[f.name]) fs
theorem Fo:∀ (F:List ByteArray) (fs gs:List Sx),Bt F (fs++gs)=(Bt F fs && Bt (F++fs.map (·.name)) gs)
 | F,[],gs=>by simp [Bt]
 | F,f::fs,gs=>by
  rw [List.cons_append,Bt,Bt,Fo]; simp [Bool.and_assoc]
theorem QI {fs:List Sx}:∀ k,k≤fs.length→(Bt [] (fs.take k)=true↔∀ j,j<k→Hy fs j=false)
 | 0,_=>by simp [Bt]
 | k+1,hk=>by
  have hx:=List.getElem?_eq_getElem (show k<fs.length by omega); have ih:=QI k (by omega:k≤fs.length); rw [List.take_add_one,hx,Option.toList_some,Fo,Bool.and_eq_true,ih]
  have hb:Hy fs k=false↔Bt ([]++(fs.take k).map (·.name)) [fs[k]]=true:=by
   unfold Hy Bt Bt; rw [hx]; simp only [Bool.and_true,Bool.and_eq_true,Bool.or_eq_false_iff,Bool.not_eq_false',Bool.not_eq_true',List.nil_append]
   have:S8 fs k fs[k].name=((fs.take k).map (·.name)).any fun s=>decide (s=fs[k].name):=by
    unfold S8 DT; rw [Bool.eq_iff_iff,List.any_eq_true,List.any_eq_true]
    constructor
    ·rintro ⟨n,hn,h⟩; have hnk:=List.mem_range.1 hn; rw [List.getElem?_eq_getElem (by omega)] at h; refine ⟨fs[n].name,List.mem_map.2 ⟨fs[n],?_,rfl⟩,by simpa using h⟩; exact List.mem_take_iff_getElem.2 ⟨n,by omega,rfl⟩
    ·rintro ⟨s,hs,h⟩; obtain ⟨f,hf,rfl⟩:=List.mem_map.1 hs; obtain ⟨n,hn,rfl⟩:=List.mem_take_iff_getElem.1 hf; refine ⟨n,List.mem_range.2 (by omega),?_⟩; rw [List.getElem?_eq_getElem (by omega)]
     simpa using h
   rw [this,and_assoc]
  constructor
  ·rintro ⟨h1,h2⟩ j hj
   rcases Nat.lt_succ_iff_lt_or_eq.1 hj with h | rfl
   ·exact h1 j h
   ·exact hb.2 h2
  ·intro h; exact ⟨fun j hj=>h j (by omega),hb.1 (h k (by omega))⟩
theorem cV (fs:List Sx):Bt [] fs=!DT fs.length (Hy fs):=by
 have h:=QI (fs:=fs) fs.length (Nat.le_refl _); rw [List.take_length] at h; rw [Bool.eq_iff_iff,h,Bool.not_eq_true']; exact ⟨fun h=>Em h,fun h j hj=>D' h hj⟩
def Bp (W:CW) (r:Nat) (S:List ByteArray):Prop:=∃ m:List (ByteArray × Value),E6 Value.string W r m∧∀ s,Jx m s=if S.any (fun x=>decide (x=s)) then some (.bool true) else none
theorem Bp.congr {W W':CW} {r:Nat} {S:List ByteArray} (h:Bp W r S) (ho:W'.obj r=W.obj r):Bp W' r S:=by
 obtain ⟨m,h1,h2⟩:=h; exact ⟨m,h1.congr ho,h2⟩
theorem Bp.lt {W:CW} (ht:At W) {r:Nat} {S:List ByteArray} (h:Bp W r S):r<W.sz:=by
 obtain ⟨m,h1,h2⟩:=h; exact h1.lt ht
theorem zr:prog.underlying 181=some (.map 9 4):=by kernel_rfl
theorem z4:GP prog 4=some (.bool false):=by kernel_rfl
theorem Bp.look {W:CW} {r:Nat} {S:List ByteArray} (h:Bp W r S) (s:ByteArray):HB prog 181 (.map (some r)) (.string s) false W=some (.bool (S.any fun x=>decide (x=s))):=by
 obtain ⟨m,h1,h2⟩:=h; rw [Jy zr u9 rfl z4 FX h1 s false,h2]
 cases S.any fun x=>decide (x=s) <;> rfl
theorem Bp.put {W:CW} {r:Nat} {S:List ByteArray} (h:Bp W r S) {s:ByteArray} {K:CW→Prop} (hK:∀ W1,DM r W W1→Bp W1 r (S++[s])→K W1):wV (aC prog 181 (.map (some r)) (.string s) (.bool true) W) K:=by
 obtain ⟨m,h1,h2⟩:=h; refine Yy zr u9 rfl FX h1 fun W1 hu hm=>hK W1 hu ⟨_,hm,fun u=>?_⟩; rw [HX,h2,List.any_append]
 by_cases e:u=s
 ·rw [if_pos e,e]; simp
 ·rw [if_neg e]; have:([s].any fun x=>decide (x=u))=false:=by simp; exact fun h=>e h.symm
  rw [this,Bool.or_false]
def ZB (W:CW) (u:Value) (x:Af):Prop:=∃ vf ab lb cb,u=.agg #[.string x.name,.string x.Bk,vf,.int .u8 x.elem,.slice ab lb cb]∧Ay 2 (Ot W) vf x.fields
end Go.Ce
namespace Go.Ce
open Go Go.Proofs Go.Proofs.Tryz
theorem D8 {S:Nat→Prop} {W W':CW} (h:Bl S W W') (ht:At W) (hm:∀ j,S j→∀ k,W.cell j k=none) {b k:Nat} {v:Value} (hc:W.cell b k=some v):W'.cell b k=some v :=
 h.cell ht (fun hs=>by rw [hm b hs k] at hc; cases hc) hc
theorem Bp.cell {W:CW} {r:Nat} {S:List ByteArray} (h:Bp W r S) (k:Nat):W.cell r k=none:=by
 obtain ⟨m,⟨es,Dq,h1,_⟩,_⟩:=h; unfold CW.cell; rw [h1]
def RX (W:CW) (r:Nat) (c:List Af):Prop:=∃ m:List (ByteArray × Value),E6 Value.string W r m∧∀ s,match BC c s with
 | some i=>∃ u x,Jx m s=some u∧c[i]?=some x∧ZB W u x
 | none=>Jx m s=none
theorem zs:prog.underlying 75=some (.map 9 48):=by kernel_rfl
def pN:Value:=.agg #[.string ⟨#[]⟩,.string ⟨#[]⟩,.slice none 0 0,.int .u8 0,.slice none 0 0]
theorem RX.some {W:CW} {r:Nat} {c:List Af} (h:RX W r c) {s:ByteArray} {i:Nat} (hi:BC c s=Option.some i):∃ u x,c[i]?=Option.some x∧ZB W u x∧HB prog 75 (.map (Option.some r)) (.string s) true W=Option.some (.tuple #[u,.bool true])∧HB prog 75 (.map (Option.some r)) (.string s) false W=Option.some u:=by
 obtain ⟨m,h1,h2⟩:=h; have:=h2 s; rw [hi] at this; obtain ⟨u,x,h3,h4,h5⟩:=this
 refine ⟨u,x,h4,h5,?_,?_⟩
 ·rw [Jy zs u9 rfl lQ FX h1 s true,h3]; rfl
 ·rw [Jy zs u9 rfl lQ FX h1 s false,h3]; rfl
theorem RX.none {W:CW} {r:Nat} {c:List Af} (h:RX W r c) {s:ByteArray} (hi:BC c s=Option.none):HB prog 75 (.map (Option.some r)) (.string s) true W=Option.some (.tuple #[pN,.bool false])∧HB prog 75 (.map (Option.some r)) (.string s) false W=Option.some pN:=by
 obtain ⟨m,h1,h2⟩:=h; have:=h2 s; rw [hi] at this
 constructor
 ·rw [Jy zs u9 rfl lQ FX h1 s true,this]; rfl
 ·rw [Jy zs u9 rfl lQ FX h1 s false,this]; rfl
theorem ZB.Dd {S:Nat→Prop} {W W':CW} (h:Bl S W W') (ht:At W) (hm:∀ j,S j→∀ k,W.cell j k=none) {u:Value} {x:Af} (hu:ZB W u x):ZB W' u x:=by
 obtain ⟨vf,ab,lb,cb,h1,h2⟩:=hu; exact ⟨vf,ab,lb,cb,h1,h2.imp fun _ _ _ hr=>⟨D8 h ht hm hr.name,D8 h ht hm hr.kind,hr.lo,hr.hi⟩⟩
theorem RX.Dd {S:Nat→Prop} {W W':CW} (h:Bl S W W') (ht:At W) (hm:∀ j,S j→∀ k,W.cell j k=Option.none) {r:Nat} {c:List Af} (hr:RX W r c) (hS:¬S r):RX W' r c:=by
 obtain ⟨m,h1,h2⟩:=hr; refine ⟨m,h1.congr (h.obj r (h1.lt ht) hS),fun s=>?_⟩; have:=h2 s
 cases hi:BC c s with
 | none=>rw [hi] at this; exact this
 | some i =>
  rw [hi] at this; obtain ⟨u,x,h3,h4,h5⟩:=this; exact ⟨u,x,h3,h4,h5.Dd h ht hm⟩
theorem RX.kp {W W':CW} {r:Nat} {c:List Af} (hr:RX W r c) (ht:At W) (k:Kp W W'):RX W' r c:=hr.Dd (Bl.FN (S:=fun _=>False) k) ht (fun _ h=>h.elim) (fun h=>h)
theorem Bp.kp {W W':CW} {r:Nat} {S:List ByteArray} (h:Bp W r S) (ht:At W) (k:Kp W W'):Bp W' r S:=h.congr (k.obj r (h.lt ht))
structure O1 (W:CW) (bk bs ba bf rs rf r1:Nat) (c:List Af):Prop where
 k:W.cell bk 0=some (.map (some r1))
 s:W.cell bs 0=some (.map (some rs))
 f:W.cell bf 0=some (.map (some rf))
 a:W.cell ba 0=some (.func (.func 125) #[] #[.pointer (some ⟨bk,0,none⟩),.pointer (some ⟨bs,0,none⟩),.pointer (some ⟨ba,0,none⟩),.pointer (some ⟨bf,0,none⟩)])
 sh:RX W r1 c
 ns:r1≠rs
 nf:r1≠rf
 sf:rs≠rf
def TH (rs rf:Nat) (j:Nat):Prop:=j=rs∨j=rf
theorem TH.none {W:CW} {rs rf:Nat} {S F:List ByteArray} (hs:Bp W rs S) (hf:Bp W rf F):∀ j,TH rs rf j→∀ k,W.cell j k=none:=by
 rintro j (rfl | rfl) k
 ·exact hs.cell k
 ·exact hf.cell k
theorem O1.Dd {W W':CW} {bk bs ba bf rs rf r1:Nat} {c:List Af} (R:O1 W bk bs ba bf rs rf r1 c) (ht:At W) {S F:List ByteArray} (hs:Bp W rs S) (hf:Bp W rf F) (h:Bl (TH rs rf) W W'):O1 W' bk bs ba bf rs rf r1 c :=
 have hm:=TH.none hs hf
 ⟨D8 h ht hm R.k,D8 h ht hm R.s,D8 h ht hm R.f,D8 h ht hm R.a,R.sh.Dd h ht hm (fun h=>h.elim R.ns R.nf),R.ns,R.nf,R.sf⟩
theorem Ot.ld {W:CW} {b o:Nat} {x:Sx} (h:Ot W b o x):ld prog 72 (.pointer (some ⟨b,o,none⟩)) W=some (.agg [.string x.name,.int .u8 x.kind].toArray) :=
 Bd (vs:=[.string x.name,.int .u8 x.kind]) a72 s72 rfl (by omega) h.cells
theorem um:agg? prog 181=some false:=by kernel_rfl
theorem pO:agg? prog 75=some false:=by kernel_rfl
theorem rB:agg? prog 76=some false:=by kernel_rfl
theorem zt:agg? prog 161=some false:=by kernel_rfl
theorem HS (a:Addr):A_ prog 78 (.pointer (some a)) 0=some (.pointer (some ⟨a.block,a.off,none⟩)):=by kernel_rfl
theorem IW (a:Addr):A_ prog 78 (.pointer (some a)) 1=some (.pointer (some ⟨a.block,a.off+1,none⟩)):=by kernel_rfl
theorem ZC {F:List ByteArray} {gs:List Sx} {j:Nat} {g:Sx} (hg:gs[j]?=some g):Bt F (gs.take (j+1))=(Bt F (gs.take j) && (Hw g.name && (HE g.kind && !(F++(gs.take j).map (·.name)).any fun s=>decide (s=g.name)))):=by
 rw [List.take_add_one,hg,Option.toList_some,Fo]; congr 1; simp [Bt]
theorem cW {F:List ByteArray} {gs:List Sx} (j:Nat) (h:Bt F (gs.take j)=false):Bt F gs=false:=by
 rw [←List.take_append_drop j gs,Fo,h,Bool.false_and]
theorem gf {W0 W:CW} {K:AG} {e e1:Env} {vf out:Value} {bk bs ba bf rs rf r1:Nat} {c:List Af} {S F:List ByteArray} {gs:List Sx} {ks:List Int} (t0:At W0) (R:O1 W0 bk bs ba bf rs rf r1 c) {S0 F0:List ByteArray} (Uv:Bp W0 rs S0) (rC:Bp W0 rf F0) (Gp:Bl (TH rs rf) W0 W) (ht:At W) (hs:Bp W rs S) (hf:Bp W rf F)
  (hv:Ay 2 (Ot W0) vf gs) (hgl:gs.length≤100) (hnm:∀ g,g ∈ gs→g.name.size<1000) (ho:DN W 5 1 out (Fl ks)) (U2:Bw W0.sz out) (cS:ks.length<100000)
  (h4:e 4=.pointer (some ⟨bf,0,none⟩)) (h49:e 49=vf) (h50:e 50=.int .i64 gs.length) (he:ER [4,49,50] e e1) (lg:e1 10=out) (h51:e1 51=.int .i64 0)
  (Gc:Bt F gs=false→∀ e' W',Bl (TH rs rf) W0 W'→At W'→e' 6=.slice none 0 0→e' 7=.bool false→K .ret e' [] W')
  (QJ:Bt F gs=true→∀ e' W' KT,Bl (TH rs rf) W0 W'→At W'→e' 10=KT→DN W' 5 1 KT (Fl (ks++gs.map (·.kind)))→Bw W0.sz KT→Bp W' rs S→Bp W' rf (F++gs.map (·.name))→K (.exit 0) e' [] W') :
  C1 prog AT none 125 84 (.loop (Ag prog 125 0)) e1 [] W K:=by
 have Ob:=TH.none Uv rC; have AB0:=Uv.lt t0; have AB1:=rC.lt t0
 refine Du (fun j e' C_ W'=>C_=[]∧∃ KT,Bl (TH rs rf) W0 W'∧At W'∧ER [4,49,50] e e'∧e' 10=KT∧e' 51=.int .i64 j∧DN W' 5 1 KT (Fl (ks++(gs.take j).map (·.kind)))∧Bw W0.sz KT∧Bp W' rs S∧Bp W' rf (F++(gs.take j).map (·.name))∧Bt F (gs.take j)=true) gs.length
  ⟨rfl,out,Gp,ht,he,lg,h51,by simpa using ho,U2,hs,by simpa using hf,by simp [Bt]⟩ ?_
 rintro j e' C_ W' hj ⟨rfl,KT,lh,t',hAg,pP,g51,G5,uo,L5,Z_,Ae⟩; have g4:=(hAg 4 (by decide)).trans h4; have g49:=(hAg 49 (by decide)).trans h49; have g50:=(hAg 50 (by decide)).trans h50; rw [ow,g4,g49,g50,g51]; simp only [A6,AA]
 refine Gx (fun Ax=>?_) (fun NW=>?_)
 ·have hx:=List.getElem?_eq_getElem Ax; obtain ⟨a,cap,rfl,hc⟩:=hv; obtain ⟨p,rfl,hp⟩:=hc j _ hx; have hpW:Ot W' p.block (p.off+j*2) gs[j]:=⟨D8 lh t0 Ob hp.name,D8 lh t0 Ob hp.kind,hp.lo,hp.hi⟩
  rw [BH qw s72 Ax]; simp only [AA]; rw [hpW.ld]; simp only [AA]; refine DG z72 s72 rfl rfl rfl t' fun W1 k1 t1 z1 hB=>?_; have q0:∀ W2,Kp W1 W2→ld prog 9 (.pointer (some ⟨W'.sz,0,none⟩)) W2=some (.string gs[j].name):=fun W2 k2=>AD a9 (a:=⟨W'.sz,0,none⟩) (k2.cell t1 (hB.cell rfl)); have q1:∀ W2,Kp W1 W2→ld prog 5 (.pointer (some ⟨W'.sz,0+1,none⟩)) W2=some (.int .u8 gs[j].kind):=fun W2 k2=>AD a5 (a:=⟨W'.sz,0+1,none⟩) (k2.cell t1 (hB.cell rfl)); simp only [W_,eT,AA,q0 W1 (.refl _)]; have qc:=ZC (F:=F) hx; rw [Ae,Bool.true_and] at qc; have ADv:=lh.sz; refine VK (LG t1 (by have:=hnm _ (List.getElem_mem Ax); omega)) fun W2 k2 t2=>?_; have ek:=k1.trans k2; have cX:Bl (TH rs rf) W0 W2:=lh.then (Bl.FN (S:=fun _=>False) ek) fun _ _ h=>h.elim
  have leaf:∀ (b:Bool) (e2:Env),ER [4,10,49,50,51] e' e2→e2 12=.pointer (some ⟨W'.sz,0,none⟩)→e2 70=.bool b→(b=!Bt F (gs.take (j+1))) →
    (Ht none (J5 (fun j e' C_ W'=>C_=[]∧∃ KT,Bl (TH rs rf) W0 W'∧At W'∧ER [4,49,50] e e'∧e' 10=KT∧e' 51=.int .i64 j∧DN W' 5 1 KT (Fl (ks++(gs.take j).map (·.kind)))∧Bw W0.sz KT∧Bp W' rs S∧Bp W' rf (F++(gs.take j).map (·.name))∧Bt F (gs.take j)=true) j gs.length K)) .normal e2 [] W2:=by
   intro b e2 VQ r12 r70 hb; simp only [Ht,Bs,r70]
   refine AL (fun TI=>?_) (fun TI=>?_)
   ·simp only [LD,RQ,Bs,KR,RR,HC,Ud]; rw [TI] at hb; exact Gc (cW (j+1) (by simpa using hb.symm)) _ W2 cX t2 rfl rfl
   ·rw [TI] at hb; have UR:Bt F (gs.take (j+1))=true:=by simpa using hb.symm
    have r4:=(VQ 4 (by decide)).trans g4; have r10:=(VQ 10 (by decide)).trans pP; have r51:=(VQ 51 (by decide)).trans g51; simp only [LD,Bs,r4,r10,r12]; have qf:ld prog 181 (.pointer (some ⟨bf,0,none⟩)) W2=some (.map (some rf)):=AD um (a:=⟨bf,0,none⟩) (D8 cX t0 Ob R.f); simp only [qf,AA,W_,eT,q0 W2 k2]; refine (Z_.kp t' ek).put fun W3 hu hf3=>?_; have AB2:rf<W2.sz:=by have:=cX.sz; omega
    have t3:At W3:=t2.A4 AB2 hu; have AB3:W'.sz≠rf:=by omega
    have qk:ld prog 5 (.pointer (some ⟨W'.sz,0+1,none⟩)) W3=some (.int .u8 gs[j].kind):=AD a5 (a:=⟨W'.sz,0+1,none⟩) (by
     show W3.cell W'.sz (0+1)=_; rw [hu.cell AB3]
     exact k2.cell t1 (hB.cell rfl))
    simp only [qk,AA]; have ho3:DN W3 5 1 KT (Fl (ks++(gs.take j).map (·.kind))):=Ow (G5.kp t' ek) hu fun b l c e=>by have:=uo b l c e; omega
    refine lM PR s5 z5 rfl (by omega) by5 (by omega) (zP _) rfl rfl t3 ho3 (by rw [cD,List.length_append,List.length_map,List.length_take]; omega) fun u v1 W4 KG t4 o4 n4=>?_; have HJ:∀ i,C2 KT i→W0.sz≤i:=fun i hi=>uo.in hi; have AB4:Bl (TH rs rf) W0 W4:=((cX.then hu.Dd fun i hi h=>.inr h)).then KG.Dd fun i hi h=>by have:=HJ i h; omega
    have O2:=KG.sz; simp only [RQ,Bs,HC]; simp only [Aa,Av,Nat.reduceEqDiff,↓reduceIte,r51,Ap,AA]
    have kH:Bp W4 rs S:=by
     have h2:=L5.kp t' ek; have h3:Bp W3 rs S:=h2.congr (hu.obj rs R.sf); exact h3.congr (KG.obj rs (by rw [hu.sz]; have:=cX.sz; omega) fun b l c e hb=>by have:=HJ rs ⟨b,l,c,e,hb.symm⟩; omega)
    have hf4:Bp W4 rf ((F++(gs.take j).map (·.name))++[gs[j].name]) :=
     hf3.congr (KG.obj rf (by rw [hu.sz]; omega) fun b l c e hb=>by have:=HJ rf ⟨b,l,c,e,hb.symm⟩; omega)
    refine ⟨Ax,trivial,v1,AB4,t4,(hAg.trans fun t ht=>VQ t (by revert t; decide)).trans ((ER.put rfl).trans (.put rfl)),rfl,by rw [Dv (by omega)],?_,n4 _ (by rw [hu.sz]; exact cX.sz),kH,?_,UR⟩
    ·rw [List.take_add_one,hx]; have:Fl (ks++((gs.take j)++(some gs[j]).toList).map (·.kind))=Fl (ks++(gs.take j).map (·.kind))++[.int .u8 gs[j].kind]:=by simp only [Fl,List.map_append,Option.toList_some,List.map_cons,List.map_nil,List.append_assoc]
     rw [this]; exact o4
    ·rw [List.take_add_one,hx,List.map_append,←List.append_assoc]; exact hf4
  simp only [Al,AA]
  refine AL (fun hb=>?_) (fun hb=>?_)
  ·have hb:Hw gs[j].name=false:=by simpa using hb
   exact leaf true _ (.put rfl) rfl rfl (by rw [qc,hb]; rfl)
  ·have hb:Hw gs[j].name=true:=by simpa using hb
   simp only [q1 W2 k2,AA]; refine EP (VI _ _) ?_; simp only [Al,AA]
   refine AL (fun Ut=>?_) (fun Ut=>?_)
   ·have Ut:HE gs[j].kind=false:=by unfold HE; simpa only [Bool.not_eq_true'] using Ut
    exact leaf true _ (.put rfl) rfl rfl (by rw [qc,hb,Ut]; rfl)
   ·have Ut:HE gs[j].kind=true:=by unfold HE; simpa only [Bool.not_eq_false'] using Ut
    have qf:ld prog 181 (.pointer (some ⟨bf,0,none⟩)) W2=some (.map (some rf)):=AD um (a:=⟨bf,0,none⟩) (D8 cX t0 Ob R.f); simp only [qf,q0 W2 k2,AA,(Z_.kp t' ek).look]; exact leaf _ _ (.put rfl) rfl rfl (by rw [qc,hb,Ut]; simp)
 ·simp only [ON]; have gg:gs.take j=gs:=List.take_of_length_le (by omega); rw [gg] at G5 Z_ Ae; exact QJ Ae _ W' KT lh t' pP G5 uo L5 Z_
end Go.Ce
namespace Go.Ce
open Go Go.Proofs Go.Proofs.Tryz
def nameAt (c:List Af) (i:Nat):ByteArray:=match c[i]? with
 | some x=>x.name
 | none=>D2
def JN (c:List Af) (F:List ByteArray) (s:ByteArray):Option (List Sx):=match BC c s with
 | some i=>match Bh c c.length i with
  | some l=>if Bt F (l.reverse.flatMap (JJ c)) && decide ((l.reverse.flatMap (JJ c)).length≤60) then some (l.reverse.flatMap (JJ c)) else none
  | none=>none
 | none=>none
def RY (c:List Af) (rs rf:Nat) (F:List ByteArray) (s:ByteArray) (W:CW):Ending→CW→Prop:=fun e W'=>Bl (TH rs rf) W W'∧At W'∧match JN c F s with
 | some fs=>∃ vo S',e=.returned (.tuple #[vo,.bool true])∧DN W' 5 1 vo (Fl (fs.map (·.kind)))∧Bw W.sz vo∧Bp W' rs S'∧Bp W' rf (F++fs.map (·.name))
 | none=>∃ vo,e=.returned (.tuple #[vo,.bool false])
theorem N6 (a b c d e:Value):yg prog 48 (.agg #[a,b,c,d,e]) 3=some d:=by kernel_rfl
theorem TK {args:List Value} {cap:Array Value} {W:CW} {K:Value→CW→Prop} {KP:List PanicEntry→CW→Prop} (h:AH prog AT 125 (args++cap.toList) W (AV K KP)):Dj prog AT (.func (.func 125) #[] cap) args W K KP :=
 Ll Tryz.func125 (by kernel_rfl) (by simpa using h)
theorem lj {c:List Af} (hs:∀ j,j<c.length→BW c j=false) {S:List Nat} (hS:∀ j,j ∈ S→j<c.length) {i:Nat} {x:Af} (hx:c[i]?=some x):((S.map (nameAt c)).any fun u=>decide (u=x.name))=decide (i ∈ S):=by
 rw [Bool.eq_iff_iff,List.any_eq_true,decide_eq_true_eq]
 constructor
 ·rintro ⟨u,hu,he⟩; obtain ⟨j,hj,rfl⟩:=List.mem_map.1 hu; have TG:=hS j hj; have lk:=List.getElem?_eq_getElem TG; have he:=of_decide_eq_true he; unfold nameAt at he; rw [lk] at he
  by_cases e:j=i
  ·exact e ▸ hj
  ·exact (cT hs e TG (List.getElem?_eq_some_iff.1 hx).1 lk hx he).elim
 ·intro hi; exact ⟨x.name,List.mem_map.2 ⟨i,hi,by unfold nameAt; rw [hx]⟩,by simp⟩
theorem uq {c:List Af} (hC:Qz c) (hsh:∀ j,j<c.length→BW c j=false) {bk bs ba bf rs rf r1:Nat} {F:List ByteArray}:∀ (n:Nat) (S:List Nat) (s:ByteArray) (W:CW),At W→O1 W bk bs ba bf rs rf r1 c→Bp W rs (S.map (nameAt c))→Bp W rf F→S.Nodup→(∀ j,j ∈ S→j<c.length)→c.length≤n+S.length →
  (∀ i0,i0 ∈ S→∀ f l,Bh c f i0=some l→∃ i f' m,BC c s=some i∧Bh c f' i=some m∧m.length<l.length)→s.size<1000000 →
  AH prog AT 125 [.string s,.pointer (some ⟨bk,0,none⟩),.pointer (some ⟨bs,0,none⟩),.pointer (some ⟨ba,0,none⟩),.pointer (some ⟨bf,0,none⟩)] W (RY c rs rf F s W):=by
 intro n
 induction n using Nat.strongRecOn with
 | ind n ih =>
  intro S s W ht R hs hf QB xQ hlen hinv HV; refine tz ?_; rw [tx]; have qk:∀ W1,Kp W W1→ld prog 75 (.pointer (some ⟨bk,0,none⟩)) W1=some (.map (some r1)):=fun W1 k1=>AD pO (a:=⟨bk,0,none⟩) (k1.cell ht R.k); have qs:∀ W1,Kp W W1→ld prog 181 (.pointer (some ⟨bs,0,none⟩)) W1=some (.map (some rs)):=fun W1 k1=>AD um (a:=⟨bs,0,none⟩) (k1.cell ht R.s); simp only [HS,AA,qk W (.refl _)]; generalize JO:AK prog Tryz.f125 (RY c rs rf F s W)=K
  have HJ:∀ (e:Env) W' v,Bl (TH rs rf) W W'→At W'→e 6=v→e 7=.bool false→JN c F s=none→K .ret e [] W':=by
   intro e W' v k t h6 h7 hr; rw [←JO,Sw,h6,h7]; unfold RY; rw [hr]; exact ⟨k,t,v,rfl⟩
  cases hi:BC c s with
  | none =>
   obtain ⟨l1,_⟩:=R.sh.none hi; simp only [l1,CA,CB,AA]; have JP:JN c F s=none:=by unfold JN; rw [hi]
   refine DG (ws:=[.string ⟨#[]⟩,.string ⟨#[]⟩,.slice none 0 0,.int .u8 0,.slice none 0 0]) lQ eS rfl rfl rfl ht fun W1 k1 t1 z1 hB=>?_; simp only [Al,AA]; rw [show (!false)=true from rfl]; simp only [Bm,RP,Lk,FV,IS,Bs,KR,VE]; rw [show ∀ b l,(Env.of (Env.args [Value.string s,.pointer (some ⟨bk,0,none⟩),.pointer (some ⟨bs,0,none⟩),.pointer (some ⟨ba,0,none⟩),.pointer (some ⟨bf,0,none⟩)]) ((26,b)::l)) 26=b from fun _ _=>rfl]; simp only [Bm]; exact HJ _ W1 _ (Bl.FN k1) t1 rfl rfl JP
  | some i =>
   obtain ⟨u,x,hx,hu,l1,_⟩:=R.sh.some hi; simp only [l1,CA,CB,AA]; obtain ⟨vf,ab,lb,cb,rfl,hvf⟩:=hu; obtain ⟨af,cf,rfl,_⟩:=id hvf; have K5:=(List.getElem?_eq_some_iff.1 hx).1
   have SF:x.name=s:=by
    obtain ⟨h1,h2,_⟩:=List.findIdx?_eq_some_iff_getElem.1 hi; rw [List.getElem?_eq_getElem h1] at hx; cases hx; exact of_decide_eq_true h2
   refine DG (ws:=[.string x.name,.string x.Bk,.slice af x.fields.length cf,.int .u8 x.elem,.slice ab lb cb]) lQ eS rfl rfl rfl ht fun W1 k1 t1 z1 hB=>?_; simp only [Al,AA]; rw [show (!true)=false from rfl]; have WA:=hs.kp ht k1; have YB:=hf.kp ht k1; simp only [Ao,qs W1 k1,AA,WA.look]; rw [←SF,lj hsh xQ hx]; have pQ:∀ b l,(Env.of (Env.args [Value.string s,.pointer (some ⟨bk,0,none⟩),.pointer (some ⟨bs,0,none⟩),.pointer (some ⟨ba,0,none⟩),.pointer (some ⟨bf,0,none⟩)]) ((26,b)::l)) 26=b:=fun _ _=>rfl; simp only [RP,Bs]; rw [SF,pQ]; have Ob:=TH.none hs hf; have zu:=TH.none WA YB; have AB5:=WA.lt t1; have ADw:=YB.lt t1; have AB0:=hs.lt ht; have AB1:=hf.lt ht; have q1:∀ W2,Bl (TH rs rf) W1 W2→ld prog 9 (.pointer (some ⟨W.sz,0+1,none⟩)) W2=some (.string x.Bk):=fun W2 k2=>AD a9 (a:=⟨W.sz,0+1,none⟩) (D8 k2 t1 zu (hB.cell rfl)); have q2:∀ W2,Bl (TH rs rf) W1 W2→ld prog 45 (.pointer (some ⟨W.sz,0+2,none⟩)) W2=some (.slice af x.fields.length cf):=fun W2 k2=>AD a45 (a:=⟨W.sz,0+2,none⟩) (D8 k2 t1 zu (hB.cell rfl))
   refine AL (fun hm=>?_) (fun hm=>?_)
   ·have hm:=of_decide_eq_true hm; simp only [Lk,FV,IS,Bs,KR,VE]; refine HJ _ W1 _ (Bl.FN k1) t1 rfl rfl ?_; unfold JN; rw [hi]; simp only
    cases hl:Bh c c.length i with
    | none=>rfl
    | some l =>
     obtain ⟨i',f',m,h1,h2,h3⟩:=hinv i hm _ _ hl; rw [hi] at h1; cases h1; rw [VO hl h2] at h3; omega
   ·have hm:=of_decide_eq_false hm; simp only [Lk,Bs]; simp only [Aa,Av,xM,Nat.reduceEqDiff,↓reduceIte,xN,zM,oy]; simp only [qs W1 k1,AA]; refine WA.put fun W2 Ni Xf=>?_; have c2:Bl (TH rs rf) W1 W2:=⟨by rw [Ni.sz]; exact Nat.le_refl _,fun j hj hn=>Ni.obj j (fun e=>hn (.inl e))⟩
    have t2:=t1.A4 AB5 Ni; have V9:Bp W2 rf F:=YB.congr (Ni.obj rf (Ne.symm R.sf)); have R1:=R.Dd ht hs hf (Bl.FN k1); have R2:=R1.Dd t1 WA YB c2; have c02:Bl (TH rs rf) W W2:=(Bl.FN k1).then c2 fun _ _ h=>h
    have Xf:Bp W2 rs ((S++[i]).map (nameAt c)):=by
     rw [List.map_append]; have:nameAt c i=s:=by unfold nameAt; rw [hx]; exact SF
     simp only [List.map_cons,List.map_nil,this]; exact Xf
    simp only [Wy,AA,q1 W2 c2,Oq,Lm]; have Ua:x.fields.length≤100:=hC.fields x (List.mem_of_getElem? hx); have V7:∀ g,g ∈ x.fields→g.name.size<1000:=hC.zS x (List.mem_of_getElem? hx)
    have tail:∀ (W3:CW) (out:Value) (S3:List ByteArray) (hd:List Sx) (e2:Env),Bl (TH rs rf) W W3→Bl (TH rs rf) W1 W3→At W3→Bp W3 rs S3→Bp W3 rf (F++hd.map (·.name))→DN W3 5 1 out (Fl (hd.map (·.kind)))→Bw W.sz out→hd.length≤60→e2 4=.pointer (some ⟨bf,0,none⟩)→e2 8=.pointer (some ⟨W.sz,0,none⟩)→e2 10=out →
      (JN c F s=if Bt F (hd++x.fields) && decide ((hd++x.fields).length≤60) then some (hd++x.fields) else none)→Bt F hd=true →
      (FV none K) .normal e2 [] W3:=by
     intro W3 out S3 hd e2 c3 c13 t3 hs3 hf3 ho3 lq zw h4 h8 lg JP AB6; simp only [FV,Bs,h8,Ns,AA,q2 W3 c13,Ac qw]; have ADx:=c3.sz
     refine gf (e:=Env.of e2 [(50,.int .i64 x.fields.length),(49,.slice af x.fields.length cf)]) ht R hs hf c3 t3 hs3 hf3 hvf Ua V7 ho3 lq (by rw [List.length_map]; omega) h4 rfl rfl (fun t ht=>by
      simp only [List.mem_cons,List.not_mem_nil,or_false] at ht
      rcases ht with rfl | rfl | rfl <;> rfl) lg rfl (fun hb e' W' c' t' h6 h7=>?_) (fun hb e' W' KT c' t' AB7 G5 oJ L5 Z_=>?_)
     ·simp only [KR,RR,IS]; refine HJ e' W' _ c' t' h6 h7 ?_; rw [JP,Fo,hb]; simp
     ·have cS:(Fl (hd.map (·.kind)++x.fields.map (·.kind))).length=(hd++x.fields).length*1:=by simp [Fl]
      simp only [Bs,VD,Md,if_true,IS,AB7]; rw [LI PR G5 (by omega) cS]; simp only [AA,Hv]; have AB8:Bt F (hd++x.fields)=true:=by rw [Fo,AB6,hb]; rfl
      rw [AB8,Bool.true_and] at JP; rw [←JO,Sw]; unfold RY
      by_cases hle:(hd++x.fields).length≤60
      ·rw [JP,if_pos (decide_eq_true hle)]; refine ⟨c',t',KT,S3,?_,by rw [List.map_append]; exact G5,oJ,L5,by rw [List.map_append,←List.append_assoc]; exact Z_⟩; simp only [Aa,Nat.reduceEqDiff,↓reduceIte]; rw [decide_eq_true (by omega)]
      ·rw [JP,if_neg (by simp; simp at hle; omega)]; refine ⟨c',t',KT,?_⟩; simp only [Aa,Nat.reduceEqDiff,↓reduceIte]; rw [decide_eq_false (by omega)]
    refine AL (fun ZD=>?_) (fun ZD=>?_)
    ·have ZD:x.Bk≠D2:=by simpa [D2] using ZD
     obtain rD:=R2.sh; have qk2:ld prog 75 (.pointer (some ⟨bk,0,none⟩)) W2=some (.map (some r1)):=AD pO (a:=⟨bk,0,none⟩) R2.k; have qa2:ld prog 161 (.pointer (some ⟨ba,0,none⟩)) W2=some (.func (.func 125) #[] #[.pointer (some ⟨bk,0,none⟩),.pointer (some ⟨bs,0,none⟩),.pointer (some ⟨ba,0,none⟩),.pointer (some ⟨bf,0,none⟩)]):=AD zt (a:=⟨ba,0,none⟩) R2.a; simp only [HS,AA,qk2,q1 W2 c2,qa2]
     have VR:Ub c i=match BC c x.Bk with
       | some j=>if elemAt c j=0 then some j else none
       | none=>none:=by
      unfold Ub; rw [hx]; simp only; unfold BC
      cases hj:c.findIdx? fun y=>decide (y.name=x.Bk) with
      | none=>rfl
      | some j =>
       have TG:=(List.findIdx?_eq_some_iff_getElem.1 hj).1; simp only [elemAt,List.getElem?_eq_getElem TG]
     have ur:x.Bk.size<1000000:=by have:=hC.sup x (List.mem_of_getElem? hx); omega
     have uu:∀ f m,Bh c f i=some m→∃ j f' m',Ub c i=some j∧Bh c f' j=some m'∧m=i::m':=by
      intro f m h
      rcases DA hx h with ⟨h1,_⟩ | ⟨_,f1,j,m',_,h2,h3,h4⟩
      ·exact (ZD h1).elim
      ·exact ⟨j,f1,m',h2,h3,h4⟩
     have hij:∀ j,Ub c i=some j→BC c x.Bk=some j:=by
      intro j h; rw [VR] at h
      cases hj:BC c x.Bk with
      | none=>rw [hj] at h; cases h
      | some j' =>
       rw [hj] at h; simp only at h
       split at h
       ·exact h
       ·cases h
     have zx:(S++[i]).Nodup:=by
      rw [List.nodup_append]; exact ⟨QB,List.pairwise_singleton _ _,fun a ha b hb=>by rw [List.mem_singleton.1 hb]; exact fun e=>hm (e ▸ ha)⟩
     have zy:∀ j,j ∈ S++[i]→j<c.length:=fun j hj=>by
      rcases List.mem_append.1 hj with h | h
      ·exact xQ j h
      ·rw [List.mem_singleton.1 h]; exact K5
     have hpg:=eh zx zy; rw [List.length_append,List.length_singleton] at hpg
     have YG:=ih (n-1) (by omega) (S++[i]) x.Bk W2 t2 R2 Xf V9 zx zy (by rw [List.length_append,List.length_singleton]; omega) (fun i0 h0 f l hl=>by
      have h1:∃ f' m,Bh c f' i=some m∧m.length≤l.length:=by
       rcases List.mem_append.1 h0 with h | h
       ·obtain ⟨i',f',m,h2,h3,h4⟩:=hinv i0 h f l hl; rw [hi] at h2; cases h2; exact ⟨f',m,h3,Nat.le_of_lt h4⟩
       ·rw [List.mem_singleton.1 h] at hl; exact ⟨f,l,hl,Nat.le_refl _⟩
      obtain ⟨f',m,h2,h3⟩:=h1; obtain ⟨j,f2,m',h4,h5,rfl⟩:=uu f' m h2
      exact ⟨j,f2,m',hij j h4,h5,by simp only [List.length_cons] at h3; omega⟩) ur
     have rE:Ub c i=none→JN c F s=none:=by
      intro h; unfold JN; rw [hi]; simp only
      cases hl:Bh c c.length i with
      | none=>rfl
      | some l =>
       obtain ⟨j,_,_,h2,_⟩:=uu _ _ hl; rw [h] at h2; cases h2
     cases hj:BC c x.Bk with
     | none =>
      obtain ⟨_,l2⟩:=rD.none hj; rw [hj] at VR; simp only at VR; rw [l2]; simp only [AA]; unfold pN; rw [N6]; simp only [AA,B_]; rw [show ((0:Int) != 0)=false from rfl]; simp only [Ao]; refine TK (YG.mono fun en W5 ⟨c5,t5,hp⟩=>?_); have:JN c F x.Bk=none:=by unfold JN; rw [hj]
      rw [this] at hp; obtain ⟨vo,rfl⟩:=hp; simp only [AV,CA,CB,AA,Al]; rw [show (!false)=true from rfl]; simp only [Bm,FV,IS,Bs,KR]; exact HJ _ W5 _ (c02.then c5 fun _ _ h=>h) t5 rfl rfl (rE VR)
     | some j =>
      obtain ⟨u,y,hy,hu,_,l2⟩:=rD.some hj; obtain ⟨vf2,ab2,lb2,cb2,rfl,_⟩:=hu; rw [hj] at VR; simp only at VR; have Mp:elemAt c j=y.elem:=by unfold elemAt; rw [hy]
      rw [l2]; simp only [AA]; rw [N6]; simp only [AA,B_]
      refine AL (fun he=>?_) (fun he=>?_)
      ·have he:y.elem≠0:=by simpa using he
       simp only [FV,IS,KR]; exact HJ _ W2 _ c02 t2 rfl rfl (rE (by rw [VR,if_neg (by rw [Mp]; exact he)]))
      ·have he:y.elem=0:=by simpa using he
       have VR:Ub c i=some j:=by rw [VR,if_pos (by rw [Mp]; exact he)]
       have hfi:JJ c i=x.fields:=by unfold JJ; rw [hx]
       have T':JN c F s=match Bh c c.length j with
         | some m=>if Bt F (m.reverse.flatMap (JJ c)++x.fields) && decide ((m.reverse.flatMap (JJ c)++x.fields).length≤60) then some (m.reverse.flatMap (JJ c)++x.fields) else none
         | none=>none:=by
        unfold JN; rw [hi]; simp only
        cases hl:Bh c c.length i with
        | none =>
         cases hm:Bh c c.length j with
         | none=>rfl
         | some m =>
          have:Bh c (c.length+1) i=some (i::m):=by rw [M1 hx ZD,VR]; simp only [hm]; rfl
          rw [VP this] at hl; cases hl
        | some l =>
         obtain ⟨j',f',m,h2,h3,rfl⟩:=uu _ _ hl; rw [VR] at h2; cases h2; rw [VP h3]; simp only [List.reverse_cons,List.flatMap_append,List.flatMap_cons,List.flatMap_nil,List.append_nil,hfi]
       have gh:JN c F x.Bk=match Bh c c.length j with
         | some m=>if Bt F (m.reverse.flatMap (JJ c)) && decide ((m.reverse.flatMap (JJ c)).length≤60) then some (m.reverse.flatMap (JJ c)) else none
         | none=>none:=by
        unfold JN; rw [hj]
       refine TK (YG.mono fun en W5 ⟨c5,t5,hp⟩=>?_); have c05:Bl (TH rs rf) W W5:=c02.then c5 fun _ _ h=>h
       cases hrI:JN c F x.Bk with
       | none =>
        rw [hrI] at hp; obtain ⟨vo,rfl⟩:=hp; simp only [AV,CA,CB,AA,Al]; rw [show (!false)=true from rfl]; simp only [Bm,FV,IS,Bs,KR]; refine HJ _ W5 _ c05 t5 rfl rfl ?_; rw [T']; rw [hrI] at gh
        cases hm:Bh c c.length j with
        | none=>rfl
        | some m =>
         rw [hm] at gh; simp only at gh ⊢
         split at gh
         ·cases gh
         ·rename_i hn; rw [if_neg]; intro hh; apply hn; simp only [Bool.and_eq_true,decide_eq_true_eq,Fo,List.length_append] at hh ⊢; exact ⟨hh.1.1,by omega⟩
       | some fs =>
        rw [hrI] at hp; obtain ⟨vo,S',rfl,ho5,hn5,hs5,hf5⟩:=hp; simp only [AV,CA,CB,AA,Al]; rw [show (!true)=false from rfl]; simp only [Ao]; rw [hrI] at gh
        cases hm:Bh c c.length j with
        | none=>rw [hm] at gh; cases gh
        | some m =>
         rw [hm] at gh T'; simp only at gh T'
         split at gh
         ·rename_i hh
          cases gh
          simp only [Bool.and_eq_true,decide_eq_true_eq] at hh; have ae:=c2.sz; have ADy:=k1.sz; exact tail W5 vo S' _ _ c05 (c2.then c5 fun _ _ h=>h) t5 hs5 hf5 ho5 (fun b l c e=>by have:=hn5 b l c e; omega) hh.2 rfl rfl rfl T' hh.1
         ·cases gh
    ·have ZD:x.Bk=D2:=by simpa [D2] using ZD
     refine tail W2 (.slice none 0 0) _ [] _ c02 c2 t2 Xf (by simpa using V9) DN.nil (Bw.nil _ _ _) (by simp) rfl rfl rfl ?_ rfl; unfold JN; rw [hi]; simp only; rw [Lr hx ZD]; simp only [List.reverse_cons,List.reverse_nil,List.nil_append,List.flatMap_cons,List.flatMap_nil,List.append_nil]; have:JJ c i=x.fields:=by unfold JJ; rw [hx]
     rw [this]
theorem z_:GP prog 181=some (.map none):=by kernel_rfl
theorem AAA:DC prog 181=some 1:=by kernel_rfl
theorem AB9:GP prog 161=some .nilFunc:=by kernel_rfl
theorem AB':DC prog 161=some 1:=by kernel_rfl
theorem N7:DC prog 78=some 2:=by kernel_rfl
theorem ni:agg? prog 78=some true:=by kernel_rfl
theorem pR:GP prog 78=some (.agg #[.map none,.map none]):=by kernel_rfl
theorem lu {t:TypeId} {z v:Value} (hz:GP prog t=some z) (hs:DC prog t=some 1) (nV:z.cells.size=1) (h1:BB v=true) {W:CW} {K:Value→CW→Prop} (ht:At W)
  (hk:∀ W2,Kp W W2→At W2→W2.sz=W.sz+1→Aw W2 W.sz t [v]→K (.pointer (some ⟨W.sz,0,none⟩)) W2):CD (GX prog t W) fun p W1=>wV (CP prog t p v W1) fun W2=>K p W2:=by
 refine Hu hz hs ht fun W1 k1 t1 z1 hB=>?_; refine Ak hs (a:=⟨W.sz,0,none⟩) h1 hB (by simp [nV]) fun W2 hu HD=>?_; rw [Ov (by simp [nV])] at HD; exact hk W2 (k1.A4 (Nat.le_refl _) hu) (t1.A4 (by rw [z1]; exact Nat.lt_succ_self _) hu) (by rw [hu.sz,z1]) HD
theorem pS {t:TypeId} {z:Value} {v:Value→Value} (hz:GP prog t=some z) (hs:DC prog t=some 1) (nV:z.cells.size=1) {W:CW} (h1:BB (v (.pointer (some ⟨W.sz,0,none⟩)))=true) {K:Value→CW→Prop} (ht:At W)
  (hk:∀ W2,Kp W W2→At W2→W2.sz=W.sz+1→Aw W2 W.sz t [v (.pointer (some ⟨W.sz,0,none⟩))]→K (.pointer (some ⟨W.sz,0,none⟩)) W2):CD (GX prog t W) fun p W1=>wV (CP prog t p (v p) W1) fun W2=>K p W2:=by
 refine Hu hz hs ht fun W1 k1 t1 z1 hB=>?_; refine Ak hs (a:=⟨W.sz,0,none⟩) h1 hB (by simp [nV]) fun W2 hu HD=>?_; rw [Ov (by simp [nV])] at HD; exact hk W2 (k1.A4 (Nat.le_refl _) hu) (t1.A4 (by rw [z1]; exact Nat.lt_succ_self _) hu) (by rw [hu.sz,z1]) HD
def l4 (c:List Af) (s:ByteArray) (W:CW):Ending→CW→Prop:=fun e W'=>Kp W W'∧At W'∧match JN c [] s with
 | some fs=>∃ vo,e=.returned (.tuple #[vo,.bool true])∧DN W' 5 1 vo (Fl (fs.map (·.kind)))∧Bw W.sz vo
 | none=>∃ vo,e=.returned (.tuple #[vo,.bool false])
theorem pT {c:List Af} (hC:Qz c) (hsh:∀ j,j<c.length→BW c j=false) {r1:Nat} {v2:Value} {s:ByteArray} {W:CW} (ht:At W) (hr:RX W r1 c) (QS:BB v2=true) (HV:s.size<1000000) :
  AH prog AT 102 [.agg #[.map (some r1),v2],.string s] W (l4 c s W):=by
 refine tw ?_; rw [tv]; refine FM N7 ht fun W0 k0 t0 z0 eo=>?_; have eo:Aw W0 W.sz 78 [.map (some r1),v2]:=eo; refine Sz (enc:=Value.string) t0 fun W1 k1 t1 z1 Z6=>?_; refine lu z_ AAA rfl rfl t1 fun W3 k3 t3 z3 Gk=>?_; refine Sz (enc:=Value.string) t3 fun W4 k4 t4 z4 dp=>?_; refine lu z_ AAA rfl rfl t4 fun W6 k6 t6 z6 J'=>?_; simp only [AA]; refine pS (v:=fun p=>.func (.func 125) #[] #[.pointer (some ⟨W.sz,0,none⟩),.pointer (some ⟨W1.sz,0,none⟩),p,.pointer (some ⟨W4.sz,0,none⟩)]) AB9 AB' rfl rfl t6 fun W8 k8 t8 z8 OO=>?_; rw [AD zt (a:=⟨W6.sz,0,none⟩) (OO.cell rfl)]; simp only [AA]; have xR:Kp W0 W8:=(((k1.trans k3).trans k4).trans k6).trans k8; have kk:=k0.trans xR; have Uv:Bp W8 W0.sz ([].map (nameAt c)):=⟨[],(Z6.kp t1 (((k3.trans k4).trans k6).trans k8)),fun s=>rfl⟩
 have rC:Bp W8 W3.sz []:=⟨[],dp.kp t4 (k6.trans k8),fun s=>rfl⟩
 have H6:=(hr.Dd (Bl.FN (S:=fun _=>False) kk) ht (fun _ h=>h.elim) (fun h=>h))
 have AAB:r1<W.sz:=by
  obtain ⟨m,h1,_⟩:=hr; exact h1.lt ht
 have R:O1 W8 W.sz W1.sz W6.sz W4.sz W0.sz W3.sz r1 c:=⟨xR.cell t0 (eo.cell rfl),(((k4.trans k6).trans k8)).cell t3 (Gk.cell rfl),k8.cell t6 (J'.cell rfl),OO.cell rfl,H6,by omega,by omega,by omega⟩
 refine TK ((uq hC hsh c.length [] s W8 t8 R Uv rC List.nodup_nil (fun j h=>by cases h) (by simp) (fun _ h=>by cases h) HV).mono fun en W9 ⟨c9,t9,hp⟩=>?_); have kW:Kp W W9:=Bl.kp kk c9 fun j hj=>by rcases hj with rfl | rfl <;> omega
 cases nj:JN c [] s with
 | none =>
  rw [nj] at hp; obtain ⟨vo,rfl⟩:=hp; simp only [AV,CA,CB,AA]; rw [Sv]; refine ⟨kW,t9,?_⟩; rw [nj]; exact ⟨vo,rfl⟩
 | some fs =>
  rw [nj] at hp; obtain ⟨vo,S',rfl,ho,hn,_,_⟩:=hp; simp only [AV,CA,CB,AA]; rw [Sv]; refine ⟨kW,t9,?_⟩; rw [nj]; exact ⟨vo,rfl,ho,fun b l c e=>Nat.le_trans kk.sz (hn b l c e)⟩
theorem l7 {c:List Af} {s:ByteArray} {i:Nat} (hi:BC c s=some i):JN c [] s=if LJ c i then none else some (Eu c i):=by
 unfold JN LJ; rw [hi]; simp only
 cases hl:Bh c c.length i with
 | none=>rfl
 | some l =>
  have hf:Eu c i=l.reverse.flatMap (JJ c):=by unfold Eu; rw [hl]
  simp only; rw [←hf,cV]
  by_cases h60:(Eu c i).length≤60
  ·rw [decide_eq_true h60,decide_eq_false (by omega)]
   cases DT (Eu c i).length (Hy (Eu c i)) <;> rfl
  ·rw [decide_eq_false h60,decide_eq_true (by omega)]; simp
end Go.Ce
namespace Go.Ce
open Go Go.Proofs Go.Proofs.Tryz
theorem ZE:Tryz.f47.results.toList=[.cell 2 78,.tmp 3]:=by kernel_rfl
theorem H2 {P:Program} {fn:Func} {Q:Ending→CW→Prop} {e:Env} {W:CW} {s t:Tmp} {ty:TypeId} {p:Addr} {v:Value} (hr:fn.results.toList=[.cell s ty,.tmp t]) (he:e s=.pointer (some p)) (hv:ld P ty (.pointer (some p)) W=some v) (hq:Q (.returned (.tuple #[v,e t])) W):AK P fn Q .ret e [] W:=by
 have hv:IC P ty p W=some v:=hv; simp only [AK,Bu,hr,Hp,gD,he,hv]; exact hq
theorem VS {c:List Af} {i:Nat} (hs:∀ j,j<i+1→BW c j=false) {x:Af} (hx:c[i]?=some x) (s:ByteArray):BC (c.take (i+1)) s=if s=x.name then some i else BC (c.take i) s:=by
 unfold BC; have K5:=(List.getElem?_eq_some_iff.1 hx).1; rw [List.take_add_one,hx,Option.toList_some,List.findIdx?_append]
 by_cases e:s=x.name
 ·rw [if_pos e]
  have:(c.take i).findIdx? (fun y=>decide (y.name=s))=none:=by
   rw [List.findIdx?_eq_none_iff]; intro y hy; obtain ⟨j,hj,rfl⟩:=List.mem_take_iff_getElem.1 hy; have:=cT hs (by omega:j≠i) (by omega) (by omega) (List.getElem?_eq_getElem (by omega)) hx; rw [e]
   simpa using this
  rw [this]; simp [List.findIdx?_cons,e,List.length_take]; omega
 ·rw [if_neg e]; have:([x].findIdx? fun y=>decide (y.name=s))=none:=by simp [List.findIdx?_cons]; exact fun h=>e h.symm
  rw [this]
  cases (c.take i).findIdx? (fun y=>decide (y.name=s)) <;> rfl
theorem J_ {W W':CW} {r b k:Nat} {v:Value} {m:List (ByteArray × Value)} (hu:DM r W W') (hm:E6 Value.string W r m) (hc:W.cell b k=some v):W'.cell b k=some v:=by
 obtain ⟨es,Dq,h1,_⟩:=hm
 have:b≠r:=by
  rintro rfl; unfold CW.cell at hc; rw [h1] at hc; cases hc
 rw [hu.cell this]; exact hc
theorem RX.put {W:CW} {r:Nat} {c:List Af} {i:Nat} {x:Af} {u:Value} (h:RX W r (c.take i)) (hs:∀ j,j<i+1→BW c j=false) (hx:c[i]?=Option.some x) (hu:ZB W u x) {K:CW→Prop} (hK:∀ W1,DM r W W1→(∀ b k v,W.cell b k=Option.some v→W1.cell b k=Option.some v)→RX W1 r (c.take (i+1))→K W1):wV (aC prog 75 (.map (Option.some r)) (.string x.name) u W) K:=by
 obtain ⟨m,h1,h2⟩:=h; refine Yy zs u9 rfl FX h1 fun W1 VR hm=>?_; have BA:∀ b k v,W.cell b k=Option.some v→W1.cell b k=Option.some v:=fun b k v hc=>J_ VR h1 hc; have hA:∀ {u x},ZB W u x→ZB W1 u x:=fun {u x} ⟨vf,ab,lb,cb,h3,h4⟩=>⟨vf,ab,lb,cb,h3,h4.imp fun _ _ _ hr=>⟨BA _ _ _ hr.name,BA _ _ _ hr.kind,hr.lo,hr.hi⟩⟩
 refine hK W1 VR BA ⟨_,hm,fun s=>?_⟩; have K5:=(List.getElem?_eq_some_iff.1 hx).1; rw [VS hs hx,HX]
 by_cases e:s=x.name
 ·rw [if_pos e,if_pos e]; exact ⟨u,x,rfl,by rw [List.getElem?_take,if_pos (by omega)]; exact hx,hA hu⟩
 ·rw [if_neg e,if_neg e]; have:=h2 s
  cases hi:BC (c.take i) s with
  | none=>rw [hi] at this; exact this
  | some j =>
   rw [hi] at this; obtain ⟨u',x',h3,h4,h5⟩:=this; refine ⟨u',x',h3,?_,hA h5⟩; rw [List.getElem?_take] at h4 ⊢
   split at h4
   ·rw [if_pos (by omega)]; exact h4
   ·cases h4
theorem AAC (a b:Nat):RE prog 78 [(0,.map (some a)),(1,.map (some b))]=some (.agg [.map (some a),.map (some b)].toArray):=by kernel_rfl
theorem MH {W:CW} {b a1 a2:Nat} (h:Aw W b 78 [.map (some a1),.map (some a2)]):ld prog 78 (.pointer (some ⟨b,0,none⟩)) W=some (.agg [.map (some a1),.map (some a2)].toArray):=Bd (vs:=[.map (some a1),.map (some a2)]) ni N7 rfl (by omega) h.cells
def rF (W:CW) (r:Nat) (c:List Af) (n:Nat):Prop:=∃ m:List (ByteArray × Value),E6 Value.string W r m∧∀ s,match BC (c.take n) s with
 | some i=>∃ v,Jx m s=some v∧Ay 1 (RKd W) v (Ai c i)
 | none=>Jx m s=none
theorem u76:prog.underlying 76=some (.map 9 29):=by kernel_rfl
theorem z29:GP prog 29=some (.slice none 0 0):=by kernel_rfl
theorem rF.put {W:CW} {r:Nat} {c:List Af} {i:Nat} {x:Af} {u:Value} (h:rF W r c i) (hs:∀ j,j<c.length→BW c j=false) (hx:c[i]?=some x) (hu:Ay 1 (RKd W) u (Ai c i)) {K:CW→Prop} (hK:∀ W1,DM r W W1→(∀ b k v,W.cell b k=some v→W1.cell b k=some v)→rF W1 r c (i+1)→K W1):wV (aC prog 76 (.map (some r)) (.string x.name) u W) K:=by
 obtain ⟨m,h1,h2⟩:=h; refine Yy u76 u9 rfl FX h1 fun W1 VR hm=>?_; have BA:∀ b k v,W.cell b k=some v→W1.cell b k=some v:=fun b k v hc=>J_ VR h1 hc; have K5:=(List.getElem?_eq_some_iff.1 hx).1; refine hK W1 VR BA ⟨_,hm,fun s=>?_⟩; rw [VS (fun j hj=>hs j (by omega)) hx,HX]
 by_cases e:s=x.name
 ·rw [if_pos e,if_pos e]; exact ⟨u,rfl,hu.imp fun _ _ _ hr=>BA _ _ _ hr⟩
 ·rw [if_neg e,if_neg e]; have:=h2 s
  cases hi:BC (c.take i) s with
  | none=>rw [hi] at this; exact this
  | some j =>
   rw [hi] at this; obtain ⟨v,h3,h4⟩:=this; exact ⟨v,h3,h4.imp fun _ _ _ hr=>BA _ _ _ hr⟩
structure DW (W:CW) (r1 r2:Nat) (c:List Af):Prop where
 sh:RX W r1 c
 rw:rF W r2 c c.length
def IA (r1 r2:Nat):Value:=.agg #[.map (some r1),.map (some r2)]
def VT (c:List Af) (W:CW):Ending→CW→Prop:=fun e W'=>Kp W W'∧At W'∧∃ r1 r2,e=.returned (.tuple #[IA r1 r2,.bool (BN c)])∧W.sz≤r1∧W.sz≤r2∧(BN c=true→DW W' r1 r2 c)
structure TL (W0 W:CW) (b2 b4 r1 r2:Nat):Prop where
 kp:Kp W0 W
 top:At W
 b2:Aw W b2 78 [.map none,.map none]
 b4:Aw W b4 78 [.map (some r1),.map (some r2)]
theorem TL.VU {W0 W W':CW} {b2 b4 r1 r2:Nat} (I:TL W0 W b2 b4 r1 r2) (k:Kp W W') (t:At W'):TL W0 W' b2 b4 r1 r2:=⟨I.kp.trans k,t,I.b2.ext I.top k,I.b4.ext I.top k⟩
theorem Ba {W:CW} {b r:Nat} {el:TypeId} {vs:List Value} {m:List (ByteArray × Value)} (h:Aw W b el vs) (hm:E6 Value.string W r m):b≠r:=by
 rintro rfl; obtain ⟨es,Dq,h1,_⟩:=hm; obtain ⟨c,n,z,h2,_⟩:=h; rw [h1] at h2; cases h2
theorem Aw.N8 {W:CW} {b k:Nat} {el:TypeId} {vs:List Value} {v:Value} (h:Aw W b el vs) (hc:W.cell b k=some v):vs[k]?=some v:=by
 obtain ⟨c,n,z,h1,h2,h3⟩:=h; unfold CW.cell at hc; rw [h1] at hc; simp only at hc
 split at hc
 ·rename_i hk; have hk:k<vs.length:=by omega
  have:=h3 k _ (List.getElem?_eq_getElem hk); rw [List.getElem?_eq_getElem hk,←hc,this]
 ·cases hc
theorem N9 {v0:Value} {c:List Af} {W:CW} (ht:At W) (hc:Ay 5 (MF W) v0 c) (hC:Qz c):AH prog AT 47 [v0] W (VT c W):=by
 refine zY ?_; rw [zX]; refine Hu pR N7 ht fun W0 k0 t0 z0 HD=>?_; have HD:Aw W0 W.sz 78 [.map none,.map none]:=HD; refine Sz (enc:=Value.string) t0 fun W1 k1 t1 z1 Z6=>?_; refine Sz (enc:=Value.string) t1 fun W2 k2 t2 z2 Bo=>?_; rw [AAC]; simp only [AA]; refine DG pR N7 rfl rfl rfl t2 fun W4 k4 t4 z4 KY=>?_; obtain ⟨a,cap,rfl,_⟩:=id hc; simp only [Ac iv,AA,Bg]; have hlen:=hC.len; have kk:Kp W W4:=((k0.trans k1).trans k2).trans k4; have I4:TL W W4 W.sz W2.sz W0.sz W1.sz:=⟨kk,t4,HD.ext t0 ((k1.trans k2).trans k4),KY⟩
 have l_:=Z6.kp t1 (k2.trans k4); have mA:=Bo.kp t2 k4; have r1W:W.sz≤W0.sz:=k0.sz; have r2W:W.sz≤W1.sz:=Nat.le_trans r1W k1.sz; generalize H6:W0.sz=r1 at I4 l_ Z6 r1W; generalize OP:W1.sz=r2 at I4 mA Bo r2W; have r12:r1≠r2:=by omega
 generalize W2.sz=b4 at I4; generalize Ut:W.sz=b2 at I4; generalize JO:AK prog Tryz.f47 (VT c W)=K
 have F1:∀ W1 (ok:Bool),TL W W1 b2 b4 r1 r2→ok=BN c→(BN c=true→DW W1 r1 r2 c)→∀ {K':CW→Prop},(∀ W2,(∀ e,e 2=.pointer (some ⟨b2,0,none⟩)→e 3=.bool ok→K .ret e [] W2)→K' W2) →
   wV (CP prog 78 (.pointer (some ⟨b2,0,none⟩)) (.agg [.map (some r1),.map (some r2)].toArray) W1) K':=by
  intro W1 ok I Ae EY K' uv; refine Dk N7 (a:=⟨b2,0,none⟩) rfl rfl I.b2 (by simp) fun W2 hu hB=>uv W2 fun e h2 h3=>?_; have hu:DM b2 W1 W2:=hu; rw [←JO]; have hB:Aw W2 b2 78 [.map (some r1),.map (some r2)]:=hB; refine H2 ZE h2 (MH hB) ?_; have AB_:=I.b2.lt I.top; refine ⟨I.kp.A4 (by omega) hu,I.top.A4 AB_ hu,r1,r2,by rw [h3,Ae]; rfl,by omega,by omega,fun hc=>?_⟩; obtain ⟨⟨m,g1,g2⟩,⟨m',g3,g4⟩⟩:=EY hc; have R3:=Ba I.b2 g1; have P0:=Ba I.b2 g3
  have BA:∀ b k v,v≠.map none→W1.cell b k=some v→W2.cell b k=some v:=fun b k v hv h=>by
   rw [hu.cell]
   ·exact h
   ·rintro rfl; have h2:=I.b2.N8 h
    match k,h2 with
    | 0,h2=>cases h2; exact hv rfl
    | 1,h2=>cases h2; exact hv rfl
  refine ⟨⟨m,g1.congr (hu.obj r1 (Ne.symm R3)),fun s=>?_⟩,⟨m',g3.congr (hu.obj r2 (Ne.symm P0)),fun s=>?_⟩⟩
  ·have:=g2 s
   cases hi:BC c s with
   | none=>rw [hi] at this; exact this
   | some i =>
    rw [hi] at this; obtain ⟨u,x,h5,h6,vf,ab,lb,cb,h7,h8⟩:=this; exact ⟨u,x,h5,h6,vf,ab,lb,cb,h7,h8.imp fun _ _ _ hr=>⟨BA _ _ _ (by intro h; cases h) hr.name,BA _ _ _ (by intro h; cases h) hr.kind,hr.lo,hr.hi⟩⟩
  ·have:=g4 s
   cases hi:BC (c.take c.length) s with
   | none=>rw [hi] at this; exact this
   | some i =>
    rw [hi] at this; obtain ⟨v,h5,h6⟩:=this; exact ⟨v,h5,h6.imp fun _ _ _ hr=>BA _ _ _ (by intro h; cases h) hr⟩
 refine AL (fun hg=>?_) (fun hg=>?_)
 ·rw [MH I4.b4]; simp only [AA]
  have Gc:BN c=false:=by
   have:=of_decide_eq_true hg; unfold BN; rw [decide_eq_false (by omega)]; rfl
  exact F1 W4 false I4 Gc.symm (fun h=>by rw [Gc] at h; cases h) fun W5 hr=>hr _ rfl rfl
 ·have hg:=of_decide_eq_false hg
  have KM:BN c=(!DT c.length (BW c) && !DT c.length (LJ c)):=by
   unfold BN; rw [decide_eq_true (by omega)]; rfl
  have hA0:(∀ j,j<0→BW c j=false):=fun j h=>by omega
  refine Du (fun i e ds W'=>ds=[]∧TL W W' b2 b4 r1 r2∧e 0=.slice a c.length cap∧e 19=.slice a c.length cap∧e 20=.int .i64 c.length∧e 21=.int .i64 i∧e 2=.pointer (some ⟨b2,0,none⟩)∧e 4=.pointer (some ⟨b4,0,none⟩)∧RX W' r1 (c.take i)∧E6 Value.string W' r2 []∧∀ j,j<i→BW c j=false) c.length
   ⟨rfl,I4,rfl,rfl,rfl,rfl,rfl,rfl,⟨[],l_,fun s=>rfl⟩,mA,hA0⟩ ?_
  rintro i e ds W' hi ⟨rfl,I',h0,h19,h20,h21,h2,h4,rG,hrm,CY⟩; rw [uC,h19,h20,h21]; simp only [A6,AA]
  refine Gx (fun Ax=>?_) (fun NW=>?_)
  ·obtain ⟨x,hx⟩:∃ x,c[i]?=some x:=⟨_,List.getElem?_eq_getElem Ax⟩
   have Hn:=List.mem_of_getElem? hx; have aH:Ay 5 (MF W') (.slice a c.length cap) c:=hc.imp fun _ _ _ hr=>hr.kp ht I'.kp; obtain ⟨a',cap',ha,BA⟩:=aH
   cases ha
   obtain ⟨p,rfl,hr⟩:=BA i _ hx; obtain ⟨vf,ab,lb,cb,uw,nk⟩:=hr.ld; obtain ⟨af,ux,rfl,_⟩:=id nk; rw [BH iv eS Ax]; simp only [AA,uw]; refine DG lQ eS rfl rfl rfl I'.top fun W6 k6 t6 z6 J'=>?_; have I6:=I'.VU k6 t6; have q0:∀ W7,Kp W6 W7→ld prog 9 (.pointer (some ⟨W'.sz,0,none⟩)) W7=some (.string x.name):=fun W7 k7=>AD a9 (a:=⟨W'.sz,0,none⟩) (k7.cell t6 (J'.cell rfl)); have q1:∀ W7,Kp W6 W7→ld prog 9 (.pointer (some ⟨W'.sz,0+1,none⟩)) W7=some (.string x.Bk):=fun W7 k7=>AD a9 (a:=⟨W'.sz,1,none⟩) (k7.cell t6 (J'.cell rfl)); have q2:∀ W7,Kp W6 W7→ld prog 45 (.pointer (some ⟨W'.sz,0+2,none⟩)) W7=some (.slice af x.fields.length ux):=fun W7 k7=>AD a45 (a:=⟨W'.sz,2,none⟩) (k7.cell t6 (J'.cell rfl)); have q3:∀ W7,Kp W6 W7→ld prog 5 (.pointer (some ⟨W'.sz,0+3,none⟩)) W7=some (.int .u8 x.elem):=fun W7 k7=>AD a5 (a:=⟨W'.sz,3,none⟩) (k7.cell t6 (J'.cell rfl)); have uy:BW c i=((!Hw x.name || Hx c x i) || ((decide (x.elem≠0) && (!HE x.elem || decide (x.Bk≠D2) || decide (0<x.fields.length))) || decide (20<x.fields.length))):=by unfold BW; rw [hx]
   have leaf:∀ (W7:CW) (b:Bool) (e1:Env),Kp W6 W7→At W7→ER [0,2,4,19,20,21] e e1→e1 6=.pointer (some ⟨W'.sz,0,none⟩)→e1 73=.bool b→b=BW c i →
     (IT none (J5 (fun i e ds W'=>ds=[]∧TL W W' b2 b4 r1 r2∧e 0=.slice (some p) c.length cap∧e 19=.slice (some p) c.length cap∧e 20=.int .i64 c.length∧e 21=.int .i64 i∧e 2=.pointer (some ⟨b2,0,none⟩)∧e 4=.pointer (some ⟨b4,0,none⟩)∧RX W' r1 (c.take i)∧E6 Value.string W' r2 []∧∀ j,j<i→BW c j=false) i c.length (BU 0 (TA none K)))) .normal e1 [] W7:=by
    intro W7 b e1 k7 t7 hA g6 g73 hb; have I7:=I6.VU k7 t7; have g2:=(hA 2 (by decide)).trans h2; have g4:=(hA 4 (by decide)).trans h4; simp only [IT,Bs,g73]
    refine AL (fun TI=>?_) (fun TI=>?_)
    ·rw [g2,g4,MH I7.b4]; simp only [AA]; have Gc:BN c=false:=by rw [KM,DZ Ax (by rw [←hb,TI])]; rfl
     refine F1 W7 false I7 Gc.symm (fun h=>by rw [Gc] at h; cases h) fun W8 hr=>?_; simp only [Nx,TB,Bs,KR,RR,HC,Ud,TA]; exact hr _ g2 rfl
    ·have QJ:BW c i=false:=by rw [←hb,TI]
     simp only [Nx,Bs,g4,g6,HS,Nr,AA]; rw [AD pO (a:=⟨b4,0,none⟩) (I7.b4.cell rfl),q0 W7 k7,Bd (vs:=[.string x.name,.string x.Bk,.slice af x.fields.length ux,.int .u8 x.elem,.slice ab lb cb]) a48 eS rfl (by omega) (J'.ext t6 k7).cells]; simp only [AA]; have k67:=k6.trans k7; have AAD:=rG.kp I'.top k67; refine AAD.put (JK CY QJ) hx ⟨_,_,_,_,rfl,nk.imp fun _ _ _ hr=>hr.kp I'.top k67⟩ fun W8 hu BA uz=>?_; obtain ⟨m7,g7,_⟩:=AAD; have AAB:=g7.lt I7.top; have t8:=I7.top.A4 AAB hu; have P0:=Ba I7.b2 g7; have u5:=Ba I7.b4 g7; have I8:TL W W8 b2 b4 r1 r2:=⟨I7.kp.A4 r1W hu,t8,I7.b2.congr (hu.obj _ P0),I7.b4.congr (hu.obj _ u5)⟩
     simp only [TB,Bs,HC]; simp only [Aa,Av,Nat.reduceEqDiff,↓reduceIte,(hA 21 (by decide)).trans h21,Ap,AA]; refine ⟨Ax,trivial,I8,(hA 0 (by decide)).trans h0,(hA 19 (by decide)).trans h19,(hA 20 (by decide)).trans h20,by rw [Dv (by omega)],g2,g4,uz,((hrm.kp I'.top k67).congr (hu.obj _ (Ne.symm r12))),JK CY QJ⟩
   have hnp:∀ b:Bool,b=(decide (x.elem=0) || (HE x.elem && (decide (x.Bk=D2) && decide (x.fields.length=0))))→BW c i=((!Hw x.name || Hx c x i) || (!b || decide (20<x.fields.length))):=by
    intro b hb; rw [uy,hb]; congr 2
    by_cases e1:x.elem=0 <;> by_cases e2:x.Bk=D2 <;> by_cases e3:x.fields.length=0 <;> cases HE x.elem <;> simp [e1,e2,e3] <;> omega
   have head:∀ (b:Bool) (e1:Env),ER [0,2,4,19,20,21] e e1→e1 6=.pointer (some ⟨W'.sz,0,none⟩)→e1 5=.int .i64 i→e1 7=.bool b→b=(decide (x.elem=0) || (HE x.elem && (decide (x.Bk=D2) && decide (x.fields.length=0)))) →
     (J9 none (J5 (fun i e ds W'=>ds=[]∧TL W W' b2 b4 r1 r2∧e 0=.slice (some p) c.length cap∧e 19=.slice (some p) c.length cap∧e 20=.int .i64 c.length∧e 21=.int .i64 i∧e 2=.pointer (some ⟨b2,0,none⟩)∧e 4=.pointer (some ⟨b4,0,none⟩)∧RX W' r1 (c.take i)∧E6 Value.string W' r2 []∧∀ j,j<i→BW c j=false) i c.length (BU 0 (TA none K)))) .normal e1 [] W6:=by
    intro b e1 hA g6 g5 g7 hb; have uy:=hnp b hb; have g0:=(hA 0 (by decide)).trans h0; simp only [J9,Bs,g0,g5,g6,g7,Nr,Ns,AA,q0 W6 (.refl _)]; refine VK (LG t6 (by have:=hC.name x Hn; omega)) fun W7 k7 t7=>?_; simp only [Al,AA,Bg]
    refine AL (fun hs=>?_) (fun hs=>?_)
    ·exact ⟨by simp only [q0 W6 (.refl _),and_self],trivial,leaf W7 true _ k7 t7 (hA.trans (.put rfl)) g6 rfl (by rw [uy,hs]; rfl)⟩
    ·have tl:∀ e2:Env,True:=fun _=>trivial; refine AL (fun h=>?g1) (fun h=>?g2)
     case' g1 =>
      obtain ⟨j,rfl⟩:∃ j,i=j+1:=⟨i-1,by have:=of_decide_eq_true h; omega⟩
      have TG:j<c.length:=by omega
      have hxp:=List.getElem?_eq_getElem TG; obtain ⟨p',hp',u6⟩:=BA j _ hxp
      cases hp'
      have es:((j+1:Nat):Int)-1=(j:Nat):=by omega
      have hpb:Hx c x (j+1)=!Q5 (sb c[j].name) (sb x.name):=by unfold Hx; simp only [hxp]
      have q4:ld prog 9 (.pointer (some ⟨p.block,p.off+j*5,none⟩)) W7=some (.string c[j].name):=AD a9 (a:=⟨p.block,p.off+j*5,none⟩) (k7.cell t6 (k6.cell I'.top u6.name)); simp only [GD,AA,es]; rw [wrap64 (by omega) (by omega),BH iv eS TG]; simp only [AA,Nr,q0 W7 k7,q4,VH]; refine AL (fun hq=>?h1) (fun hq=>?h2)
      case h1=>exact ⟨by simp only [q0 W6 (.refl _),and_self],trivial,leaf W7 true _ k7 t7 (hA.trans (.put rfl)) g6 rfl (by rw [uy,hpb,hq]; simp)⟩
      have hpf:=hpb.trans hq
     case' g2 =>
      have hpf:Hx c x i=false:=by
       cases i with
       | zero=>rfl
       | succ i=>have:=of_decide_eq_false h; omega
     all_goals
      rw [hs,hpf,Bool.or_self,Bool.false_or] at uy
      refine AL (fun h1=>?_) (fun h1=>?_)
      ·exact ⟨by simp only [q0 W6 (.refl _),and_self],trivial,leaf W7 true _ k7 t7 (hA.trans (.put rfl)) g6 rfl (by rw [uy,h1]; rfl)⟩
      ·simp only [q2 W7 k7,Ac qw,AA,Bg]; refine ⟨by simp only [q0 W6 (.refl _),and_self],trivial,leaf W7 _ _ k7 t7 (hA.trans (.put rfl)) g6 rfl ?_⟩; rw [uy,h1,Bool.false_or]; exact decide_eq_decide.2 (by omega)
   simp only [Wz,AA,q3 W6 (.refl _),Bf]
   refine AL (fun he=>?_) (fun he=>?_)
   ·have he:x.elem=0:=by simpa using he
    exact head true _ (.put rfl) rfl rfl rfl (by rw [decide_eq_true he]; rfl)
   ·have he:¬x.elem=0:=by simpa using he
    refine EP (VI _ _) ?_
    refine AL (fun hk=>?_) (fun hk=>?_)
    ·have hk:HE x.elem=true:=hk; simp only [Wy,AA,q1 W6 (.refl _),VG,Lm]
     refine AL (fun pU=>?_) (fun pU=>?_)
     ·have pU:decide (x.Bk=D2)=true:=pU; simp only [Ns,AA,q2 W6 (.refl _),Ac qw,Bf]; refine head ((x.fields.length:Int) == 0) _ (.put rfl) rfl rfl rfl ?_; rw [decide_eq_false he,hk,pU,Bool.false_or,Bool.true_and,Bool.true_and]
      cases x.fields <;> simp
      omega
     ·have pU:decide (x.Bk=D2)=false:=pU; exact head false _ (.put rfl) rfl rfl rfl (by rw [decide_eq_false he,pU]; simp)
    ·have hk:HE x.elem=false:=hk; exact head false _ (.put rfl) rfl rfl rfl (by rw [decide_eq_false he,hk]; rfl)
  ·have gg:c.take i=c:=List.take_of_length_le (by omega); rw [gg] at rG; have hS:∀ j,j<c.length→BW c j=false:=fun j hj=>CY j (by omega); have hSa:DT c.length (BW c)=false:=Em hS; rw [hSa] at KM; simp only [Bs,VD,Md,ON,if_true,TA]; simp only [Aa,Av,Nat.reduceEqDiff,↓reduceIte,h0]; simp only [Ac iv,AA]
   refine Du (fun i e ds W'=>ds=[]∧TL W W' b2 b4 r1 r2∧e 81=.slice a c.length cap∧e 82=.int .i64 c.length∧e 83=.int .i64 i∧e 2=.pointer (some ⟨b2,0,none⟩)∧e 4=.pointer (some ⟨b4,0,none⟩)∧RX W' r1 c∧rF W' r2 c i∧∀ j,j<i→LJ c j=false) c.length
    ⟨rfl,I',rfl,rfl,rfl,h2,h4,rG,⟨[],hrm,fun s=>by simp [BC,Jx]⟩,by omega⟩ ?_
   rintro i2 e2 ds2 W2 hi2 ⟨rfl,I2,g81,g82,g83,g2,g4,u7,u_,QK⟩; rw [uD,g81,g82,g83]; simp only [A6,AA]
   refine Gx (fun Ax=>?_) (fun vA=>?_)
   ·obtain ⟨x,hx⟩:∃ x,c[i2]?=some x:=⟨_,List.getElem?_eq_getElem Ax⟩
    have Hn:=List.mem_of_getElem? hx; have aH:Ay 5 (MF W2) (.slice a c.length cap) c:=hc.imp fun _ _ _ hr=>hr.kp ht I2.kp; obtain ⟨a',cap',ha,BA⟩:=aH
    cases ha
    obtain ⟨p,rfl,hr⟩:=BA i2 _ hx; obtain ⟨vf,ab,lb,cb,uw,nk⟩:=hr.ld; obtain ⟨af,ux,rfl,_⟩:=id nk; rw [BH iv eS Ax]; simp only [AA,uw]; refine DG lQ eS rfl rfl rfl I2.top fun W6 k6 t6 z6 J'=>?_; have I6:=I2.VU k6 t6; have q0:∀ W7,Kp W6 W7→ld prog 9 (.pointer (some ⟨W2.sz,0,none⟩)) W7=some (.string x.name):=fun W7 k7=>AD a9 (a:=⟨W2.sz,0,none⟩) (k7.cell t6 (J'.cell rfl)); rw [g4,MH I6.b4]; simp only [Nr,AA,q0 W6 (.refl _)]; refine (pT hC hS t6 (u7.kp I2.top k6) rfl (by have:=hC.name x Hn; omega)).mono fun en W7 ⟨k7,t7,hp⟩=>?_; have QP:=pM hS hx; rw [l7 QP] at hp; have I7:=I6.VU k7 t7
    cases jK:LJ c i2 with
    | true =>
     rw [jK] at hp; obtain ⟨vo,rfl⟩:=hp; simp only [AV,CA,CB,AA,Al]; rw [show (!false)=true from rfl]; simp only [Bm]; rw [MH I7.b4,g2]; simp only [AA]; have Gc:BN c=false:=by rw [KM,DZ Ax jK]; rfl
     refine F1 W7 false I7 Gc.symm (fun h=>by rw [Gc] at h; cases h) fun W8 hr=>?_; simp only [Ny,KR,RR,HC,Ud,cE]; exact hr _ g2 rfl
    | false =>
     rw [jK] at hp; obtain ⟨vo,rfl,ho,hn⟩:=hp; simp only [AV,CA,CB,AA,Al]; rw [show (!true)=false from rfl]; simp only [Ao,IW,AA,q0 W7 k7]; rw [AD rB (a:=⟨b4,0+1,none⟩) (I7.b4.cell rfl)]; simp only [AA]; have hvo:Ay 1 (RKd W7) vo (Ai c i2):=M3 (f:=fun k=>Value.int .u8 k) (by unfold Ai; exact ho)
     have AAE:rF W7 r2 c i2:=by
      obtain ⟨m,m1,m2⟩:=u_; refine ⟨m,m1.kp I2.top (k6.trans k7),fun s=>?_⟩; have:=m2 s
      cases hi:BC (c.take i2) s with
      | none=>rw [hi] at this; exact this
      | some i =>
       rw [hi] at this; obtain ⟨v,h5,h6⟩:=this; exact ⟨v,h5,h6.imp fun _ _ _ hr=>(k6.trans k7).cell I2.top hr⟩
     refine AAE.put hS hx hvo fun W8 hu mB ACA=>?_; obtain ⟨m7,g7,_⟩:=AAE; have ACB:=g7.lt I7.top; have P0:=Ba I7.b2 g7; have u5:=Ba I7.b4 g7; have I8:TL W W8 b2 b4 r1 r2:=⟨I7.kp.A4 r2W hu,I7.top.A4 ACB hu,I7.b2.congr (hu.obj _ P0),I7.b4.congr (hu.obj _ u5)⟩
     have uz:RX W8 r1 c:=by
      obtain ⟨m,m1,m2⟩:=u7.kp I2.top (k6.trans k7); refine ⟨m,m1.congr (hu.obj _ r12),fun s=>?_⟩; have:=m2 s
      cases hi:BC c s with
      | none=>rw [hi] at this; exact this
      | some i =>
       rw [hi] at this; obtain ⟨u,x,h5,h6,vf,ab,lb,cb,h7,h8⟩:=this; exact ⟨u,x,h5,h6,vf,ab,lb,cb,h7,h8.imp fun _ _ _ hr=>⟨mB _ _ _ hr.name,mB _ _ _ hr.kind,hr.lo,hr.hi⟩⟩
     simp only [Ny,Bs,HC]; simp only [Aa,Av,Nat.reduceEqDiff,↓reduceIte,g83,Ap,AA]; exact ⟨Ax,trivial,I8,g81,g82,by rw [Dv (by omega)],g2,g4,uz,ACA,JK QK jK⟩
   ·have hR:DT c.length (LJ c)=false:=Em fun j hj=>QK j (by omega); have QJ:BN c=true:=by rw [KM,hR]; rfl
    have hi3:i2=c.length:=by omega
    rw [hi3] at u_; simp only [Bs,VD,Md,ON,if_true,cE]; simp only [Aa,Av,Nat.reduceEqDiff,↓reduceIte,g2,g4]; rw [MH I2.b4]; simp only [AA]; exact F1 W2 true I2 QJ.symm (fun _=>⟨u7,u_⟩) fun W8 hr=>hr _ g2 rfl
end Go.Ce
namespace Go.Ce
open Go Go.Proofs Go.Proofs.Tryz
theorem ZF {v0:Value} {l:List Int} {n:Int} {W:CW} (hc:Ay 1 (EW W) v0 l) (hlen:l.length<1000000):AH prog AT 126 [v0,.int .i64 n] W (Me (.int .i64 (Ip l fun x=>decide (x=n))) W):=by
 refine uj ?_; rw [ui]; obtain ⟨a,cap,rfl,BA⟩:=hc; simp only [Ac Iw,AA]; refine Du (fun i e ds W'=>W'=W∧ds=[]∧e 0=.slice a l.length cap∧e 1=.int .i64 n∧e 7=.int .i64 l.length∧e 8=.int .i64 i∧∀ j x,j<i→l[j]?=some x→decide (x=n)=false) l.length ⟨rfl,rfl,rfl,rfl,rfl,rfl,by omega⟩ ?_; rintro i e ds W' hi ⟨rfl,rfl,h0,h1,h7,h8,CY⟩; rw [pL,h0,h1,h7,h8]; simp only [A6,AA]
 refine Gx (fun Ax=>?_) (fun NW=>?_)
 ·have hx:=List.getElem?_eq_getElem Ax; obtain ⟨p,rfl,hp⟩:=BA i _ hx; rw [BH Iw s3 Ax]; simp only [AA]; rw [AD a3 (a:=⟨p.block,p.off+i*1,none⟩) hp.1]; simp only [AA,Bf]
  refine AL (fun hq=>?_) (fun hq=>?_)
  ·have hq:n=l[i]:=by simpa using hq
   simp only [RW,KR,RR,HC,Ud,XI,TF]; refine ⟨?_,rfl⟩; simp only [Aa,↓reduceIte]; rw [JG Ax (by simp [hq]) CY]
  ·have hq:¬n=l[i]:=by simpa using hq
   simp only [RW,Bs,HC]; simp only [Aa,Av,Nat.reduceEqDiff,↓reduceIte,h0,h1,h7,h8,Ap,AA]; refine ⟨Ax,trivial,trivial,trivial,trivial,trivial,by rw [Dv (by omega)],fun j x hj JI=>?_⟩
   rcases Nat.lt_succ_iff_lt_or_eq.1 hj with h2 | rfl
   ·exact CY j x h2 JI
   ·rw [hx] at JI; cases JI; exact decide_eq_false fun e=>hq e.symm
 ·simp only [Bs,VD,Md,ON,if_true,XI,TF]; refine ⟨?_,rfl⟩; simp only [Aa,↓reduceIte]; rw [JH fun j x hj hx=>CY j x (by omega) hx]
theorem TM {v0:Value} {l:List Int} {n:Int} {W:CW} (hc:Ay 1 (EW W) v0 l) (hlen:l.length<1000000):AH prog AT 104 [v0,.int .i64 n] W (Me (.bool (l.any fun x=>decide (x=n))) W):=by
 refine uh ?_; rw [ug]; refine EP (ZF hc hlen) ?_; simp only [Gv,AA,cR]; refine ⟨?_,rfl⟩; simp only [Aa,↓reduceIte]; congr 2; unfold Ip
 cases h:l.findIdx? fun x=>decide (x=n) with
 | none =>
  rw [List.findIdx?_eq_none_iff] at h
  have:(l.any fun x=>decide (x=n))=false:=by
   rw [List.any_eq_false]; intro x hx; rw [h x hx]; simp
  rw [this]; rfl
 | some i =>
  obtain ⟨h1,h2,_⟩:=List.findIdx?_eq_some_iff_getElem.1 h; rw [List.any_eq_true.2 ⟨_,List.getElem_mem h1,h2⟩]; simp
def cY (W:CW) (u:Value) (x:CE):Prop:=∃ am cm,u=.agg #[.string x.type,.string x.to,.slice am x.map.length cm]∧Ay 1 (EW W) (.slice am x.map.length cm) x.map
def O3 (key:CE→ByteArray) (W:CW) (r:Nat) (l:List CE):Prop:=∃ m:List (ByteArray × Value),E6 Value.string W r m∧∀ s,match l.find? (fun x=>decide (key x=s)) with
 | some x=>∃ u,Jx m s=some u∧cY W u x
 | none=>Jx m s=none
theorem cY.cell {W W1:CW} {u:Value} {x:CE} (h:cY W u x) (hc:∀ b k k2 n,W.cell b k=some (.int k2 n)→W1.cell b k=some (.int k2 n)):cY W1 u x:=by
 obtain ⟨am,cm,h1,h2⟩:=h; exact ⟨am,cm,h1,h2.imp fun _ _ _ hr=>⟨hc _ _ _ _ hr.1,hr.2⟩⟩
theorem O3.cell {key:CE→ByteArray} {W W1:CW} {r:Nat} {l:List CE} (h:O3 key W r l) (ho:W1.obj r=W.obj r) (hc:∀ b k k2 n,W.cell b k=some (.int k2 n)→W1.cell b k=some (.int k2 n)):O3 key W1 r l:=by
 obtain ⟨m,h1,h2⟩:=h; refine ⟨m,h1.congr ho,fun s=>?_⟩; have:=h2 s
 cases hf:l.find? (fun x=>decide (key x=s)) with
 | none=>rw [hf] at this; exact this
 | some x =>
  rw [hf] at this; obtain ⟨u,h3,h4⟩:=this; exact ⟨u,h3,h4.cell hc⟩
theorem O3.kp {key:CE→ByteArray} {W W1:CW} {r:Nat} {l:List CE} (h:O3 key W r l) (ht:At W) (k:Kp W W1):O3 key W1 r l:=by
 have h':=h; obtain ⟨m,h1,_⟩:=h'; exact h.cell (k.obj r (h1.lt ht)) fun _ _ _ _ hc=>k.cell ht hc
theorem u81:prog.underlying 81=some (.map 9 58):=by kernel_rfl
def vB:Value:=.agg #[.string ⟨#[]⟩,.string ⟨#[]⟩,.slice none 0 0]
theorem pV:GP prog 58=some vB:=by kernel_rfl
theorem O3.put {key:CE→ByteArray} {W:CW} {r:Nat} {l:List CE} {i:Nat} {x:CE} {u:Value} (h:O3 key W r (l.take i)) (hx:l[i]?=some x) (pW:∀ j y,j<i→l[j]?=some y→key y≠key x) (hu:cY W u x) {K:CW→Prop}
  (hK:∀ W1,DM r W W1→(∀ b k v,W.cell b k=some v→W1.cell b k=some v)→O3 key W1 r (l.take (i+1))→K W1):wV (aC prog 81 (.map (some r)) (.string (key x)) u W) K:=by
 obtain ⟨m,h1,h2⟩:=h; refine Yy u81 u9 rfl FX h1 fun W1 VR hm=>?_; have BA:∀ b k v,W.cell b k=some v→W1.cell b k=some v:=fun b k v hc=>J_ VR h1 hc; refine hK W1 VR BA ⟨_,hm,fun s=>?_⟩; have K5:=(List.getElem?_eq_some_iff.1 hx).1; rw [List.take_add_one,hx,Option.toList_some,List.find?_append,HX]
 by_cases e:s=key x
 ·rw [if_pos e]
  have:(l.take i).find? (fun y=>decide (key y=s))=none:=by
   rw [List.find?_eq_none]; intro y hy; obtain ⟨j,hj,rfl⟩:=List.mem_take_iff_getElem.1 hy; have:=pW j _ (by omega) (List.getElem?_eq_getElem (by omega)); rw [e]
   simpa using this
  rw [this]; simp only [Option.none_or,List.find?_cons,e,decide_true]; exact ⟨u,rfl,hu.cell fun _ _ _ _ hc=>BA _ _ _ hc⟩
 ·rw [if_neg e]
  have:([x].find? fun y=>decide (key y=s))=none:=by
   rw [List.find?_eq_none]; intro y hy; rw [List.mem_singleton.1 hy]
   simpa using Ne.symm e
  rw [this,Option.or_none]; have:=h2 s
  cases hf:(l.take i).find? (fun y=>decide (key y=s)) with
  | none=>rw [hf] at this; exact this
  | some y =>
   rw [hf] at this; obtain ⟨u',h3,h4⟩:=this; exact ⟨u',h3,h4.cell fun _ _ _ _ hc=>BA _ _ _ hc⟩
theorem O3.some {key:CE→ByteArray} {W:CW} {r:Nat} {l:List CE} (h:O3 key W r l) {s:ByteArray} {x:CE} (hf:l.find? (fun x=>decide (key x=s))=Option.some x):∃ u,cY W u x∧HB prog 81 (.map (Option.some r)) (.string s) true W=Option.some (.tuple #[u,.bool true]):=by
 obtain ⟨m,h1,h2⟩:=h; have:=h2 s; rw [hf] at this; obtain ⟨u,h3,h4⟩:=this; refine ⟨u,h4,?_⟩; rw [Jy u81 u9 rfl pV FX h1 s true,h3]; rfl
theorem O3.none {key:CE→ByteArray} {W:CW} {r:Nat} {l:List CE} (h:O3 key W r l) {s:ByteArray} (hf:l.find? (fun x=>decide (key x=s))=Option.none):HB prog 81 (.map (Option.some r)) (.string s) true W=Option.some (.tuple #[vB,.bool false]):=by
 obtain ⟨m,h1,h2⟩:=h; have:=h2 s; rw [hf] at this; rw [Jy u81 u9 rfl pV FX h1 s true,this]; rfl
theorem rF.some {W:CW} {r:Nat} {c:List Af} (h:rF W r c c.length) {s:ByteArray} {i:Nat} (hi:BC c s=Option.some i):∃ a cap,HB prog 76 (.map (Option.some r)) (.string s) false W=Option.some (.slice a (Ai c i).length cap)∧Ay 1 (RKd W) (.slice a (Ai c i).length cap) (Ai c i):=by
 obtain ⟨m,h1,h2⟩:=h; have:=h2 s; rw [List.take_length,hi] at this; obtain ⟨v,h3,h4⟩:=this; obtain ⟨a,cap,rfl,h5⟩:=id h4; refine ⟨a,cap,?_,h4⟩; rw [Jy u76 u9 rfl z29 FX h1 s false,h3]; rfl
def ED (c:List Af) (l:List CE) (i:Nat) (s:CE):Bool:=match BC c s.type,BC c s.to with
 | some t,some a=>(decide (elemAt c t≠0) || decide (elemAt c a≠0) || Gj l s i) || decide (s.map.length≠(Ai c a).length)
 | _,_=>true
def Lw (l:List CE) (i:Nat) (s:CE):Bool:=DT i fun k=>decide ((l[k]?).map (·.to)=some s.to)
def TN (c:List Af) (s:CE):Bool:=match BC c s.type,BC c s.to with
 | some t,some a=>DT (Ai c a).length (J6 (Ai c t) (Ai c a) s.map)
 | _,_=>true
def O4 (l:List CE) (s:CE):Bool:=(l.find? fun x=>decide (x.type=s.to)).isSome
def Ir (c:List Af) (l:List CE) (i:Nat):Bool:=match l[i]? with
 | none=>true
 | some s=>ED c l i s || (Lw l i s || TN c s)
theorem O5 {c:List Af} {l:List CE} {i:Nat} {s:CE} (hs:l[i]?=some s):Oy c l i=(Ir c l i || O4 l s):=by
 unfold Oy Ir ED TN; rw [hs]; simp only
 cases ht:BC c s.type with
 | none=>simp
 | some t =>
  cases ha:BC c s.to with
  | none=>simp
  | some a =>
   simp only
   have hn:DT l.length (J7 l s i)=(Lw l i s || O4 l s):=by
    have K5:=(List.getElem?_eq_some_iff.1 hs).1; rw [Bool.eq_iff_iff,Bool.or_eq_true]; unfold O4; rw [List.find?_isSome]
    constructor
    ·intro h; obtain ⟨k,hk,hb⟩:=List.any_eq_true.1 h; have hk:=List.mem_range.1 hk; unfold J7 at hb; have hxk:=List.getElem?_eq_getElem hk; rw [hxk] at hb; simp only [Bool.or_eq_true,Bool.and_eq_true,decide_eq_true_eq] at hb
     rcases hb with hb | ⟨hb,Ut⟩
     ·exact .inr ⟨_,List.getElem_mem hk,by simpa using hb⟩
     ·exact .inl (DZ hb (by rw [hxk]; simpa using Ut))
    ·rintro (h | ⟨x,hx,hb⟩)
     ·obtain ⟨k,hk,hb⟩:=List.any_eq_true.1 h; have hk:=List.mem_range.1 hk; have hxk:=List.getElem?_eq_getElem (show k<l.length by omega); rw [hxk] at hb; refine DZ (show k<l.length by omega) ?_; unfold J7; rw [hxk]; simp only [Option.map_some,Option.some.injEq,decide_eq_true_eq] at hb; simp [hb,hk]
     ·obtain ⟨k,hk,rfl⟩:=List.mem_iff_getElem.1 hx; refine DZ hk ?_; unfold J7; rw [List.getElem?_eq_getElem hk]; simp only [hb,Bool.true_or]
   rw [hn]
   cases decide (elemAt c t≠0) <;> cases decide (elemAt c a≠0) <;> cases Gj l s i <;> cases Lw l i s <;> cases O4 l s <;> cases decide (s.map.length≠(Ai c a).length) <;> simp
theorem pX {c:List Af} {l:List CE}:∀ {i:Nat},(∀ j,j<i→∀ s,l[j]?=some s→ED c l j s=false)→∀ j k x y,j<k→k<i→l[j]?=some x→l[k]?=some y→Q5 (sb x.type) (sb y.type)=true:=by
 intro i h j k
 induction k with
 | zero=>intro x y hj; omega
 | succ k ih =>
  intro x y hj hk hx hy; have hb:=h (k+1) hk y hy; unfold ED at hb
  split at hb
  ·simp only [Bool.or_eq_false_iff] at hb; have hp:=hb.1.2; unfold Gj at hp; have cS:k<l.length:=by have:=(List.getElem?_eq_some_iff.1 hy).1; omega
   have hz:=List.getElem?_eq_getElem cS; simp only [hz,Bool.not_eq_false'] at hp
   rcases Nat.lt_succ_iff_lt_or_eq.1 hj with h1 | rfl
   ·exact Lv _ _ _ (ih x _ h1 (by omega) hx hz) hp
   ·rw [hx] at hz; cases hz; exact hp
  ·cases hb
end Go.Ce
namespace Go.Ce
open Go Go.Proofs Go.Proofs.Tryz
theorem DW.kp {W W':CW} {r1 r2:Nat} {c:List Af} (h:DW W r1 r2 c) (ht:At W) (k:Kp W W'):DW W' r1 r2 c:=by
 refine ⟨h.sh.kp ht k,?_⟩; obtain ⟨m,m1,m2⟩:=h.rw; refine ⟨m,m1.kp ht k,fun s=>?_⟩; have:=m2 s
 cases hi:BC (c.take c.length) s with
 | none=>rw [hi] at this; exact this
 | some i =>
  rw [hi] at this; obtain ⟨v,h5,h6⟩:=this; exact ⟨v,h5,h6.imp fun _ _ _ hr=>k.cell ht hr⟩
theorem DW.A4 {W W':CW} {r1 r2 r:Nat} {c:List Af} (h:DW W r1 r2 c) (hu:DM r W W') (h1:r1≠r) (h2:r2≠r) (BA:∀ b k v,W.cell b k=some v→W'.cell b k=some v):DW W' r1 r2 c:=by
 constructor
 ·obtain ⟨m,m1,m2⟩:=h.sh; refine ⟨m,m1.congr (hu.obj _ h1),fun s=>?_⟩; have:=m2 s
  cases hi:BC c s with
  | none=>rw [hi] at this; exact this
  | some i =>
   rw [hi] at this; obtain ⟨u,x,h5,h6,vf,ab,lb,cb,h7,h8⟩:=this; exact ⟨u,x,h5,h6,vf,ab,lb,cb,h7,h8.imp fun _ _ _ hr=>⟨BA _ _ _ hr.name,BA _ _ _ hr.kind,hr.lo,hr.hi⟩⟩
 ·obtain ⟨m,m1,m2⟩:=h.rw; refine ⟨m,m1.congr (hu.obj _ h2),fun s=>?_⟩; have:=m2 s
  cases hi:BC (c.take c.length) s with
  | none=>rw [hi] at this; exact this
  | some i =>
   rw [hi] at this; obtain ⟨v,h5,h6⟩:=this; exact ⟨v,h5,h6.imp fun _ _ _ hr=>BA _ _ _ hr⟩
theorem ZG {mp:List Int} {k:Nat} (hk:k≤mp.length) (n:Int):Ox mp k n=(mp.take k).any fun x=>decide (x=n):=by
 unfold Ox DT; rw [Bool.eq_iff_iff,List.any_eq_true,List.any_eq_true]
 constructor
 ·rintro ⟨j,hj,h⟩; have hjk:=List.mem_range.1 hj; rw [List.getElem?_eq_getElem (by omega)] at h; exact ⟨mp[j],List.mem_take_iff_getElem.2 ⟨j,by omega,rfl⟩,by simpa using h⟩
 ·rintro ⟨x,hx,h⟩; obtain ⟨j,hj,rfl⟩:=List.mem_take_iff_getElem.1 hx; refine ⟨j,List.mem_range.2 (by omega),?_⟩; rw [List.getElem?_eq_getElem (by omega)]
  simpa using h
theorem mC {W:CW} {v:Value} {l:List Int} {k:Nat} (h:Ay 1 (EW W) v l) (ho:MG W 3 v) (hk:k≤l.length):∃ v',eF prog 40 v none (some (.int .i64 k)) none W=some v'∧Ay 1 (EW W) v' (l.take k):=by
 obtain ⟨a,cap,rfl,hc⟩:=h; obtain ⟨he,hle⟩:=ho _ _ _ rfl; have cS:(l.take k).length=k:=by rw [List.length_take]; omega
 refine ⟨.slice (cond (Nat.beq cap 0) a (a.map fun a=>⟨a.block,a.off+0*1,none⟩)) k cap,?_,⟨_,cap,by rw [cS],fun i x hx=>?_⟩⟩
 ·unfold eF; rw [Iw]; simp only [Ml,Iw,CH,bound,s3]; rw [show (decide ((0:Int)≤(k:Int)) && decide ((k:Int)≤(cap:Int)))=true by simp; omega]; simp only [cond_true,he,Option.isSome_none,Bool.false_and,Bool.false_or,Bool.not_true,Bool.or_false,Int.toNat_natCast]; rw [show Nat.ble k cap=true from Nat.ble_eq_true_of_le (by omega)]; simp
 ·have hik:i<k:=by have:=(List.getElem?_eq_some_iff.1 hx).1; omega
  rw [List.getElem?_take,if_pos hik] at hx; obtain ⟨p,rfl,hr⟩:=hc i x hx
  have UL:Nat.beq cap 0=false:=by
   cases hb:Nat.beq cap 0 with
   | false=>rfl
   | true=>have:=Nat.eq_of_beq_eq_true hb; omega
  rw [UL]; exact ⟨⟨p.block,p.off+0*1,none⟩,rfl,by rw [Nat.zero_mul,Nat.add_zero]; exact hr⟩
theorem pY {W:CW} {K:AG} {e e1:Env} {c:List Af} {s:CE} {r1 r2 b2 b8 t a:Nat} {vm:Value} (EY:DW W r1 r2 c) (Ut:W.cell b2 1=some (.map (some r2))) (OO:Aw W b8 58 [.string s.type,.string s.to,vm]) (aK:Ay 1 (EW W) vm s.map) (Ae:MG W 3 vm) (ht:BC c s.type=some t) (ha:BC c s.to=some a) (hlen:s.map.length=(Ai c a).length) (YT:s.map.length<100000) (L8:(Ai c t).length<100000)
  (h2:e 2=.pointer (some ⟨b2,0,none⟩)) (h8:e 8=.pointer (some ⟨b8,0,none⟩)) (ACC:e 107=vm) (ACD:e 108=.int .i64 s.map.length) (he:ER [1,2,4,6,8,29,30,31,107,108] e e1) (ACE:e1 109=.int .i64 0)
  (gi:TN c s=true→∀ e',ER [4,6] e e'→wV (ld prog 83 (e' 6) W) fun pF=>wV (CP prog 83 (e' 4) pF W) fun QX=>∀ e2:Env,e2 4=e' 4→e2 5=.bool false→K .ret e2 [] QX)
  (HJ:TN c s=false→∀ e',ER [1,2,4,6,8,29,30,31] e e'→K (.exit 2) e' [] W) :
  C1 prog AT none 48 179 (.loop (Ag prog 48 1)) e1 [] W K:=by
 have hms:TN c s=DT (Ai c a).length (J6 (Ai c t) (Ai c a) s.map):=by unfold TN; rw [ht,ha]
 refine Du (fun m e' C_ W'=>C_=[]∧W'=W∧ER [1,2,4,6,8,29,30,31,107,108] e e'∧e' 109=.int .i64 m∧∀ j,j<m→J6 (Ai c t) (Ai c a) s.map j=false) s.map.length ⟨rfl,rfl,he,ACE,by omega⟩ ?_; rintro m e' C_ W' hm ⟨rfl,rfl,hA,AAF,CY⟩; have g2:=(hA 2 (by decide)).trans h2; have g8:=(hA 8 (by decide)).trans h8; rw [uK,g2,g8,AAF,(hA 107 (by decide)).trans ACC,(hA 108 (by decide)).trans ACD]; simp only [A6,AA]
 refine Gx (fun Ax=>?_) (fun NW=>?_)
 ·have hx:=List.getElem?_eq_getElem Ax; have Od:m<(Ai c a).length:=by omega
  have hxa:=List.getElem?_eq_getElem Od; obtain ⟨av,cv,rfl,hmc⟩:=id aK; obtain ⟨q,rfl,hq⟩:=hmc m _ hx; obtain ⟨art,crt,lt,hrt⟩:=EY.rw.some ht; obtain ⟨ara,cra,la,hra⟩:=EY.rw.some ha; rw [BH Iw s3 Ax]; simp only [AA,IW,Ln,Lo,Nt]; have qm:ld prog 76 (.pointer (some ⟨b2,0+1,none⟩)) W'=some (.map (some r2)):=AD rB (a:=⟨b2,0+1,none⟩) Ut; have qt:ld prog 9 (.pointer (some ⟨b8,0,none⟩)) W'=some (.string s.type):=AD a9 (a:=⟨b8,0,none⟩) (OO.cell rfl); have qa:ld prog 9 (.pointer (some ⟨b8,0+1,none⟩)) W'=some (.string s.to):=AD a9 (a:=⟨b8,0+1,none⟩) (OO.cell rfl); have qv:ld prog 40 (.pointer (some ⟨b8,0+2,none⟩)) W'=some (.slice (some q) s.map.length cv):=AD ND (a:=⟨b8,0+2,none⟩) (OO.cell rfl); rw [AD a3 (a:=⟨q.block,q.off+m*1,none⟩) hq.1]; simp only [AA,qm,qt,lt,Ac PR,GD]; rw [wrap64 (by omega) (by omega)]; have hmb:J6 (Ai c t) (Ai c a) s.map m=(decide (s.map[m]<0) || decide (s.map[m]≥(Ai c t).length) || decide ((Ai c t)[s.map[m].toNat]?≠(Ai c a)[m]?) || Ox s.map m s.map[m]):=by unfold J6; rw [hx]
  have leaf:∀ (b:Bool) (e2:Env),ER [1,2,4,6,8,29,30,31,107,108,109] e' e2→e2 147=.bool b→b=J6 (Ai c t) (Ai c a) s.map m→(N1 none (J5 (fun m e' ACF ep=>ACF=[]∧ep=W'∧ER [1,2,4,6,8,29,30,31,107,108] e e'∧e' 109=.int .i64 m∧∀ j,j<m→J6 (Ai c t) (Ai c a) s.map j=false) m s.map.length K)) .normal e2 [] W':=by
   intro b e2 VQ ACG hb; simp only [N1,Bs,ACG]
   refine AL (fun TI=>?_) (fun TI=>?_)
   ·have hA3:ER [1,2,4,6,8,29,30,31,107,108] e e2:=hA.trans fun t ht=>VQ t (by revert t; decide); have:=gi (by rw [hms]; exact DZ Od (by rw [←hb,TI])) e2 (fun t ht=>hA3 t (by revert t; decide))
    revert this
    cases ld prog 83 (e2 6) W' with
    | none=>exact fun h=>h
    | some v =>
     simp only [AA]
     cases CP prog 83 (e2 4) v W' with
     | none=>exact fun h=>h
     | some QX =>
      simp only [AA]; intro h; simp only [N0,KR,HC,Ud]; exact h _ rfl rfl
   ·simp only [N0,Bs,HC,(VQ 109 (by decide)).trans AAF,Ap,AA]; refine ⟨Ax,trivial,trivial,(hA.trans fun t ht=>VQ t (by revert t; decide)).trans (.put rfl),?_,JK CY (by rw [←hb,TI])⟩; simp only [Aa,↓reduceIte]; rw [Dv (by omega)]
  refine EP (Ys _ _ _ _) ?_; simp only [Al,AA]
  refine AL (fun hb=>?_) (fun hb=>?_)
  ·refine ⟨by simp only [and_self],trivial,leaf true _ (.put rfl) rfl ?_⟩; rw [hmb]
   by_cases h1:s.map[m]<0
   ·rw [decide_eq_true h1]; rfl
   ·have:¬(s.map[m]≤((Ai c t).length:Int)-1):=by
     intro h2; rw [decide_eq_true (by omega:(0:Int)≤s.map[m]),decide_eq_true h2] at hb
     cases hb
    rw [decide_eq_true (by omega:s.map[m]≥((Ai c t).length:Int))]; simp
  ·have hb:(decide ((0:Int)≤s.map[m]) && decide (s.map[m]≤((Ai c t).length:Int)-1))=true:=by simpa only [Bool.not_eq_false'] using hb
   simp only [Bool.and_eq_true,decide_eq_true_eq] at hb; obtain ⟨nU,ADz⟩:=hb; obtain ⟨v',hsl,F7⟩:=mC (k:=m) aK Ae (by omega); simp only [qv,hsl,AA]; refine EP (TM F7 (by rw [List.length_take]; omega)) ?_; have AAG:=ZG (mp:=s.map) (k:=m) (by omega) s.map[m]
   refine AL (fun hd=>?_) (fun hd=>?_)
   ·refine ⟨by simp only [and_self],trivial,leaf true _ (.put rfl) rfl ?_⟩; rw [hmb,AAG,hd]; simp
   ·have KN:s.map[m].toNat<(Ai c t).length:=by omega
    have hxt:=List.getElem?_eq_getElem KN; obtain ⟨_,_,e3,ACH⟩:=hrt
    cases e3
    obtain ⟨_,_,e4,ACI⟩:=hra
    cases e4
    obtain ⟨pt,rfl,hpt⟩:=ACH _ _ hxt; obtain ⟨pa,rfl,hpa⟩:=ACI _ _ hxa
    have ei:Dz prog 29 (.slice (some pt) (Ai c t).length crt) (.int .i64 s.map[m])=some (.pointer (some ⟨pt.block,pt.off+s.map[m].toNat*1,none⟩)):=by
     have e1:(Value.int IntKind.i64 s.map[m])=.int .i64 ((s.map[m].toNat:Nat):Int):=by rw [Int.toNat_of_nonneg nU]
     rw [e1]; exact BH PR s5 KN
    simp only [ei,AA]; rw [AD a5 (a:=⟨pt.block,pt.off+s.map[m].toNat*1,none⟩) hpt]; simp only [AA,qm,qa,la]; rw [BH PR s5 Od]; simp only [AA]; rw [AD a5 (a:=⟨pa.block,pa.off+m*1,none⟩) hpa]; simp only [AA,B_]; refine ⟨by simp only [and_self],trivial,leaf _ _ (.put rfl) rfl ?_⟩; rw [hmb,AAG,hd,hxt,hxa,decide_eq_false (by omega:¬s.map[m]<0),decide_eq_false (by omega:¬s.map[m]≥((Ai c t).length:Int))]; simp only [Bool.or_self,Bool.false_or,Bool.or_false]
    by_cases e:(Ai c t)[s.map[m].toNat]=(Ai c a)[m]
    ·rw [decide_eq_false (by simp [e])]; simp [e]
    ·rw [decide_eq_true (by simpa using e)]; simpa using e
 ·simp only [ON]; refine HJ ?_ _ (fun t ht=>(ER.put rfl t (by exact ht)).trans (hA t (by revert t; decide))); rw [hms]; exact Em fun j hj=>CY j (by omega)
end Go.Ce
namespace Go.Ce
open Go Go.Proofs Go.Proofs.Tryz
theorem ZH:Tryz.f48.results.toList=[.cell 4 83,.tmp 5]:=by kernel_rfl
theorem vC:DC prog 83=some 2:=by kernel_rfl
theorem a83:agg? prog 83=some true:=by kernel_rfl
theorem xS:agg? prog 81=some false:=by kernel_rfl
theorem z83:GP prog 83=some (.agg #[.map none,.map none]):=by kernel_rfl
theorem AAH (a b:Nat):RE prog 83 [(0,.map (some a)),(1,.map (some b))]=some (.agg [.map (some a),.map (some b)].toArray):=by kernel_rfl
theorem XJ (a:Addr):A_ prog 83 (.pointer (some a)) 0=some (.pointer (some ⟨a.block,a.off,none⟩)):=by kernel_rfl
theorem XK (a:Addr):A_ prog 83 (.pointer (some a)) 1=some (.pointer (some ⟨a.block,a.off+1,none⟩)):=by kernel_rfl
theorem XL {W:CW} {b a1 a2:Nat} (h:Aw W b 83 [.map (some a1),.map (some a2)]):ld prog 83 (.pointer (some ⟨b,0,none⟩)) W=some (.agg [.map (some a1),.map (some a2)].toArray):=Bd (vs:=[.map (some a1),.map (some a2)]) a83 vC rfl (by omega) h.cells
theorem Ou.ld {W:CW} {b o:Nat} {x:CE} (h:Ou W b o x):∃ am cm,ld prog 58 (.pointer (some ⟨b,o,none⟩)) W=some (.agg [.string x.type,.string x.to,.slice am x.map.length cm].toArray)∧Ay 1 (EW W) (.slice am x.map.length cm) x.map∧MG W 3 (.slice am x.map.length cm):=by
 obtain ⟨v,h1,h2,h3⟩:=h.map; obtain ⟨am,cm,rfl,h4⟩:=id h2; refine ⟨am,cm,Bd (vs:=[.string x.type,.string x.to,.slice am x.map.length cm]) a58 gR rfl (by omega) ?_,h2,h3⟩; intro j w hj
 match j,hj with
 | 0,hj=>cases hj; exact h.type
 | 1,hj=>cases hj; exact h.to
 | 2,hj=>cases hj; exact h1
theorem XM {W:CW} {r1:Nat} {c:List Af} (h:RX W r1 c) (s:ByteArray):∃ ws:List Value,HB prog 75 (.map (some r1)) (.string s) true W=some (.tuple #[.agg ws.toArray,.bool (BC c s).isSome])∧ws.length=5∧ws.all BB=true∧∀ i,BC c s=some i→ws[3]?=some (.int .u8 (elemAt c i)):=by
 cases hi:BC c s with
 | none =>
  obtain ⟨l1,_⟩:=h.none hi; exact ⟨[.string ⟨#[]⟩,.string ⟨#[]⟩,.slice none 0 0,.int .u8 0,.slice none 0 0],l1,rfl,rfl,fun i h=>by cases h⟩
 | some i =>
  obtain ⟨u,x,hx,hu,l1,_⟩:=h.some hi; obtain ⟨vf,ab,lb,cb,rfl,hf⟩:=hu; obtain ⟨af,cf,rfl,_⟩:=hf; refine ⟨[.string x.name,.string x.Bk,.slice af x.fields.length cf,.int .u8 x.elem,.slice ab lb cb],l1,rfl,rfl,fun j h=>?_⟩
  cases h
  unfold elemAt; rw [hx]; rfl
theorem cZ {key:CE→ByteArray} {W:CW} {r:Nat} {l:List CE} (h:O3 key W r l) (s:ByteArray):∃ ws:List Value,HB prog 81 (.map (some r)) (.string s) true W=some (.tuple #[.agg ws.toArray,.bool (l.find? fun x=>decide (key x=s)).isSome])∧ws.length=3∧ws.all BB=true:=by
 cases hf:l.find? fun x=>decide (key x=s) with
 | none=>exact ⟨[.string ⟨#[]⟩,.string ⟨#[]⟩,.slice none 0 0],h.none hf,rfl,rfl⟩
 | some x =>
  obtain ⟨u,hu,l1⟩:=h.some hf; obtain ⟨am,cm,rfl,_⟩:=hu; exact ⟨[.string x.type,.string x.to,.slice am x.map.length cm],l1,rfl,rfl⟩
structure O6 (W0 W:CW) (b2 b4 b6 r1 r2 w r:Nat) (c:List Af):Prop where
 kp:Kp W0 W
 top:At W
 b2:Aw W b2 78 [.map (some r1),.map (some r2)]
 b4:Aw W b4 83 [.map none,.map none]
 b6:Aw W b6 83 [.map (some w),.map (some r)]
 cat:DW W r1 r2 c
theorem O6.VU {W0 W W':CW} {b2 b4 b6 r1 r2 w r:Nat} {c:List Af} (I:O6 W0 W b2 b4 b6 r1 r2 w r c) (k:Kp W W') (t:At W'):O6 W0 W' b2 b4 b6 r1 r2 w r c:=⟨I.kp.trans k,t,I.b2.ext I.top k,I.b4.ext I.top k,I.b6.ext I.top k,I.cat.kp I.top k⟩
def VV (c:List Af) (l:List CE) (W:CW):Ending→CW→Prop:=fun e W'=>Kp W W'∧At W'∧∃ w r,e=.returned (.tuple #[.agg #[.map (some w),.map (some r)],.bool (BZ c l)])∧(BZ c l=true→O3 CE.type W' w l∧O3 CE.to W' r l)
theorem ZI {v1:Value} {c:List Af} {l:List CE} {r1 r2:Nat} {W:CW} (ht:At W) (EY:DW W r1 r2 c) (hC:Qz c) (hl:Ay 3 (Ou W) v1 l) (fi:l.length<100000) (Xm:∀ s,s ∈ l→s.map.length<100000):AH prog AT 48 [IA r1 r2,v1] W (VV c l W):=by
 refine zf ?_; rw [za]; obtain ⟨a,cap,rfl,_⟩:=id hl; unfold IA; refine FM N7 ht fun W0 k0 t0 z0 HD=>?_; have HD:Aw W0 W.sz 78 [.map (some r1),.map (some r2)]:=HD; refine Hu z83 vC t0 fun W1 k1 t1 z1 KY=>?_; have KY:Aw W1 W0.sz 83 [.map none,.map none]:=KY; refine Sz (enc:=Value.string) t1 fun W2 k2 t2 z2 Z6=>?_; refine Sz (enc:=Value.string) t2 fun W3 k3 t3 z3 Bo=>?_; rw [AAH]; simp only [AA]; refine DG z83 vC rfl rfl rfl t3 fun W5 k5 t5 z5 J'=>?_; simp only [Ac jQ,AA,Bg]; have mD:=(k2.trans k3).trans k5; have kk:Kp W W5:=(k0.trans k1).trans mD; have I5:O6 W W5 W.sz W0.sz W3.sz r1 r2 W1.sz W2.sz c:=⟨kk,t5,HD.ext t0 (k1.trans mD),KY.ext t1 mD,J',EY.kp ht kk⟩
 have l_:=Z6.kp t2 (k3.trans k5); have mA:=Bo.kp t3 k5; have wW:W.sz≤W1.sz:=(k0.trans k1).sz; have rW:W.sz≤W2.sz:=Nat.le_trans wW k2.sz; have r1l:r1<W.sz:=by obtain ⟨m,h1,_⟩:=EY.sh; exact h1.lt ht
 have r2l:r2<W.sz:=by obtain ⟨m,h1,_⟩:=EY.rw; exact h1.lt ht
 have P':W1.sz≠W2.sz:=by omega
 generalize W1.sz=w at I5 l_ wW P'; generalize W2.sz=r at I5 mA rW P'; generalize W3.sz=b6 at I5; have AAI:W.sz≤W0.sz:=k0.sz; generalize W0.sz=b4 at I5 AAI; generalize JO:AK prog Tryz.f48 (VV c l W)=K
 have F1:∀ W1 (ok:Bool),O6 W W1 W.sz b4 b6 r1 r2 w r c→ok=BZ c l→(BZ c l=true→O3 CE.type W1 w l∧O3 CE.to W1 r l)→∀ {K':CW→Prop},(∀ W2,(∀ e,e 4=.pointer (some ⟨b4,0,none⟩)→e 5=.bool ok→K .ret e [] W2)→K' W2) →
   wV (CP prog 83 (.pointer (some ⟨b4,0,none⟩)) (.agg [.map (some w),.map (some r)].toArray) W1) K':=by
  intro W1 ok I Ae EY K' uv; refine Dk vC (a:=⟨b4,0,none⟩) rfl rfl I.b4 (by simp) fun W2 hu hB=>uv W2 fun e h4 h5=>?_; have hu:DM b4 W1 W2:=hu; rw [←JO]; have hB:Aw W2 b4 83 [.map (some w),.map (some r)]:=hB; refine H2 ZH h4 (XL hB) ?_; have ACJ:=I.b4.lt I.top; refine ⟨I.kp.A4 AAI hu,I.top.A4 ACJ hu,w,r,by rw [h5,Ae],fun hc=>?_⟩; obtain ⟨s1,s2⟩:=EY hc
  have BA:∀ b k k2 n,W1.cell b k=some (.int k2 n)→W2.cell b k=some (.int k2 n):=fun b k k2 n h=>by
   rw [hu.cell]
   ·exact h
   ·rintro rfl; have h2:=I.b4.N8 h
    match k,h2 with
    | 0,h2=>cases h2
    | 1,h2=>cases h2
  obtain ⟨m,g1,_⟩:=id s1; obtain ⟨m',g2,_⟩:=id s2; exact ⟨s1.cell (hu.obj _ (Ne.symm (Ba I.b4 g1))) BA,s2.cell (hu.obj _ (Ne.symm (Ba I.b4 g2))) BA⟩
 refine AL (fun hg=>?_) (fun hg=>?_)
 ·rw [XL I5.b6]; simp only [AA]
  have Gc:BZ c l=false:=by
   have:=of_decide_eq_true hg; unfold BZ; rw [decide_eq_false (by omega)]; rfl
  exact F1 W5 false I5 Gc.symm (fun h=>by rw [Gc] at h; cases h) fun W6 hr=>hr _ rfl rfl
 ·have hg:=of_decide_eq_false hg
  have KM:BZ c l=!DT l.length (Oy c l):=by
   unfold BZ; rw [decide_eq_true (by omega)]; rfl
  have pZ:∀ i s,l[i]?=some s→Ir c l i=true→BZ c l=false:=fun i s hs hb=>by
   rw [KM,DZ (List.getElem?_eq_some_iff.1 hs).1 (by rw [O5 hs,hb]; rfl)]; rfl
  refine Du (fun i e ds W'=>ds=[]∧O6 W W' W.sz b4 b6 r1 r2 w r c∧e 1=.slice a l.length cap∧e 29=.slice a l.length cap∧e 30=.int .i64 l.length∧e 31=.int .i64 i∧e 2=.pointer (some ⟨W.sz,0,none⟩)∧e 4=.pointer (some ⟨b4,0,none⟩)∧e 6=.pointer (some ⟨b6,0,none⟩)∧O3 CE.type W' w (l.take i)∧O3 CE.to W' r (l.take i)∧∀ j,j<i→Ir c l j=false) l.length
   ⟨rfl,I5,rfl,rfl,rfl,rfl,rfl,rfl,rfl,⟨[],l_,fun s=>rfl⟩,⟨[],mA,fun s=>rfl⟩,by omega⟩ ?_
  rintro i e ds W' hi ⟨rfl,I',h1,h29,h30,h31,h2,h4,h6,hw,hr,CY⟩; rw [uJ,h1,h29,h30,h31,h2]; simp only [A6,AA]
  refine Gx (fun Ax=>?_) (fun NW=>?_)
  ·obtain ⟨s,hs⟩:∃ s,l[i]?=some s:=⟨_,List.getElem?_eq_getElem Ax⟩
   have Hn:=List.mem_of_getElem? hs; have hlW:Ay 3 (Ou W') (.slice a l.length cap) l:=hl.imp fun _ _ _ hr=>hr.kp ht I'.kp; obtain ⟨a',cap',ha,BA⟩:=id hlW
   cases ha
   obtain ⟨p,rfl,T'⟩:=BA i _ hs; obtain ⟨am,cm,uw,gj,Ae⟩:=T'.ld; rw [BH jQ gR Ax]; simp only [AA,uw]; refine DG pV gR rfl rfl rfl I'.top fun NB ek t12 z12 OO=>?_; have xT:=I'.VU ek t12; have qt:∀ W7,Kp NB W7→ld prog 9 (.pointer (some ⟨W'.sz,0,none⟩)) W7=some (.string s.type):=fun W7 k7=>AD a9 (a:=⟨W'.sz,0,none⟩) (k7.cell t12 (OO.cell rfl)); have qa:∀ W7,Kp NB W7→ld prog 9 (.pointer (some ⟨W'.sz,0+1,none⟩)) W7=some (.string s.to):=fun W7 k7=>AD a9 (a:=⟨W'.sz,1,none⟩) (k7.cell t12 (OO.cell rfl)); have qv:∀ W7,Kp NB W7→ld prog 40 (.pointer (some ⟨W'.sz,0+2,none⟩)) W7=some (.slice am s.map.length cm):=fun W7 k7=>AD ND (a:=⟨W'.sz,2,none⟩) (k7.cell t12 (OO.cell rfl)); have qm1:∀ W7,O6 W W7 W.sz b4 b6 r1 r2 w r c→ld prog 75 (.pointer (some ⟨W.sz,0,none⟩)) W7=some (.map (some r1)):=fun W7 I=>AD pO (a:=⟨W.sz,0,none⟩) (I.b2.cell rfl); have qm2:∀ W7,O6 W W7 W.sz b4 b6 r1 r2 w r c→ld prog 76 (.pointer (some ⟨W.sz,0+1,none⟩)) W7=some (.map (some r2)):=fun W7 I=>AD rB (a:=⟨W.sz,1,none⟩) (I.b2.cell rfl); obtain ⟨ws1,L1,ACK,AAJ,ACL⟩:=XM xT.cat.sh s.type; simp only [HS,Ln,Lo,AA,qm1 NB xT,qt NB (.refl _),L1,CA,CB]; refine DG lQ eS rfl AAJ ACK t12 fun Lf Xn t14 z14 hB9=>?_; have vD:=xT.VU Xn t14; obtain ⟨ws2,L2,ACN,mE,ACO⟩:=XM vD.cat.sh s.to; simp only [AA,qm1 Lf vD,qa Lf Xn,L2,CA,CB]; refine DG lQ eS rfl mE ACN t14 fun C0 xU t16 z16 N'=>?_; have rH:=vD.VU xU t16; have KH:=Xn.trans xU; have vE:=ek.trans KH
   have leaf:∀ (b:Bool) (e1:Env),ER [1,2,4,6,29,30,31] e e1→e1 8=.pointer (some ⟨W'.sz,0,none⟩)→e1 94=.bool b→(b=true→ED c l i s=true)→(b=false→ED c l i s=false) →
     (HR none (J5 (fun i e ds W'=>ds=[]∧O6 W W' W.sz b4 b6 r1 r2 w r c∧e 1=.slice (some p) l.length cap∧e 29=.slice (some p) l.length cap∧e 30=.int .i64 l.length∧e 31=.int .i64 i∧e 2=.pointer (some ⟨W.sz,0,none⟩)∧e 4=.pointer (some ⟨b4,0,none⟩)∧e 6=.pointer (some ⟨b6,0,none⟩)∧O3 CE.type W' w (l.take i)∧O3 CE.to W' r (l.take i)∧∀ j,j<i→Ir c l j=false) i l.length (BU 0 (O0 none K)))) .normal e1 [] C0:=by
    intro b e1 hA g8 g94 gk jL; have g1:=(hA 1 (by decide)).trans h1; have g2:=(hA 2 (by decide)).trans h2; have g4:=(hA 4 (by decide)).trans h4; have g6:=(hA 6 (by decide)).trans h6; have g29:=(hA 29 (by decide)).trans h29; have g30:=(hA 30 (by decide)).trans h30; have g31:=(hA 31 (by decide)).trans h31; have O2:Ir c l i=(ED c l i s || (Lw l i s || TN c s)):=by unfold Ir; rw [hs]
    have Fh:∀ W7,O6 W W7 W.sz b4 b6 r1 r2 w r c→Ir c l i=true→∀ {K':CW→Prop},(∀ W2,(∀ e,e 4=.pointer (some ⟨b4,0,none⟩)→e 5=.bool false→K .ret e [] W2)→K' W2) →
      wV (CP prog 83 (.pointer (some ⟨b4,0,none⟩)) (.agg [.map (some w),.map (some r)].toArray) W7) K':=fun W7 I hb =>
     have Gc:=pZ i s hs hb
     F1 W7 false I Gc.symm (fun h=>by rw [Gc] at h; cases h)
    simp only [HR,Bs,g94]
    refine AL (fun TI=>?_) (fun TI=>?_)
    ·rw [g4,g6,XL rH.b6]; simp only [AA]; refine Fh C0 rH (by rw [O2,gk TI]; rfl) fun W8 pb=>?_; simp only [Nz,IU,KR,RR,HC,Ud,O0]; exact pb _ g4 rfl
    ·have I9:=jL TI; have ACP:=hr.kp I'.top vE; have AD0:=hw.kp I'.top vE; obtain ⟨ws3,L3,ACQ,AAK⟩:=cZ ACP s.to; simp only [Nz,Bs,g6,g8,XK,Lo,AA]; rw [AD xS (a:=⟨b6,0+1,none⟩) (rH.b6.cell rfl)]; simp only [AA,qa C0 KH,L3,CA,CB]; refine DG pV gR rfl AAK ACQ t16 fun KX k18 t18 z18 ACR=>?_; have aI:=rH.VU k18 t18; have VW:=KH.trans k18; have mF:=ek.trans VW
     have htw:Lw l i s=((l.take i).find? fun x=>decide (x.to=s.to)).isSome:=by
      unfold Lw DT; rw [Bool.eq_iff_iff,List.any_eq_true,List.find?_isSome]
      constructor
      ·rintro ⟨k,hk,hb⟩; have hk:=List.mem_range.1 hk; rw [List.getElem?_eq_getElem (show k<l.length by omega)] at hb; exact ⟨l[k],List.mem_take_iff_getElem.2 ⟨k,by omega,rfl⟩,by simpa using hb⟩
      ·rintro ⟨x,hx,hb⟩; obtain ⟨k,hk,rfl⟩:=List.mem_take_iff_getElem.1 hx; refine ⟨k,List.mem_range.2 (by omega),?_⟩; rw [List.getElem?_eq_getElem (show k<l.length by omega)]
       simpa using hb
     refine AL (fun XN=>?_) (fun XN=>?_)
     ·rw [g4,XL aI.b6]; simp only [AA]; refine Fh KX aI (by rw [O2,htw,XN]; simp) fun W8 pb=>?_; simp only [IU,KR,RR,HC,Ud,O0]; exact pb _ g4 rfl
     ·simp only [Nt,AA,qv KX VW,Ac Iw]; unfold ED at I9
      cases UB:BC c s.type with
      | none=>rw [UB] at I9; cases I9
      | some t =>
       cases aG:BC c s.to with
       | none=>rw [UB,aG] at I9; cases I9
       | some aa =>
        rw [UB,aG] at I9; simp only [Bool.or_eq_false_iff,decide_eq_false_iff_not,Decidable.not_not] at I9
        have Xi:(Ai c t).length<100000:=by
         have h1:=LH hC.len hC.fields t; unfold Ai; rw [List.length_map]; omega
        have vF:∀ j,j<i+1→∀ y,l[j]?=some y→ED c l j y=false:=fun j hj y hy=>by
         rcases Nat.lt_succ_iff_lt_or_eq.1 hj with h | rfl
         ·have:=CY j h; unfold Ir at this; rw [hy] at this; simp only [Bool.or_eq_false_iff] at this; exact this.1
         ·rw [hs] at hy; cases hy; unfold ED; rw [UB,aG]; simp only [Bool.or_eq_false_iff,decide_eq_false_iff_not,Decidable.not_not]; exact I9
        refine pY (e:=Env.of e1 [(8,.pointer (some ⟨W'.sz,0,none⟩)),(107,.slice am s.map.length cm),(108,.int .i64 s.map.length)]) aI.cat (aI.b2.cell rfl) ((OO.ext t12 VW)) (gj.imp fun _ _ _ hr=>hr.kp I'.top mF) (Ae.kp I'.top mF) UB aG I9.2 (Xm s Hn) Xi g2 rfl rfl rfl (fun t ht=>by
         simp only [List.mem_cons,List.not_mem_nil,or_false] at ht
         rcases ht with rfl | rfl | rfl | rfl | rfl | rfl | rfl | rfl | rfl | rfl <;> first | rfl | exact g8) rfl (fun hm e2 VQ=>?_) (fun hm e2 VQ=>?_)
        ·have q4:e2 4=.pointer (some ⟨b4,0,none⟩):=(VQ 4 (by decide)).trans g4; have q6:e2 6=.pointer (some ⟨b6,0,none⟩):=(VQ 6 (by decide)).trans g6; rw [q4,q6,XL aI.b6]; simp only [AA]; refine Fh KX aI (by rw [O2,hm]; simp) fun W8 pb=>?_; intro e3 r4 r5; simp only [XF,IU,Bs,KR,RR,HC,Ud,O0]; exact pb _ r4 r5
        ·have q1:e2 1=.slice (some p) l.length cap:=(VQ 1 (by decide)).trans g1; have q2:e2 2=.pointer (some ⟨W.sz,0,none⟩):=(VQ 2 (by decide)).trans g2; have q4:e2 4=.pointer (some ⟨b4,0,none⟩):=(VQ 4 (by decide)).trans g4; have q6:e2 6=.pointer (some ⟨b6,0,none⟩):=(VQ 6 (by decide)).trans g6; have q8:e2 8=.pointer (some ⟨W'.sz,0,none⟩):=(VQ 8 (by decide)).trans rfl; have q29:e2 29=.slice (some p) l.length cap:=(VQ 29 (by decide)).trans g29; have q30:e2 30=.int .i64 l.length:=(VQ 30 (by decide)).trans g30; have q31:e2 31=.int .i64 i:=(VQ 31 (by decide)).trans g31; have mG:=OO.ext t12 VW; have l58:∀ W7,Aw W7 W'.sz 58 [.string s.type,.string s.to,.slice am s.map.length cm]→ld prog 58 (.pointer (some ⟨W'.sz,0,none⟩)) W7=some (.agg [.string s.type,.string s.to,.slice am s.map.length cm].toArray):=fun W7 hB=>Bd (vs:=[.string s.type,.string s.to,.slice am s.map.length cm]) a58 gR rfl (by omega) hB.cells; have lr:∀ W7,Aw W7 b6 83 [.map (some w),.map (some r)]→ld prog 81 (.pointer (some ⟨b6,0+1,none⟩)) W7=some (.map (some r)):=fun W7 hB=>AD xS (a:=⟨b6,0+1,none⟩) (hB.cell rfl); have lto:∀ W7,Aw W7 W'.sz 58 [.string s.type,.string s.to,.slice am s.map.length cm]→ld prog 9 (.pointer (some ⟨W'.sz,0+1,none⟩)) W7=some (.string s.to):=fun W7 hB=>AD a9 (a:=⟨W'.sz,0+1,none⟩) (hB.cell rfl); simp only [Bs,VD,Md,if_true,XF,q6,q8,XJ,XK,Ln,Lo,AA,lr KX aI.b6,qt KX VW,qa KX VW,l58 KX mG]; rw [AD xS (a:=⟨b6,0,none⟩) (aI.b6.cell rfl)]; simp only [AA]; have AAL:=hw.kp I'.top mF; have AAM:=hr.kp I'.top mF; have hAS:cY KX (.agg [.string s.type,.string s.to,.slice am s.map.length cm].toArray) s:=⟨am,cm,rfl,gj.imp fun _ _ _ hr=>hr.kp I'.top mF⟩
         refine AAL.put (key:=CE.type) hs (fun j y hj hy e=>?_) hAS fun QW ZJ vG ACS=>?_
         ·have:=pX vF j i y s hj (by omega) hy hs; rw [e,N5] at this; cases this
         ·obtain ⟨m18,gw,_⟩:=id AAL; obtain ⟨AD1,gr,_⟩:=id AAM; have hwl:=gw.lt t18; have t20:=t18.A4 hwl ZJ; have pc:O6 W QW W.sz b4 b6 r1 r2 w r c:=⟨aI.kp.A4 wW ZJ,t20,aI.b2.congr (ZJ.obj _ (Ba aI.b2 gw)),aI.b4.congr (ZJ.obj _ (Ba aI.b4 gw)),aI.b6.congr (ZJ.obj _ (Ba aI.b6 gw)),aI.cat.A4 ZJ (by omega) (by omega) vG⟩
          have AAN:=AAM.cell (ZJ.obj _ (Ne.symm P')) fun _ _ _ _ hc=>vG _ _ _ hc; have rI:Aw QW W'.sz 58 [.string s.type,.string s.to,.slice am s.map.length cm]:=mG.congr (ZJ.obj _ (Ba mG gw))
          refine AAN.put (key:=CE.to) hs (fun j y hj hy e=>?_) (hAS.cell fun _ _ _ _ hc=>vG _ _ _ hc) fun gG ca AAO ACT=>?_
          ·have:((l.take i).find? fun x=>decide (x.to=s.to)).isSome=true:=by
            rw [List.find?_isSome]; have TG:=(List.getElem?_eq_some_iff.1 hy).1; exact ⟨y,List.mem_take_iff_getElem.2 ⟨j,by omega,(List.getElem?_eq_some_iff.1 hy).2⟩,by simpa using e⟩
           rw [XN] at this; cases this
          ·obtain ⟨m20,pe,_⟩:=id AAN; have AAP:=pe.lt t20; have I21:O6 W gG W.sz b4 b6 r1 r2 w r c:=⟨pc.kp.A4 rW ca,t20.A4 AAP ca,pc.b2.congr (ca.obj _ (Ba pc.b2 pe)),pc.b4.congr (ca.obj _ (Ba pc.b4 pe)),pc.b6.congr (ca.obj _ (Ba pc.b6 pe)),pc.cat.A4 ca (by omega) (by omega) AAO⟩
           have ACU:=ACS.cell (ca.obj _ P') fun _ _ _ _ hc=>AAO _ _ _ hc; refine ⟨by simp only [l58 QW rI,lto QW rI,lr QW pc.b6,and_self],trivial,?_⟩; simp only [IU,Bs,HC]; simp only [Aa,Av,Nat.reduceEqDiff,↓reduceIte,q31,Ap,AA]; refine ⟨Ax,trivial,I21,q1,q29,q30,by rw [Dv (by omega)],q2,q4,q6,ACU,ACT,JK CY ?_⟩; rw [O2,htw,XN,hm]; unfold ED; rw [UB,aG]; simp only [Bool.or_self,Bool.or_false]; rw [Bool.or_eq_false_iff]; simp only [Bool.or_eq_false_iff,decide_eq_false_iff_not,Decidable.not_not]; exact I9
   simp only [Al,AA]
   cases UB:BC c s.type with
   | none =>
    have hh:ED c l i s=true:=by unfold ED; rw [UB]
    simp only [Option.isSome_none,Bool.not_false,Bm]; exact ⟨trivial,trivial,leaf true _ (.put rfl) rfl rfl (fun _=>hh) (fun h=>by cases h)⟩
   | some t =>
    simp only [Option.isSome_some,Bool.not_true,Ao]
    cases aG:BC c s.to with
    | none =>
     have hh:ED c l i s=true:=by unfold ED; rw [UB,aG]
     simp only [Option.isSome_none,Bool.not_false,Bm]; exact ⟨trivial,trivial,leaf true _ (.put rfl) rfl rfl (fun _=>hh) (fun h=>by cases h)⟩
    | some aa =>
     have hh:ED c l i s=((decide (elemAt c t≠0) || decide (elemAt c aa≠0) || Gj l s i) || decide (s.map.length≠(Ai c aa).length)):=by unfold ED; rw [UB,aG]
     simp only [Option.isSome_some,Bool.not_true,Ao]; have e9:ld prog 5 (.pointer (some ⟨NB.sz,0+3,none⟩)) C0=some (.int .u8 (elemAt c t)):=AD a5 (a:=⟨NB.sz,0+3,none⟩) (xU.cell t14 (hB9.cell (ACL t UB))); have OQ:ld prog 5 (.pointer (some ⟨Lf.sz,0+3,none⟩)) C0=some (.int .u8 (elemAt c aa)):=AD a5 (a:=⟨Lf.sz,0+3,none⟩) (N'.cell (ACO aa aG)); obtain ⟨ara,cra,la,hra⟩:=rH.cat.rw.some aG; simp only [Wz,AA,e9,OQ,B_,Bg,Nt,IW,qv C0 KH,qm2 C0 rH,qa C0 KH,qt C0 KH,la,Ac Iw,Ac PR]
     refine AL (fun he=>?_) (fun he=>?_)
     ·have he:elemAt c t≠0:=by simpa using he
      exact ⟨by simp only [and_self],trivial,leaf true _ (.put rfl) rfl rfl (fun _=>by rw [hh,decide_eq_true he]; rfl) (fun h=>by cases h)⟩
     ·have he:¬elemAt c t≠0:=by simpa using he
      refine AL (fun R6=>?_) (fun R6=>?_)
      ·have R6:elemAt c aa≠0:=by simpa using R6
       exact ⟨by simp only [and_self],trivial,leaf true _ (.put rfl) rfl rfl (fun _=>by rw [hh,decide_eq_true R6]; simp) (fun h=>by cases h)⟩
      ·have R6:¬elemAt c aa≠0:=by simpa using R6
       rw [decide_eq_false he,decide_eq_false R6,Bool.or_self,Bool.false_or] at hh
       have P7:Gj l s i=false→((s.map.length:Int) != ((Ai c aa).length:Nat))=ED c l i s:=fun hp=>by
        rw [hh,hp,Bool.false_or]
        by_cases e:s.map.length=(Ai c aa).length
        ·rw [decide_eq_false (by simpa using e),e]; simp
        ·rw [decide_eq_true e]; simp; omega
       cases i with
       | zero =>
        refine AL (fun h=>by simp at h) (fun _=>?_); have hp:=P7 rfl; exact ⟨by simp only [qv C0 KH,qm2 C0 rH,qa C0 KH,Ac Iw,Ac PR,and_self],trivial,leaf _ _ (.put rfl) rfl rfl (fun h=>by rw [←hp]; exact h) (fun h=>by rw [←hp]; exact h)⟩
       | succ i =>
        refine AL (fun _=>?_) (fun h=>by have:=of_decide_eq_false h; omega); have AAQ:i<l.length:=by omega
        have hxp:=List.getElem?_eq_getElem AAQ; obtain ⟨p',hp',u6⟩:=BA i _ hxp
        cases hp'
        have r3:ld prog 9 (.pointer (some ⟨p.block,p.off+i*3,none⟩)) C0=some (.string l[i].type):=AD a9 (a:=⟨p.block,p.off+i*3,none⟩) (vE.cell I'.top u6.type); have es:((i+1:Nat):Int)-1=(i:Nat):=by omega
        simp only [GD,AA,es]; rw [wrap64 (by omega) (by omega),BH jQ gR AAQ]; simp only [AA,Ln,r3,VH]; have hpb:Gj l s (i+1)=!Q5 (sb l[i].type) (sb s.type):=by unfold Gj; simp only [hxp]
        refine AL (fun hq=>?_) (fun hq=>?_)
        ·exact ⟨by simp only [qt C0 KH,and_self],trivial,leaf true _ (.put rfl) rfl rfl (fun _=>by rw [hh,hpb,hq]; rfl) (fun h=>by cases h)⟩
        ·have hp:=P7 (hpb.trans hq); exact ⟨by simp only [qt C0 KH,qv C0 KH,qm2 C0 rH,qa C0 KH,Ac Iw,Ac PR,and_self],trivial,leaf _ _ (.put rfl) rfl rfl (fun h=>by rw [←hp]; exact h) (fun h=>by rw [←hp]; exact h)⟩
  ·have gg:l.take i=l:=List.take_of_length_le (by omega); rw [gg] at hw hr; have Bq:∀ j,j<l.length→Ir c l j=false:=fun j hj=>CY j (by omega); simp only [Bs,VD,Md,ON,if_true,O0]; simp only [Aa,Av,Nat.reduceEqDiff,↓reduceIte,h1]; simp only [Ac jQ,AA]
   refine Du (fun i e ds W'=>ds=[]∧O6 W W' W.sz b4 b6 r1 r2 w r c∧e 161=.slice a l.length cap∧e 162=.int .i64 l.length∧e 163=.int .i64 i∧e 4=.pointer (some ⟨b4,0,none⟩)∧e 6=.pointer (some ⟨b6,0,none⟩)∧O3 CE.type W' w l∧O3 CE.to W' r l∧∀ j s,j<i→l[j]?=some s→O4 l s=false) l.length
    ⟨rfl,I',rfl,rfl,rfl,h4,h6,hw,hr,by omega⟩ ?_
   rintro i2 e2 ds2 W2 hi2 ⟨rfl,I2,AAR,AAS,AAT,g4,g6,Er,OP,QK⟩; rw [uL,AAR,AAS,AAT,g6]; simp only [A6,AA]
   refine Gx (fun Ax=>?_) (fun vA=>?_)
   ·obtain ⟨s,hs⟩:∃ s,l[i2]?=some s:=⟨_,List.getElem?_eq_getElem Ax⟩
    have hlW:Ay 3 (Ou W2) (.slice a l.length cap) l:=hl.imp fun _ _ _ hr=>hr.kp ht I2.kp; obtain ⟨a',cap',ha,BA⟩:=id hlW
    cases ha
    obtain ⟨p,rfl,T'⟩:=BA i2 _ hs; obtain ⟨am,cm,uw,gj,Ae⟩:=T'.ld; rw [BH jQ gR Ax]; simp only [AA,uw]; refine DG pV gR rfl rfl rfl I2.top fun NB ek t12 z12 OO=>?_; have xT:=I2.VU ek t12; obtain ⟨ws,L,bF,Mo⟩:=cZ (Er.kp I2.top ek) s.to; simp only [XJ,Lo,AA]; rw [AD xS (a:=⟨b6,0,none⟩) (xT.b6.cell rfl),AD a9 (a:=⟨W2.sz,0+1,none⟩) (OO.cell rfl)]; simp only [AA,L,CA,CB]; refine DG pV gR rfl Mo bF t12 fun Lf Xn t14 z14 vH=>?_; have vD:=xT.VU Xn t14; have rJ:O4 l s=(l.find? fun x=>decide (x.type=s.to)).isSome:=rfl
    refine AL (fun hb=>?_) (fun hb=>?_)
    ·rw [g4,XL vD.b6]; simp only [AA]
     have Gc:BZ c l=false:=by
      rw [KM,DZ Ax (by rw [O5 hs,rJ,hb]; simp)]; rfl
     refine F1 Lf false vD Gc.symm (fun h=>by rw [Gc] at h; cases h) fun W8 pb=>?_; simp only [RU,KR,RR,HC,Ud,cF]; exact pb _ g4 rfl
    ·simp only [RU,Bs,HC]; simp only [Aa,Av,Nat.reduceEqDiff,↓reduceIte,AAT,Ap,AA]; refine ⟨Ax,trivial,vD,AAR,AAS,by rw [Dv (by omega)],g4,g6,Er.kp I2.top (ek.trans Xn),OP.kp I2.top (ek.trans Xn),fun j s' hj L5=>?_⟩
     rcases Nat.lt_succ_iff_lt_or_eq.1 hj with h | rfl
     ·exact QK j s' h L5
     ·rw [hs] at L5; cases L5; rw [rJ]; exact hb
   ·have QJ:BZ c l=true:=by
     rw [KM,Em fun j hj=>?_]
     ·rfl
     ·have lk:=List.getElem?_eq_getElem hj; rw [O5 lk,Bq j hj,QK j _ (by omega) lk]; rfl
    simp only [Bs,VD,Md,ON,if_true,cF]; simp only [Aa,Av,Nat.reduceEqDiff,↓reduceIte,g4,g6]; rw [XL I2.b6]; simp only [AA]; exact F1 W2 true I2 QJ.symm (fun _=>⟨Er,OP⟩) fun W8 pb=>pb _ g4 rfl
end Go.Ce
namespace Go.Ce
open Go Go.Proofs Go.Proofs.Tryz
structure gl (W:CW) (bk bx r1 r2:Nat) (c:List Af) (ty:ByteArray) (n:Nat):Prop where
 k0:W.cell bk 0=some (.map (some r1))
 k1:W.cell bk 1=some (.map (some r2))
 cat:DW W r1 r2 c
 x0:W.cell bx 0=some (.string ty)
 x1:∃ a cap,W.cell bx 1=some (.slice a n cap)
theorem RX.elem {W:CW} {r:Nat} {c:List Af} (h:RX W r c) {s:ByteArray} {i:Nat} (hi:BC c s=Option.some i):∃ a b f g,HB prog 75 (.map (Option.some r)) (.string s) false W=Option.some (.agg #[a,b,f,.int .u8 (elemAt c i),g]):=by
 obtain ⟨u,x,hx,hu,_,l2⟩:=h.some hi; obtain ⟨vf,ab,lb,cb,rfl,_⟩:=hu; exact ⟨_,_,_,_,by unfold elemAt; rw [hx]; exact l2⟩
theorem N_ {l:Nat} {args:List Value} {W:CW} {K:Value→CW→Prop} {KP:List PanicEntry→CW→Prop} (h:Ho prog AT l args W (AV K KP)):Dj prog AT (.func (.yield l) #[] #[]) args W K KP:=by
 unfold Dj G_
 simpa using h
theorem LN (Q:Ending→CW→Prop) (x:Exit) (hx:x=.normal∨x=.ret) (e:Env) (W:CW) (h:Q (.returned (.tuple #[])) W):AK prog Tryz.f108 Q x e [] W:=by
 have hr:Tryz.f108.results.toList=[]:=by kernel_rfl
 rcases hx with rfl | rfl <;> simp only [AK,Bu,hr,Hp] <;> exact h
theorem gm {l bk bx r1 r2 n ix:Nat} {c:List Af} {ty:ByteArray} (OA:BC c ty=some ix) (KN:n<100000) (hn:elemAt c ix=0→n≤(Ai c ix).length) (J:Nat→CW→Prop) (Stop:CW→Prop) (hJ:∀ i W,J i W→gl W bk bx r1 r2 c ty n)
  (cd:∀ i W,i<n→J i W→Ho prog AT l [.int .i64 i,.int .u8 (A9 c ix i)] W fun e W'=>(e=.returned (.bool true)∧J (i+1) W')∨(e=.returned (.bool false)∧Stop W')) {W:CW} (h0:J 0 W) :
  AH prog AT 108 [.func (.yield l) #[] #[],.pointer (some ⟨bk,0,none⟩),.pointer (some ⟨bx,0,none⟩)] W fun e W'=>e=.returned (.tuple #[])∧(J n W'∨Stop W'):=by
 refine lY ?_; rw [lX]; have K0:=hJ 0 W h0; obtain ⟨a0,ACV,Xg⟩:=K0.x1; obtain ⟨ea,eb,ef,eg,Mp⟩:=K0.cat.sh.elem OA; simp only [HS,GF,Dg,AA]; rw [AD pO (a:=⟨bk,0,none⟩) K0.k0,AD a9 (a:=⟨bx,0,none⟩) K0.x0,AD ND (a:=⟨bx,0+1,none⟩) Xg]; simp only [AA,Mp,N6,Ac Iw]; refine Du (fun i e ds W'=>ds=[]∧e 0=.func (.yield l) #[] #[]∧e 1=.pointer (some ⟨bk,0,none⟩)∧e 2=.pointer (some ⟨bx,0,none⟩)∧e 4=.int .u8 (elemAt c ix)∧e 15=.int .i64 n∧e 16=.int .i64 i∧J i W') n ⟨rfl,rfl,rfl,rfl,rfl,rfl,rfl,h0⟩ ?_; rintro i e ds W' hi ⟨rfl,h0,h1,h2,h4,pf,h16,hj⟩; rw [ed,h1,h2,h4,pf,h16]; simp only [A6,AA]
 refine Gx (fun Ax=>?_) (fun NW=>?_)
 ·have Ds:∀ (e1:Env),ER [0,1,2,4,15,16] e e1→e1 5=.int .i64 i→e1 6=.int .u8 (A9 c ix i) →
    (Lu none (J5 (fun i e ds W'=>ds=[]∧e 0=.func (.yield l) #[] #[]∧e 1=.pointer (some ⟨bk,0,none⟩)∧e 2=.pointer (some ⟨bx,0,none⟩)∧e 4=.int .u8 (elemAt c ix)∧e 15=.int .i64 n∧e 16=.int .i64 i∧J i W') i n (BU 0 (AK prog Tryz.f108 fun e W'=>e=.returned (.tuple #[])∧(J n W'∨Stop W'))))) .normal e1 [] W':=by
   intro e1 hA h5 h6; have g0:=(hA 0 (by decide)).trans h0; have g16:=(hA 16 (by decide)).trans h16; simp only [Lu,Bs,g0,h5,h6]; refine N_ ((cd i W' Ax hj).mono fun en W1 hp=>?_)
   rcases hp with ⟨rfl,sW⟩ | ⟨rfl,Es⟩
   ·simp only [AV,Al,AA,Bool.not_true,Ao,IV,Bs,KR,RR,HC,Ud]; simp only [Aa,Av,Nat.reduceEqDiff,↓reduceIte,g16,Ap,AA]; exact ⟨Ax,trivial,g0,(hA 1 (by decide)).trans h1,(hA 2 (by decide)).trans h2,(hA 4 (by decide)).trans h4,(hA 15 (by decide)).trans pf,by rw [Dv (by omega)],sW⟩
   ·simp only [AV,Al,AA,Bool.not_false,Bm,IV,Bs,KR,RR,HC,Ud]; exact LN _ _ (.inr rfl) _ _ ⟨rfl,.inr Es⟩
  simp only [Bf,AA]
  refine AL (fun he=>?_) (fun he=>?_)
  ·have he:elemAt c ix=0:=by simpa using he
   have Ki:=hJ i W' hj; have K5:=GG OA; have Xi:i<(Ai c ix).length:=by have:=hn he; omega
   obtain ⟨ar,cr,lr,nj⟩:=Ki.cat.rw.some OA; obtain ⟨_,_,e3,hrc⟩:=nj
   cases e3
   obtain ⟨pr,rfl,OM⟩:=hrc i _ (List.getElem?_eq_getElem Xi); simp only [IW,GF,AA]; rw [AD rB (a:=⟨bk,0+1,none⟩) Ki.k1,AD a9 (a:=⟨bx,0,none⟩) Ki.x0]; simp only [AA,lr]; rw [BH PR s5 Xi]; simp only [AA]; rw [AD a5 (a:=⟨pr.block,pr.off+i*1,none⟩) OM]; simp only [AA]; refine Ds _ (.put rfl) rfl ?_; show Value.int .u8 (Ai c ix)[i]=_; rw [H0 he K5,List.getElem?_eq_getElem Xi]; rfl
  ·have he:elemAt c ix≠0:=by simpa using he
   refine Ds _ (.put rfl) rfl ?_; show Value.int .u8 (elemAt c ix)=_; have K5:=GG OA; unfold A9; unfold elemAt at he ⊢; rw [List.getElem?_eq_getElem K5] at he ⊢; simp only at he ⊢; rw [if_pos he]
 ·simp only [Md,ON,if_true]; have hi:i=n:=by omega
  exact LN _ _ (.inl rfl) _ _ ⟨rfl,.inl (hi ▸ hj)⟩
theorem RZ {fn:FuncId} {nt:Nat} {f:Operand} {p1 p2 a1 a2:Tmp} {A B:Code} {e:Env} {ds:List Deferred} {W:CW} {K:AG} {bk bx r1 r2 n ix:Nat} {c:List Af} {ty:ByteArray} (ht:At W)
  (hf:e.ev f=.func (.func 108) #[] #[.pointer (some ⟨bk,0,none⟩),.pointer (some ⟨bx,0,none⟩)]) (OA:BC c ty=some ix) (KN:n<100000) (hn:elemAt c ix=0→n≤(Ai c ix).length)
  (hA:∀ ro e0 ds K W,AP prog AT ro fn nt A e0 ds W K=K .normal (Env.of e0 [(a2,e0 p2),(a1,e0 p1)]) ds W) (mH:p1≠p2∧a1≠a2)
  (J:Nat→CW→Prop) (Stop:Exit→CW→Prop) (hJ:∀ i W,J i W→gl W bk bx r1 r2 c ty n)
  (vI:∀ i W1 W2,J i W1→DM (W.sz+1) W1 W2→(∀ b k v,W1.cell b k=some v→W2.cell b k=some v)→J i W2)
  (xQ:∀ x W1 W2,Stop x W1→DM (W.sz+1) W1 W2→(∀ b k v,W1.cell b k=some v→W2.cell b k=some v)→Stop x W2)
  (h0:∀ W2,Kp W W2→At W2→W2.sz=W.sz+2→W2.obj W.sz=some .deferred→J 0 W2)
  (YS:∀ (i:Nat) W1 (Kb:AG) (E:Env),(∀ t,t≠p1→t≠p2→t≠a1→t≠a2→E t=e t)→E a1=.int .i64 i→E a2=.int .u8 (A9 c ix i)→i<n→J i W1→(∃ o,W1.obj (W.sz+1)=some o∧∀ a b c d,o≠.cells a b c d) →
   (∀ e' C_ W3,W3.obj (W.sz+1)=W1.obj (W.sz+1)→J (i+1) W3→Kb .normal e' C_ W3)→(∀ e' C_ W3,W3.obj (W.sz+1)=W1.obj (W.sz+1)→Stop .ret W3→Kb .ret e' C_ W3)→(∀ id e' C_ W3,W3.obj (W.sz+1)=W1.obj (W.sz+1)→Stop (.exit id) W3→Kb (.exit id) e' C_ W3) →
   AP prog AT (some (W.sz+1)) fn nt B E [] W1 Kb)
  (EA:∀ W',J n W'→K .normal e (mark W.sz::ds) W') (rK:∀ x W',Stop x W'→K x e (mark W.sz::ds) W') :
  C1 prog AT none fn nt (.rangeFunc f #[p1,p2] A B) e ds W K:=by
 have BA:∀ {W1 W2:CW} {st DE RD e' Yu Yv A' B' d'},DK W1 (W.sz+1) st DE RD e' Yu Yv A' B' d'→DM (W.sz+1) W1 W2→∀ b k v,W1.cell b k=some v→W2.cell b k=some v:=by
  intro W1 W2 st DE RD e' Yu Yv A' B' d' hl hu b k v hc; obtain ⟨T,ho,_⟩:=hl
  rw [hu.cell]
  ·exact hc
  ·rintro rfl; unfold CW.cell at hc; rw [ho] at hc; cases hc
 refine oz (g:=108) (args:=[.func (.yield (W.sz+1)) #[] #[],.pointer (some ⟨bk,0,none⟩),.pointer (some ⟨bx,0,none⟩)]) ht ?_ fun W2 k2 t2 z2 hd hl=>?_
 ·rw [hf]; rfl
 ·refine (gm (J:=fun i W'=>J i W'∧DK W' (W.sz+1) .ready none fn e nt #[p1,p2] A B W.sz) (Stop:=fun W'=>∃ x,Stop x W'∧∃ pd,DK W' (W.sz+1) .done (some pd) fn e nt #[p1,p2] A B W.sz∧((pd=.ret∧x=.ret)∨∃ id,pd=.exit id∧x=.exit id)) OA KN hn (fun i W' h=>hJ i W' h.1) (fun i W' hi h=>?_) ⟨h0 W2 k2 t2 z2 hd,hl⟩).mono fun en W' ⟨he,hr⟩=>?_
  ·obtain ⟨hj,UJ⟩:=h; refine eV UJ rfl ?_; rw [hA]; refine ⟨rfl,none,e,nt,#[p1,p2],A,B,W.sz,UJ,fun W3 hu jM=>?_⟩; have hj3:=vI i W' W3 hj hu (BA UJ hu); obtain ⟨rL,hd2⟩:=mH
   refine YS i W3 _ _ (fun t h1 h2 h3 h4=>by simp only [Aa,Av,List.zip_cons_cons,List.zip_nil_left,Env.G8,if_neg h1,if_neg h2,if_neg h3,if_neg h4]) (by simp only [Aa,Av,List.zip_cons_cons,List.zip_nil_left,Env.G8,if_neg rL,if_neg hd2,if_true]) (by simp only [Aa,Av,List.zip_cons_cons,List.zip_nil_left,Env.G8,if_true,if_neg (Ne.symm rL)]) hi hj3 (by obtain ⟨T,ho,_⟩:=jM; exact ⟨_,ho,fun _ _ _ _ h=>by cases h⟩) (fun e' C_ W4 ho hj4=>?_) (fun e' C_ W4 ho kH=>?_) (fun id e' C_ W4 ho kH=>?_)
   ·refine ⟨.busy,none,fn,e,nt,#[p1,p2],A,B,W.sz,jM.congr ho,fun W5 Q1 vJ=>.inl ⟨rfl,?_,vJ⟩⟩; exact vI _ W4 W5 hj4 Q1 (BA (jM.congr ho) Q1)
   ·refine ⟨.busy,none,fn,e,nt,#[p1,p2],A,B,W.sz,jM.congr ho,fun W5 Q1 vJ=>.inr ⟨rfl,.ret,?_,.ret,vJ,.inl ⟨rfl,rfl⟩⟩⟩; exact xQ _ W4 W5 kH Q1 (BA (jM.congr ho) Q1)
   ·refine ⟨.busy,none,fn,e,nt,#[p1,p2],A,B,W.sz,jM.congr ho,fun W5 Q1 vJ=>.inr ⟨rfl,.exit id,?_,.exit id,vJ,.inr ⟨id,rfl,rfl⟩⟩⟩; exact xQ _ W4 W5 kH Q1 (BA (jM.congr ho) Q1)
  ·refine ⟨⟨_,he⟩,?_⟩
   rcases hr with ⟨hj,UJ⟩ | ⟨x,hs,pd,UJ,hx⟩
   ·refine ⟨.ready,none,fn,e,nt,#[p1,p2],A,B,W.sz,UJ,(by intro h; cases h),fun W5 Q1=>EA W5 ?_⟩; exact vI _ W' W5 hj Q1 (BA UJ Q1)
   ·refine ⟨.done,some pd,fn,e,nt,#[p1,p2],A,B,W.sz,UJ,(by intro h; cases h),fun W5 Q1=>?_⟩; have hs5:=xQ _ W' W5 hs Q1 (BA UJ Q1)
    rcases hx with ⟨rfl,rfl⟩ | ⟨id,rfl,rfl⟩
    ·exact rK _ W5 hs5
    ·exact rK _ W5 hs5
end Go.Ce
